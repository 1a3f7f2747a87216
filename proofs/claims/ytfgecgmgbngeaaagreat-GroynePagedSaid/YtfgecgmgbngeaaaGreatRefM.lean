/- The walks of groyneref01's small functions: Copy, Cmp, Equal, In, After. -/
import Derived.Test.YtfgecgmgbngeaaaGreatBase
import Derived.Test.YtfgecgmgbngeaaaGreatPkM
import Derived.Test.YtfgecgmgbngeaaaGreatBBM
import Derived.Test.YtfgecgmgbngeaaaGreatSlc
set_option linter.unusedVariables false
set_option linter.unusedSimpArgs false
set_option maxRecDepth 100000
namespace Go.Proofs.YtfgecgmgbngeaaaGreat
open Go.RowKit

set_option maxHeartbeats 400000 in
theorem refCmp {v u : Value} {xs ys : List UInt8} {F G : Nat → Prop} {w : World} (ha : RdB w F v xs) (hb : RdB w G u ys) :
    Calls Tryz.prog 16 #[v, u] w fun e w' => e = .returned (.int .i64 (cmpB xs ys)) ∧ ∃ k, w' = w.drewN k := by
  obtain ⟨A, c, rfl, hc, hm⟩ := ha.shape
  obtain ⟨B, d, rfl, hd, hn⟩ := hb.shape
  unfold maxLen at hm hn
  go_enter Tryz.func16, Tryz.ntmps16
  go_wp2
  go_loopw [5] (fun i wr => ∃ k q : Nat, k ≤ xs.length ∧ k ≤ ys.length ∧ i = .int .i64 k ∧ Hid (cmpB xs ys = cmpB (xs.drop k) (ys.drop k)) ∧ wr = w.drewN q) (fun i _ => xs.length - (intOf i).toNat)
  case atStart => exact ⟨0, 0, Nat.zero_le _, Nat.zero_le _, rfl, hide rfl, rfl⟩
  case round =>
    obtain ⟨k, q, hk, hk', rfl, hcm, rfl⟩ := hrel
    by_cases h1 : k < xs.length ∧ k < ys.length
    · have HS := hide (cmpB_drop xs ys k h1.1 h1.2)
      obtain ⟨h1, h2⟩ := h1
      obtain ⟨ad, rfl, _, hca⟩ := ha.at_ h1
      obtain ⟨bd, rfl, _, hcb⟩ := hb.at_ h2
      go_wp2
      go_quiet (fail)
      go_wp2
      · go_ret
        refine ⟨ret_int ?_, _, dn2 _ _ _⟩
        rw [hcm.out, HS.out, if_pos (by rw [UInt8.lt_iff_toNat_lt]; omega)]
      · go_quiet (fail)
        go_wp2
        · go_ret
          refine ⟨ret_int ?_, _, dn3 _ _ _ _⟩
          rw [hcm.out, HS.out, if_neg (by rw [UInt8.lt_iff_toNat_lt]; omega), if_pos (by rw [UInt8.lt_iff_toNat_lt]; omega)]
        · go_roundw
          case rel =>
            refine ⟨k + 1, _, by omega, by omega, by go_num, hide ?_, rfl⟩
            rw [hcm.out, HS.out, if_neg (by rw [UInt8.lt_iff_toNat_lt]; omega), if_neg (by rw [UInt8.lt_iff_toNat_lt]; omega)]
          case measure => simp [intOf]; omega
    · have HS := hide (cmpB_end xs ys k hk hk' h1)
      by_cases h3 : k < xs.length
      all_goals
        go_wp2
        all_goals
          go_ret
          refine ⟨ret_int ?_, _, rfl⟩
          rw [hcm.out, HS.out]
          first | rw [if_pos (by omega)] | rw [if_neg (by omega), if_pos (by omega)] | rw [if_neg (by omega), if_neg (by omega)]
set_option maxHeartbeats 400000 in
theorem refEqual {v u : Value} {xs ys : List UInt8} {F G : Nat → Prop} {w : World} (ha : RdB w F v xs) (hb : RdB w G u ys) :
    Calls Tryz.prog 75 #[v, u] w fun e w' => e = .returned (.bool (decide (xs = ys))) ∧ ∃ k, w' = w.drewN k := by
  go_enter Tryz.func75, Tryz.ntmps75
  go_wp2_with (go_at_call 16; refine (refCmp ha hb).mono ?_; rintro e w' ⟨rfl, k, rfl⟩)
  go_ret
  refine ⟨ret_bool ?_, _, rfl⟩
  rw [Bool.eq_iff_iff]; simp [cmpB_eq_zero]
theorem refEqual_true {v u : Value} {xs : List UInt8} {F G : Nat → Prop} {w : World} (ha : RdB w F v xs) (hb : RdB w G u xs) :
    Calls Tryz.prog 75 #[v, u] w fun e w' => e = .returned (.bool true) ∧ ∃ k, w' = w.drewN k :=
  (refEqual ha hb).mono fun _ _ ⟨h1, h2⟩ => ⟨by simpa using h1, h2⟩
end Go.Proofs.YtfgecgmgbngeaaaGreat

set_option maxRecDepth 100000
namespace Go.Proofs.YtfgecgmgbngeaaaGreat
open Go.RowKit

theorem getElem_ne {α : Type} {xs ys : List α} (hl : xs.length = ys.length) {k : Nat} (hk : k < xs.length) (h : xs[k] ≠ ys[k]'(hl ▸ hk)) : xs ≠ ys := fun e => by subst e; exact h rfl
theorem take_succ_eq {α : Type} {xs ys : List α} {k : Nat} (h1 : k < xs.length) (h2 : k < ys.length) (h : xs.take k = ys.take k) (he : xs[k] = ys[k]) : xs.take (k + 1) = ys.take (k + 1) := by
  rw [List.take_succ_eq_append_getElem h1, List.take_succ_eq_append_getElem h2, h, he]
set_option maxHeartbeats 1000000 in
theorem refEquals {v u : Value} {xs ys : List (List UInt8)} {F G : Nat → Prop} {w : World} (ha : RdBB w F v xs) (hb : RdBB w G u ys) :
    Calls Tryz.prog 38 #[v, u] w fun e w' => e = .returned (.bool (decide (xs = ys))) ∧ ∃ k, w' = w.drewN k := by
  obtain ⟨A, c, rfl, hc, hm⟩ := ha.shape
  obtain ⟨B, d, rfl, hd, hn⟩ := hb.shape
  unfold maxLen at hm hn
  by_cases hl : xs.length = ys.length
  · have HL := hide hl
    have he : ((xs.length : Int) != (ys.length : Int)) = false := by simp [hl]
    clear hl
    go_enter Tryz.func38, Tryz.ntmps38
    go_wp2_with fail
    go_loopw [5] (fun iv wr => ∃ (k : Nat), k ≤ xs.length ∧ iv = .int .i64 k ∧ Hid (xs.take k = ys.take k) ∧ Quiet w wr) (fun iv _ => xs.length - (intOf iv).toNat)
    case atStart => exact ⟨0, Nat.zero_le _, rfl, hide (by simp), ⟨0, rfl⟩⟩
    case round =>
      obtain ⟨k, hk, rfl, htk, hq⟩ := hrel
      by_cases h1 : k < xs.length
      · have h2 : k < ys.length := by rw [← HL.out]; exact h1
        obtain ⟨ad, p, rfl, _, hp, hrp⟩ := (hq.rdbb ha).at_ h1
        obtain ⟨bd, p2, rfl, _, hp2, hrp2⟩ := (hq.rdbb hb).at_ h2
        have HN := fun h => hide (getElem_ne HL.out h1 h)
        have HS := fun h => hide (take_succ_eq h1 h2 htk.out h)
        have hcall := fun (j : Nat) => (refEqual (hrp.dn j) (hrp2.dn j))
        obtain ⟨x, hx⟩ : ∃ x, x = xs[k] := ⟨_, rfl⟩
        obtain ⟨y, hy⟩ : ∃ y, y = ys[k] := ⟨_, rfl⟩
        rw [← hx, ← hy] at HN HS hcall
        clear hx hy hrp hrp2
        by_cases h3 : x = y
        · have hdec : decide (x = y) = true := decide_eq_true h3
          simp only [hdec] at hcall
          have HS := HS h3
          clear h3 hdec HN
          go_wp2_with fail
          go_quiet ((go_at_call 75; exact Calls.quiet_of (hcall _)))
          go_wp2_with fail
          go_roundw
          case rel => exact ⟨k + 1, by omega, by go_num, hide HS.out, hq.dn _⟩
          case measure => simp [intOf]; omega
        · have hdec : decide (x = y) = false := decide_eq_false h3
          simp only [hdec] at hcall
          have HN := HN h3
          clear h3 hdec HS
          go_wp2_with fail
          go_quiet ((go_at_call 75; exact Calls.quiet_of (hcall _)))
          go_wp2_with fail
          go_ret
          exact ⟨ret_bool (by rw [decide_eq_false HN.out]), hq.dn _⟩
      · have HE := hide (show xs = ys by
          have h := htk.out
          rwa [List.take_of_length_le (by omega), List.take_of_length_le (by have := HL.out; omega)] at h)
        go_wp2_with fail
        go_ret
        exact ⟨ret_bool (by rw [decide_eq_true HE.out]), hq⟩
  · have he : ((xs.length : Int) != (ys.length : Int)) = true := by simp; omega
    have HN := hide (show xs ≠ ys from fun e => hl (by rw [e]))
    clear hl
    go_enter Tryz.func38, Tryz.ntmps38
    go_wp2_with fail
    go_ret
    exact ⟨ret_bool (by rw [decide_eq_false HN.out]), 0, rfl⟩
end Go.Proofs.YtfgecgmgbngeaaaGreat
