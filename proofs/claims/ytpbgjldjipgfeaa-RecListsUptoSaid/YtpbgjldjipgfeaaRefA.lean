/- The walks of groyneref01's small functions: Copy, Cmp, Equal, In, After. -/
import Derived.Test.YtpbgjldjipgfeaaBase
import Derived.Test.YtpbgjldjipgfeaaCmp
namespace Go.Proofs.Ytpbgjldjipgfeaa
open Go.RowKit

set_option maxHeartbeats 400000 in
theorem refCopy {v : Value} {l : List UInt8} {F : Nat → Prop} {w : World} (hr : RdB w F v l) (hl : l.length ≤ 140737488355328) :
    Calls Try.prog 16 #[v] w fun e w' => ∃ u, e = .returned u ∧ OwnB w' w.heap.size u l ∧ Chg Non w w' := by
  obtain ⟨A, c, rfl, hc, hm⟩ := hr.shape
  go_enter Try.func16, Try.ntmps16
  go_wp2_with (at_builtin; refine append_B rfl _ _ rfl (own_zero w) rfl (hr.chg ((Chg.refl Non w).alloc _) (fun _ _ h => h)) rfl (by simpa using hl) (by simp) ?_; intro v1 w1 hown1 hg1 hat1)
  go_ret
  refine ⟨v1, rfl, hown1, ((Chg.refl Non w).alloc _).own hg1 (by simp [Value.ownBlock])⟩

set_option maxHeartbeats 400000 in
theorem refCmp {v u : Value} {xs ys : List UInt8} {F G : Nat → Prop} {w : World} (ha : RdB w F v xs) (hb : RdB w G u ys) :
    Calls Try.prog 26 #[v, u] w fun e w' => e = .returned (.int .i64 (cmpB xs ys)) ∧ ∃ k, w' = w.drewN k := by
  obtain ⟨A, c, rfl, hc, hm⟩ := ha.shape
  obtain ⟨B, d, rfl, hd, hn⟩ := hb.shape
  unfold maxLen at hm hn
  go_enter Try.func26, Try.ntmps26
  go_wp2
  go_loopw [5] (fun i wr => ∃ k q : Nat, k ≤ xs.length ∧ k ≤ ys.length ∧ i = .int .i64 k ∧ Hid (cmpB xs ys = cmpB (xs.drop k) (ys.drop k)) ∧ wr = w.drewN q) (fun i _ => xs.length - (intOf i).toNat)
  case atStart => exact ⟨0, 0, Nat.zero_le _, Nat.zero_le _, rfl, hide rfl, rfl⟩
  case round =>
    obtain ⟨k, q, hk, hk', rfl, hcm, rfl⟩ := hrel
    by_cases h1 : k < xs.length ∧ k < ys.length
    · have HS := hide (cmpB_drop xs ys k h1.1 h1.2)
      obtain ⟨h1, h2⟩ := h1
      obtain ⟨ad, rfl, _, hca⟩ := ha.at_ h1
      obtain ⟨bd, rfl, _, hcb⟩ := hb.at_ h2
      go_wp2
      go_quiet (fail)
      go_wp2
      · go_ret
        refine ⟨ret_int ?_, _, dn2 _ _ _⟩
        rw [hcm.out, HS.out, if_pos (by rw [UInt8.lt_iff_toNat_lt]; omega)]
      · go_quiet (fail)
        go_wp2
        · go_ret
          refine ⟨ret_int ?_, _, dn3 _ _ _ _⟩
          rw [hcm.out, HS.out, if_neg (by rw [UInt8.lt_iff_toNat_lt]; omega), if_pos (by rw [UInt8.lt_iff_toNat_lt]; omega)]
        · go_roundw
          case rel =>
            refine ⟨k + 1, _, by omega, by omega, by go_num, hide ?_, rfl⟩
            rw [hcm.out, HS.out, if_neg (by rw [UInt8.lt_iff_toNat_lt]; omega), if_neg (by rw [UInt8.lt_iff_toNat_lt]; omega)]
          case measure => simp [intOf]; omega
    · have HS := hide (cmpB_end xs ys k hk hk' h1)
      by_cases h3 : k < xs.length
      all_goals
        go_wp2
        all_goals
          go_ret
          refine ⟨ret_int ?_, _, rfl⟩
          rw [hcm.out, HS.out]
          first | rw [if_pos (by omega)] | rw [if_neg (by omega), if_pos (by omega)] | rw [if_neg (by omega), if_neg (by omega)]
set_option maxHeartbeats 400000 in
theorem refEqual {v u : Value} {xs ys : List UInt8} {F G : Nat → Prop} {w : World} (ha : RdB w F v xs) (hb : RdB w G u ys) :
    Calls Try.prog 10 #[v, u] w fun e w' => e = .returned (.bool (decide (xs = ys))) ∧ ∃ k, w' = w.drewN k := by
  go_enter Try.func10, Try.ntmps10
  go_wp2_with (go_at_call 26; refine (refCmp ha hb).mono ?_; rintro e w' ⟨rfl, k, rfl⟩)
  go_ret
  refine ⟨ret_bool ?_, _, rfl⟩
  rw [Bool.eq_iff_iff]; simp [cmpB_eq_zero]
theorem refEqual_true {v u : Value} {xs : List UInt8} {F G : Nat → Prop} {w : World} (ha : RdB w F v xs) (hb : RdB w G u xs) :
    Calls Try.prog 10 #[v, u] w fun e w' => e = .returned (.bool true) ∧ ∃ k, w' = w.drewN k :=
  (refEqual ha hb).mono fun _ _ ⟨h1, h2⟩ => ⟨by simpa using h1, h2⟩
end Go.Proofs.Ytpbgjldjipgfeaa
