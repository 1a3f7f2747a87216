/- The walks of groyneref01's small functions: Copy, Cmp, Equal, In, After. -/
import Derived.Test.YtlbkomalniomhaaBase
import Derived.Test.YtlbkomalniomhaaCmp
namespace Go.Proofs.Ytlbkomalniomhaa
open Go.RowKit

set_option maxHeartbeats 400000 in
theorem refCmp {v u : Value} {xs ys : List UInt8} {F G : Nat → Prop} {w : World} (ha : RdB w F v xs) (hb : RdB w G u ys) :
    Calls Try.prog 17 #[v, u] w fun e w' => e = .returned (.int .i64 (cmpB xs ys)) ∧ ∃ k, w' = w.drewN k := by
  obtain ⟨A, c, rfl, hc, hm⟩ := ha.shape
  obtain ⟨B, d, rfl, hd, hn⟩ := hb.shape
  unfold maxLen at hm hn
  go_enter Try.func17, Try.ntmps17
  go_wp2
  go_loopw [5] (fun i wr => ∃ k q : Nat, k ≤ xs.length ∧ k ≤ ys.length ∧ i = .int .i64 k ∧ Hid (cmpB xs ys = cmpB (xs.drop k) (ys.drop k)) ∧ wr = w.drewN q) (fun i _ => xs.length - (intOf i).toNat)
  case atStart => exact ⟨0, 0, Nat.zero_le _, Nat.zero_le _, rfl, hide rfl, rfl⟩
  case round =>
    obtain ⟨k, q, hk, hk', rfl, hcm, rfl⟩ := hrel
    by_cases h1 : k < xs.length ∧ k < ys.length
    · have HS := hide (cmpB_drop xs ys k h1.1 h1.2)
      obtain ⟨h1, h2⟩ := h1
      obtain ⟨ad, rfl, _, hca⟩ := ha.at_ h1
      obtain ⟨bd, rfl, _, hcb⟩ := hb.at_ h2
      go_wp2
      go_quiet (fail)
      go_wp2
      · go_ret
        refine ⟨ret_int ?_, _, dn2 _ _ _⟩
        rw [hcm.out, HS.out, if_pos (by rw [UInt8.lt_iff_toNat_lt]; omega)]
      · go_quiet (fail)
        go_wp2
        · go_ret
          refine ⟨ret_int ?_, _, dn3 _ _ _ _⟩
          rw [hcm.out, HS.out, if_neg (by rw [UInt8.lt_iff_toNat_lt]; omega), if_pos (by rw [UInt8.lt_iff_toNat_lt]; omega)]
        · go_roundw
          case rel =>
            refine ⟨k + 1, _, by omega, by omega, by go_num, hide ?_, rfl⟩
            rw [hcm.out, HS.out, if_neg (by rw [UInt8.lt_iff_toNat_lt]; omega), if_neg (by rw [UInt8.lt_iff_toNat_lt]; omega)]
          case measure => simp [intOf]; omega
    · have HS := hide (cmpB_end xs ys k hk hk' h1)
      by_cases h3 : k < xs.length
      all_goals
        go_wp2
        all_goals
          go_ret
          refine ⟨ret_int ?_, _, rfl⟩
          rw [hcm.out, HS.out]
          first | rw [if_pos (by omega)] | rw [if_neg (by omega), if_pos (by omega)] | rw [if_neg (by omega), if_neg (by omega)]

set_option maxHeartbeats 400000 in
theorem refEqual {v u : Value} {xs ys : List UInt8} {F G : Nat → Prop} {w : World} (ha : RdB w F v xs) (hb : RdB w G u ys) :
    Calls Try.prog 6 #[v, u] w fun e w' => e = .returned (.bool (decide (xs = ys))) ∧ ∃ k, w' = w.drewN k := by
  go_enter Try.func6, Try.ntmps6
  go_wp2_with (go_at_call 17; refine (refCmp ha hb).mono ?_; rintro e w' ⟨rfl, k, rfl⟩)
  go_ret
  refine ⟨ret_bool ?_, _, rfl⟩
  rw [Bool.eq_iff_iff]; simp [cmpB_eq_zero]

theorem refEqual_true {v u : Value} {xs : List UInt8} {F G : Nat → Prop} {w : World} (ha : RdB w F v xs) (hb : RdB w G u xs) :
    Calls Try.prog 6 #[v, u] w fun e w' => e = .returned (.bool true) ∧ ∃ k, w' = w.drewN k :=
  (refEqual ha hb).mono fun _ _ ⟨h1, h2⟩ => ⟨by simpa using h1, h2⟩

/-- is a key in a range -/
def inB (k a b : List UInt8) : Bool := decide (cmpB a k ≤ 0) && (b.isEmpty || decide (cmpB k b < 0))

set_option maxHeartbeats 400000 in
theorem refIn {x y z : Value} {k a b : List UInt8} {F G H : Nat → Prop} {w : World} (hk : RdB w F x k) (ha : RdB w G y a) (hb : RdB w H z b) :
    Calls Try.prog 9 #[x, y, z] w fun e w' => e = .returned (.bool (inB k a b)) ∧ ∃ k, w' = w.drewN k := by
  obtain ⟨A, c, rfl, hc, hm⟩ := hk.shape
  obtain ⟨B, d, rfl, hd, hn⟩ := ha.shape
  obtain ⟨C, f, rfl, hf, ho⟩ := hb.shape
  go_enter Try.func9, Try.ntmps9
  go_wp2_with fail
  refine (refCmp ha hk).mono ?_
  rintro e w' ⟨rfl, q, rfl⟩
  by_cases h1 : cmpB a k ≤ 0
  · by_cases h2 : b.length = 0
    · go_wp2_with fail
      go_ret
      refine ⟨ret_bool ?_, _, rfl⟩
      have : b = [] := List.eq_nil_of_length_eq_zero h2
      subst this
      simp [inB, h1]
    · go_wp2_with fail
      refine (refCmp (hk.dn q) (hb.dn q)).mono ?_
      rintro e w' ⟨rfl, q2, rfl⟩
      go_wp2_with fail
      go_ret
      refine ⟨ret_bool ?_, _, rfl⟩
      have : b.isEmpty = false := by cases b with
        | nil => exact absurd rfl h2
        | cons => rfl
      have h3 : ((b.length : Int) == 0) = false := beq_eq_false_iff_ne.2 (by omega)
      simp only [inB, decide_eq_true h1, this, h3, Bool.true_and, Bool.false_or]
  · go_wp2_with fail
    go_ret
    refine ⟨ret_bool ?_, _, rfl⟩
    simp only [inB, decide_eq_false (Int.not_le.2 h1), Bool.false_and]

end Go.Proofs.Ytlbkomalniomhaa
