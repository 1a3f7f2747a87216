/- slices.Contains of ints. -/
import Derived.Test.YtpbgjldjipgfeaaOpenI
import Derived.Test.YtpbgjldjipgfeaaPackA
namespace Go.Proofs.Ytpbgjldjipgfeaa
open Go.RowKit
set_option linter.unusedVariables false

set_option maxHeartbeats 1000000 in
theorem intIndex {kv : Value} {ks : List Int} {G : Nat → Prop} {k : Int} {w : World} (hk : RdI w G kv ks) :
    Calls Try.prog 58 #[kv, .int .i64 k] w fun e w' => ∃ j : Int, e = .returned (.int .i64 j) ∧ decide (0 ≤ j) = ks.contains k ∧ w' = w := by
  obtain ⟨A, c, rfl, hcc, hcm⟩ := RdV.shape hk
  have hcm' : ks.length ≤ 9223372036854775807 := by unfold maxLen at hcm; omega
  go_enter Try.func58, Try.ntmps58
  go_wp2_with fail
  go_loopw [8] (fun iv wr => ∃ (l1 l2 : List Int), iv = .int .i64 (l1.length : Int) ∧ Hid (ks = l1 ++ l2) ∧ Hid (l1.contains k = false) ∧ wr = w) (fun iv _ => ks.length - (intOf iv).toNat)
  case atStart => exact ⟨[], ks, rfl, hide rfl, hide rfl, rfl⟩
  case round =>
    obtain ⟨l1, l2, rfl, HL, HC, hwr⟩ := hrel
    subst hwr
    have hlen : ks.length = l1.length + l2.length := by rw [HL.out, List.length_append]
    rcases l2 with _ | ⟨y, l2⟩
    · have hge : ¬ ((l1.length : Int) < (ks.length : Int)) := by simp at hlen; omega
      have hkc : ks.contains k = false := by rw [HL.out, List.append_nil]; exact HC.out
      have HK := hide hkc
      clear hkc
      go_wp2_with fail
      go_ret
      refine ⟨-1, rfl, ?_, rfl⟩
      have h := HK.out
      simp at h ⊢
      exact h
    · have h1 : l1.length < ks.length := by rw [hlen]; simp
      have h1i : (l1.length : Int) < (ks.length : Int) := by omega
      have h0i : (0 : Int) ≤ (l1.length : Int) := by omega
      obtain ⟨ad, rfl, _, c1⟩ := RdI.at_ hk h1
      have hy : ks[l1.length] = y := by
        have : ks[l1.length]? = some y := by rw [HL.out]; simp
        exact (List.getElem?_eq_some_iff.1 this).2
      rw [hy] at c1
      have HLEN := hide hlen
      clear hy hlen
      by_cases hky : k = y
      · subst hky
        go_wp2_with fail
        go_ret
        refine ⟨(l1.length : Int), rfl, ?_, rfl⟩
        rw [HL.out, decide_eq_true h0i]
        simp
      · have hb : (k == y) = false := beq_eq_false_iff_ne.2 hky
        go_wp2_with fail
        go_roundw
        case rel => exact ⟨l1 ++ [y], l2, by rw [List.length_append]; go_num, hide (by rw [HL.out, List.append_assoc]; rfl), hide (by rw [List.contains_eq_any_beq, List.any_append, ← List.contains_eq_any_beq, HC.out]; simp [hb]), by first | trivial | rfl⟩
        case measure => (have hlen := HLEN.out; simp at hlen; simp [intOf]; omega)
theorem intContains {kv : Value} {ks : List Int} {G : Nat → Prop} {k : Int} {w : World} (hk : RdI w G kv ks) :
    Calls Try.prog 39 #[kv, .int .i64 k] w fun e w' => e = .returned (.bool (ks.contains k)) ∧ w' = w := by
  go_enter Try.func39, Try.ntmps39
  go_wp2_with (go_at_call 58; refine (intIndex hk).mono ?_; rintro e w' ⟨j, rfl, hj, hw⟩; subst hw; have HJ := hide hj; clear hj)
  go_ret
  exact ⟨ret_bool HJ.out, rfl⟩
end Go.Proofs.Ytpbgjldjipgfeaa
