/- The walk of groyneref06.Bytes, kind by kind. -/
import Derived.Test.YtnedinbgibjjoaaRecF
namespace Go.Proofs.Ytnedinbgibjjoaa
open Go.RowKit
set_option linter.unusedVariables false

theorem OwnT.newk {w w' : World} {base : Nat} {v : Value} {ll : List (List UInt8)} (h : OwnT w base v ll) (hc : Chg Non w w') : ∀ b, b = w'.heap.size → v.ownBlock ≠ some b := fun b hb e => by
  have := (h.lt b e).2
  have := hc.size
  omega
theorem run_conv (s : ByteArray) : ∀ w, (convert 9 28 (.string s)).run Try.prog w = .ok (.slice (some ⟨w.heap.size, 0, none⟩) s.size (grownCap w s.size 0 5)) (Lib.bytesWorld w 5 s) := fun w => conv_bytes w s

end Go.Proofs.Ytnedinbgibjjoaa

namespace Go.Proofs.Ytnedinbgibjjoaa
open Go.RowKit
set_option linter.unusedVariables false

theorem hasT_not {k : Int} (h : ¬ (1 ≤ k ∧ k ≤ 9)) : hasT k = false := by
  unfold hasT
  have h6 : (k == 6) = false := beq_eq_false_iff_ne.2 (by omega)
  have h9 : (k == 9) = false := beq_eq_false_iff_ne.2 (by omega)
  rw [h6, h9]
  by_cases h1 : 1 ≤ k
  · rw [decide_eq_false (by omega : ¬ k ≤ 4)]; simp
  · rw [decide_eq_false h1]; simp
theorem fldR_not {x : RcS} (h : ¬ (1 ≤ x.kind ∧ x.kind ≤ 9)) : fldR x = [] := by
  rw [fldR, if_neg (by omega), if_neg (by omega), if_neg (by omega), if_neg (by omega), if_neg (by omega)]

end Go.Proofs.Ytnedinbgibjjoaa
