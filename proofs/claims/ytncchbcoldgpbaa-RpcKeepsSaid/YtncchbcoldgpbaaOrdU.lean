/- regions that draw their order: two operations may come up. -/
import Derived.Test.YtncchbcoldgpbaaOrdT
namespace Go.Proofs.Ytncchbcoldgpbaa
open Go.RowKit
set_option linter.unusedVariables false
/-- two may come up -/
theorem AnyT.pair {P : Program} {ops : Array Oper} {Q : Exit → Act → World → Prop} {md : Region.Mode} {S : World → Prop} {L : Nat} {i j : Nat} {oi oj : Oper} {n : Nat} {done : Array Bool} {a : Act} {w : World} (hr : Region.ready md ops done = [i, j]) (hoi : ops[i]? = some oi) (hoj : ops[j]? = some oj)
    (hi : ∀ K : Act → World → Prop, Hid (∀ a1 w1, (i < L → S w1) → AnyT P md ops Q S L n (done.setIfInBounds i true) a1 w1 → K a1 w1) → if Region.wanted oi (yielded ops a.tmps) = true then Oper.wp P oi a w K Q else K (a.put oi.dst undef) w)
    (hj : ∀ K : Act → World → Prop, Hid (∀ a1 w1, (j < L → S w1) → AnyT P md ops Q S L n (done.setIfInBounds j true) a1 w1 → K a1 w1) → if Region.wanted oj (yielded ops a.tmps) = true then Oper.wp P oj a w K Q else K (a.put oj.dst undef) w) :
    AnyT P md ops Q S L (n + 1) done a w := by
  refine ⟨fun e => (by rw [hr] at e; cases e), fun k hk => ?_⟩
  rw [hr] at hk
  rcases List.mem_cons.1 hk with rfl | hk
  · exact wpOp_step hoi fun K hK => hi K (hide fun a1 w1 h1 h2 => hK a1 w1 ⟨h1, h2⟩)
  · cases List.mem_singleton.1 hk
    exact wpOp_step hoj fun K hK => hj K (hide fun a1 w1 h1 h2 => hK a1 w1 ⟨h1, h2⟩)
end Go.Proofs.Ytncchbcoldgpbaa
