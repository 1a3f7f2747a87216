/- Slices of ints: what they read as, and how such an argument is opened. -/
import Derived.Test.YtpbgjldjipgfeaaOpen
namespace Go.Proofs.Ytpbgjldjipgfeaa
open Go.ChangeShapes Go.WideShapes Go.ChangeAt Go.RowKit Go.Deep
set_option linter.unusedVariables false

/-- the slice value v reads as the ints l -/
def RdI (w : World) (F : Nat → Prop) (v : Value) (l : List Int) : Prop := RdV w F 1 v l.length (l.map fun n => .int .i64 n)
section
variable {w w' : World} {F F' S : Nat → Prop} {v : Value} {l : List Int}
theorem RdI.chg (h : RdI w F v l) (hc : Chg S w w') (hF : ∀ k, F k → ¬ S k) : RdI w' F v l := RdV.chg h hc hF
theorem RdI.c0 (h : RdI w F v l) (hc : Chg Non w w') : RdI w' F v l := RdV.chg h hc fun _ _ h => h
theorem RdI.shape (h : RdI w F v l) : ∃ A c, v = .slice A l.length c ∧ l.length ≤ c ∧ c ≤ maxLen := RdV.shape h
theorem RdI.at_ {A : Option Addr} {n c : Nat} (h : RdI w F (.slice A n c) l) {k : Nat} (hk : k < l.length) :
    ∃ ad, A = some ad ∧ F ad.block ∧ w.cell? (ad.add k) = some (.int .i64 l[k]) := by
  obtain ⟨A', c', e, _, _⟩ := RdV.shape h
  injection e with e1 e2 e3
  subst e1; subst e2; subst e3
  obtain ⟨ad, u, hA, hf, hu, hc⟩ := RdV.at_ h hk (i := 0) (by omega)
  refine ⟨ad, hA, hf, ?_⟩
  simp only [Nat.mul_one, Nat.add_zero] at hu hc
  rw [List.getElem?_map, List.getElem?_eq_getElem hk] at hu
  rw [hc, ← hu]
  rfl
theorem RdI.front {A : Option Addr} {n c j : Nat} (h : RdI w F (.slice A n c) l) (hj : j ≤ l.length) : RdI w F (.slice A j c) (l.take j) := by
  obtain ⟨A', c', e, hc, hm⟩ := RdV.shape h
  injection e with e1 e2 e3
  subst e1; subst e2; subst e3
  obtain ⟨h1, A2, c2, e, _, _, h2⟩ := h
  injection e with e1 e2 e3
  subst e1; subst e3
  have el : (l.take j).length = j := by simp; omega
  unfold RdI RdV
  rw [el]
  refine ⟨by simp; omega, A, c, rfl, by omega, hm, fun hn => ?_⟩
  obtain ⟨ad, rfl, hf, hcell⟩ := h2 (by omega)
  refine ⟨ad, rfl, hf, fun i u hu => hcell i u ?_⟩
  rw [List.getElem?_map, List.getElem?_take] at hu
  rw [List.getElem?_map]
  split at hu
  · exact hu
  · cases hu
end

section
variable {H : Type} {enc : TypeId × Value → H} {W : World} {v : Value} {d : DataW H} {p : List MemPlace}
set_option maxRecDepth 100000 in
theorem openI {base : Nat} (hv : Value.okWide Try.prog W .any base 27 v) (h : DataW.Trod enc Try.prog W 0 (fun _ => true) true 27 v d p) :
    ∃ l : List Int, RdI W (fun k => k < W.heap.size) v l ∧ Sizes l.length d := by
  obtain ⟨a, n, c, rfl⟩ := okWide_slice Try.underlying27 hv
  obtain ⟨fuel, hf⟩ := h
  rcases open_ints Try.underlying27 Try.underlying3 (by kernel_rfl) hf with ⟨hcs, hx⟩ | ⟨a, l, c, zs, hcs, _, hl, hm, hz, hx, hcell, hwz⟩
  · simp only [Value.cells, List.cons.injEq, and_true] at hcs
    simp only [Prod.mk.injEq] at hx
    rw [hcs, hx.1]
    exact ⟨[], RdV.nil_ _ _ _, by simp [Rows.uptoBulk], fun _ _ => Nat.zero_le _⟩
  · simp only [Value.cells, List.cons.injEq, and_true] at hcs
    simp only [Prod.mk.injEq] at hx
    rw [hcs, hx.1]
    have hz' : l ≤ zs.length := by simp at hz; omega
    have e : (zs.take l).length = l := by simp; omega
    refine ⟨zs.take l, RdV.mono (F := fun k => True ∧ k < W.heap.size) (RdV.lt ?_ (by omega)) fun k hk => hk.2, ?_, fun m hm => ?_⟩
    · unfold RdV
      rw [e]
      refine ⟨by rw [List.length_map, e]; omega, some a, c, rfl, hl, hm, fun _ => ⟨a, rfl, trivial, fun j u hu => ?_⟩⟩
      rw [List.getElem?_map] at hu
      obtain ⟨n, hn, rfl⟩ := Option.map_eq_some_iff.1 hu
      rw [List.getElem?_take] at hn
      split at hn
      · have hj : j < zs.length := by omega
        rw [hcell j hj, List.getD_eq_getElem?_getD, hn]
        rfl
      · cases hn
    · simp only [Rows.uptoBulk, List.length_take]
      have h1 := Bulk.length_le (lits (H := H) .i64 (zs.take l))
      simp only [lits, List.length_map, List.length_take] at h1 ⊢
      omega
    · have := hm _ _ rfl
      simp only [lits, List.length_map, List.length_take, List.length_drop] at this ⊢
      omega
end
end Go.Proofs.Ytpbgjldjipgfeaa
