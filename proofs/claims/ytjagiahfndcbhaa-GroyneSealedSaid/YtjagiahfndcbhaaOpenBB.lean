/- How an argument that is a list of byte lists is opened. -/
import Derived.Test.YtjagiahfndcbhaaOpen
import Derived.Deep.Matrix
namespace Go.Proofs.Ytjagiahfndcbhaa
open Go.ChangeShapes Go.WideShapes Go.ChangeAt Go.RowKit Go.Deep
set_option linter.unusedVariables false

/-- what the sizes of a reading of lists give -/
def SizesBB {H : Type} (ll : List (List UInt8)) (d : DataW H) : Prop := (ll.map fun l => l.length + 1).sum + 1 ≤ Rows.uptoBulk d ∧ ∀ m, (∀ e s, d = .slice e s → e.length + s.length ≤ m) → ll.length ≤ m

section
variable {H : Type} {enc : TypeId × Value → H} {W : World} {v : Value} {d : DataW H} {p : List MemPlace}
theorem bulk_row (A : Option Addr) (L : Nat) (zs : List Int) (h : A = none → L = 0) (hl : L ≤ zs.length) : L + 1 ≤ Rows.uptoBulk (H := H) (intRow .u8 A L zs) := by
  cases A with
  | none => rw [h rfl]; simp [intRow, Rows.uptoBulk]
  | some a =>
    simp only [intRow, Rows.uptoBulk]
    have h1 := Bulk.length_le (lits (H := H) .u8 (zs.take L))
    simp only [lits, List.length_map, List.length_take] at h1 ⊢
    omega
theorem openBB {base : Nat} (hv : Value.okWide Try.prog W .any base 22 v) (h : DataW.Trod enc Try.prog W 0 (fun _ => true) true 22 v d p) :
    ∃ ll : List (List UInt8), RdBB W (fun k => k < W.heap.size) v ll ∧ SizesBB ll d := by
  obtain ⟨a, n, c, rfl⟩ := okWide_slice Try.underlying22 hv
  obtain ⟨fuel, hf⟩ := h
  rcases open_int_rows Try.underlying22 Try.underlying27 Try.underlying5 (by kernel_rfl) (by kernel_rfl) hf with ⟨hcs, hx⟩ | ⟨a, len, cap, A, L, C, Z, hcs, _, hl, hm, hx, hi⟩
  · simp only [Value.cells, List.cons.injEq, and_true] at hcs
    simp only [Prod.mk.injEq] at hx
    rw [hcs, hx.1]
    exact ⟨[], RdBB.nil_ _ _, by simp [Rows.uptoBulk], fun _ _ => Nat.zero_le _⟩
  · simp only [Value.cells, List.cons.injEq, and_true] at hcs
    simp only [Prod.mk.injEq] at hx
    rw [hcs, hx.1]
    have hrow : ∀ r, r < cap → RdB W (fun k => k < W.heap.size) (.slice (A r) (L r) (C r)) (((Z r).take (L r)).map toB) ∧ (((Z r).take (L r)).map toB).length = L r := fun r hr => by
      obtain ⟨_, h1, h2, h3, h4, h5, h6⟩ := hi r hr
      refine ⟨?_, by simp; omega⟩
      cases hA : A r with
      | none =>
        have := h5 hA
        have hz : L r = 0 := by omega
        rw [hz, this]
        simpa using RdB.nil_ W _
      | some a' => exact rdB_of_cells h1 h2 (by omega) (fun c hc => (h6 a' hA).2 c (by omega)) h4
    have el : ((List.range len).map fun r => ((Z r).take (L r)).map toB).length = len := by simp
    refine ⟨(List.range len).map fun r => ((Z r).take (L r)).map toB, ⟨(List.range len).map fun r => .slice (A r) (L r) (C r), by simp, ?_, fun k x l hx hl' => ?_⟩, ?_, fun m hm => ?_⟩
    · refine RdV.mono (F := fun k => True ∧ k < W.heap.size) (RdV.lt ?_ (by omega)) fun k hk => hk.2
      rw [el]
      refine ⟨by simp, some a, cap, rfl, hl, hm, fun _ => ⟨a, rfl, trivial, fun j u hu => ?_⟩⟩
      rw [List.getElem?_map] at hu
      obtain ⟨r, hr, rfl⟩ := Option.map_eq_some_iff.1 hu
      have hj := (List.getElem?_eq_some_iff.1 hr).1
      rw [List.length_range] at hj
      rw [List.getElem?_range hj] at hr
      injection hr with hr
      subst hr
      exact (hi j (by omega)).1
    · rw [List.getElem?_map] at hx hl'
      obtain ⟨r, hr, rfl⟩ := Option.map_eq_some_iff.1 hx
      rw [hr] at hl'
      simp only [Option.map_some, Option.some.injEq] at hl'
      subst hl'
      have hj := (List.getElem?_eq_some_iff.1 hr).1
      rw [List.length_range] at hj
      rw [List.getElem?_range hj] at hr
      injection hr with hr
      subst hr
      exact (hrow k (by omega)).1
    · simp only [Rows.uptoBulk]
      have h1 := Bulk.sum_le (fun r => L r + 1) (fun r => intRow (H := H) .u8 (A r) (L r) (Z r)) (List.range len) fun r hr => by
        have hr := List.mem_range.1 hr
        obtain ⟨_, h1, h2, h3, h4, h5, h6⟩ := hi r (by omega)
        exact bulk_row _ _ _ (fun h => by have := h5 h; omega) (by omega)
      have h2 : (((List.range len).map fun r => ((Z r).take (L r)).map toB).map fun l => l.length + 1) = (List.range len).map fun r => L r + 1 := by
        rw [List.map_map]
        refine List.map_congr_left fun r hr => ?_
        have hr := List.mem_range.1 hr
        simp only [Function.comp]
        rw [(hrow r (by omega)).2]
      rw [h2]
      omega
    · have := hm _ _ rfl
      simp only [List.length_map, List.length_range] at this ⊢
      omega
end
end Go.Proofs.Ytjagiahfndcbhaa
