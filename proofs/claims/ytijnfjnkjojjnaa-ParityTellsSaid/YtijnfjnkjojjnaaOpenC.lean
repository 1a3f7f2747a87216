/- How an argument that is a slice of changes (a place, a byte) is opened. -/
import Derived.Test.YtijnfjnkjojjnaaOpen
import Derived.Test.YtijnfjnkjojjnaaCut03
import Derived.Deep.SlicePairs
namespace Go.Proofs.Ytijnfjnkjojjnaa
open Go.ChangeShapes Go.WideShapes Go.ChangeAt Go.RowKit Go.Deep
set_option linter.unusedVariables false

theorem flatMap_ext {α β : Type} {f g : α → List β} : ∀ (l : List α), (∀ a ∈ l, f a = g a) → l.flatMap f = l.flatMap g
  | [], _ => rfl
  | a :: l, h => by rw [List.flatMap_cons, List.flatMap_cons, h a (by simp), flatMap_ext l fun b hb => h b (by simp [hb])]
theorem flat2_length {α : Type} (f g : α → Value) : ∀ l : List α, (l.flatMap fun x => [f x, g x]).length = l.length * 2
  | [] => rfl
  | a :: l => by rw [List.flatMap_cons, List.length_append, flat2_length f g l, List.length_cons]; simp; omega

section
variable {H : Type} {enc : TypeId × Value → H} {W : World} {v : Value} {d : DataW H} {p : List MemPlace}
theorem openC {base : Nat} (hv : Value.okWide Try.prog W .any base 35 v) (h : DataW.Trod enc Try.prog W 0 (fun _ => true) true 35 v d p) :
    ∃ l : List (Int × UInt8), RdC W (fun k => k < W.heap.size) v l ∧ Sizes l.length d := by
  obtain ⟨a, n, c, rfl⟩ := okWide_slice Try.underlying35 hv
  obtain ⟨fuel, hf⟩ := h
  rcases open_slice_pairs Try.underlying35 Try.underlying37 (by kernel_rfl) rfl rfl (by kernel_rfl) (by kernel_rfl) hf with ⟨hcs, hx⟩ | ⟨a, len, cap, m, k, V0, V1, D0, D1, P0, P1, hcs, _, hl, hm, hmm, hx, hi⟩
  · simp only [Value.cells, List.cons.injEq, and_true] at hcs
    simp only [Prod.mk.injEq] at hx
    rw [hcs, hx.1]
    exact ⟨[], RdV.nil_ _ _ _, by simp [Rows.uptoBulk], fun _ _ => Nat.zero_le _⟩
  · simp only [Value.cells, List.cons.injEq, and_true] at hcs
    simp only [Prod.mk.injEq] at hx
    rw [hcs, hx.1]
    have hlm : len ≤ m := by rw [hmm]; split <;> omega
    have hV : ∀ i, i < m → V0 i = .int .i64 (intOf (V0 i)) ∧ V1 i = bv (toB (intOf (V1 i))) := fun i h => by
      obtain ⟨_, _, h0, h1⟩ := hi i h
      obtain ⟨x, e0, _, _⟩ := DataW.trod_int Try.underlying3 h0
      obtain ⟨y, e1, _, wy⟩ := DataW.trod_int Try.underlying5 h1
      simp only [List.cons.injEq, and_true] at e0 e1
      rw [e0, e1]
      exact ⟨rfl, (bv_toB wy).symm⟩
    refine ⟨(List.range len).map fun i => (intOf (V0 i), toB (intOf (V1 i))), ?_, ?_, fun q hq => ?_⟩
    · refine RdV.mono (F := fun k => True ∧ k < W.heap.size) (RdV.lt ?_ (by omega)) fun k hk => hk.2
      have el : ((List.range len).map fun i => (intOf (V0 i), toB (intOf (V1 i)))).length = len := by simp
      have hfl : ((List.range len).map fun i => (intOf (V0 i), toB (intOf (V1 i)))).flatMap (fun x => [Value.int .i64 x.1, bv x.2]) = (List.range len).flatMap fun i => [V0 i, V1 i] := by
        rw [List.flatMap_map]
        refine flatMap_ext _ fun i h => ?_
        obtain ⟨h0, h1⟩ := hV i (by have := List.mem_range.1 h; omega)
        rw [← h0, ← h1]
      unfold RdV
      rw [el, hfl]
      have hlen : ((List.range len).flatMap fun i => [V0 i, V1 i]).length = len * 2 := by rw [flat2_length, List.length_range]
      refine ⟨hlen, some a, cap, rfl, hl, hm, fun _ => ⟨a, rfl, trivial, fun j u hu => ?_⟩⟩
      have hj : j < len * 2 := by rw [← hlen]; exact (List.getElem?_eq_some_iff.1 hu).1
      obtain ⟨e1, e2⟩ := flat2_get V0 V1 (List.range len) (j / 2) (by simp; omega)
      obtain ⟨c0, c1, _, _⟩ := hi (j / 2) (by omega)
      simp only [List.getElem_range] at e1 e2
      rcases Nat.mod_two_eq_zero_or_one j with h | h
      · have e : j / 2 * 2 = j := by omega
        rw [e] at e1 c0
        rw [e1] at hu; injection hu with hu; rw [← hu]; exact c0
      · have e : j / 2 * 2 + 1 = j := by omega
        rw [e] at e2 c1
        rw [e2] at hu; injection hu with hu; rw [← hu]; exact c1
    · simp only [Rows.uptoBulk, List.length_map, List.length_range]
      have h1 := Bulk.length_le ((List.range len).map fun i => DataW.agg [D0 i, D1 i])
      simp only [List.length_map, List.length_range] at h1
      omega
    · have := hq _ _ rfl
      simp only [List.length_map, List.length_range] at this ⊢
      omega
end
end Go.Proofs.Ytijnfjnkjojjnaa
