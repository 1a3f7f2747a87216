/- How an argument that is a list of lists of texts is opened. -/
import Derived.Test.YtnoimmhdoaeeiaaDoorOpen
import Derived.Test.YtnoimmhdoaeeiaaDoorSS
import Derived.Deep.SlicePairs
import Derived.SliceStrings
namespace Go.Proofs.YtnoimmhdoaeeiaaDoor
open Go.ChangeShapes Go.WideShapes Go.ChangeAt Go.RowKit Go.Deep
set_option linter.unusedVariables false

def SizesSS {H : Type} (ll : List (List ByteArray)) (d : DataW H) : Prop := True ∧ ∀ m, (∀ e s, d = .slice e s → e.length + s.length ≤ m) → ll.length ≤ m
section
variable {H : Type} {enc : TypeId × Value → H} {W : World} {v : Value} {d : DataW H} {p : List MemPlace}
set_option maxRecDepth 100000 in
theorem openSS {base : Nat} (hv : Value.okWide Tryd.prog W .any base 22 v) (h : DataW.Trod enc Tryd.prog W 0 (fun _ => true) true 22 v d p) :
    ∃ ll : List (List ByteArray), (RdSS W (fun k => k < W.heap.size) v ll ∧ ∀ l ∈ ll, ∀ s ∈ l, s.size ≤ maxLen) ∧ SizesSS ll d := by
  obtain ⟨a, n, c, rfl⟩ := okWide_slice Tryd.underlying22 hv
  obtain ⟨fuel, hf⟩ := h
  rcases open_slice Tryd.underlying22 hf with ⟨hcs, hx⟩ | ⟨a, len, cap, m, n, D, Pl, hcs, hb, hl, hm, hmm, hx, hi⟩
  · simp only [Value.cells, List.cons.injEq, and_true] at hcs
    simp only [Prod.mk.injEq] at hx
    rw [hcs, hx.1]
    exact ⟨[], ⟨RdSS.nil_ _ _, fun l h => absurd h (List.not_mem_nil)⟩, trivial, fun _ _ => Nat.zero_le _⟩
  · simp only [Value.cells, List.cons.injEq, and_true] at hcs
    simp only [Prod.mk.injEq] at hx
    rw [hcs, hx.1]
    have hlm : len ≤ m := by rw [hmm]; split <;> omega
    have each : ∀ i, i < m → ∃ xl : Value × List ByteArray, a.block < W.heap.size ∧ W.cell? (a.add i) = some xl.1 ∧ RdS W (fun k => k < W.heap.size) xl.1 xl.2 ∧ ∀ s ∈ xl.2, s.size ≤ maxLen := by
      intro i hi'
      obtain ⟨cs', h1, h2⟩ := hi i hi'
      rw [show Tryd.prog.cellsOf 24 = 1 by kernel_rfl] at h1
      obtain ⟨_, hlen, hcell⟩ := World.cells?_some h1
      match cs', hlen with
      | [u], _ =>
        have e0 := hcell 0 (by omega)
        rw [Go.Deep.add_add] at e0
        simp at e0
        have hbk : a.block < W.heap.size := by
          have := World.block_lt_of_cell? W _ e0
          rwa [block_of_add] at this
        rcases open_strings Tryd.underlying24 Tryd.underlying9 (by kernel_rfl) h2 with ⟨q, _⟩ | ⟨b, l2, c2, ss, q, _, hl2, hm2, hss, _, hc2, hs2⟩
        · simp only [List.cons.injEq, and_true] at q
          subst q
          exact ⟨(_, []), hbk, e0, RdS.nil_ _ _, fun s h => absurd h (List.not_mem_nil)⟩
        · simp only [List.cons.injEq, and_true] at q
          subst q
          have hle : l2 ≤ ss.length := by rw [hss]; split <;> omega
          have el : (ss.take l2).length = l2 := by rw [List.length_take]; omega
          refine ⟨(_, ss.take l2), hbk, e0, ?_, fun s hs => hs2 s (List.mem_of_mem_take hs)⟩
          refine RdS.mono (F := fun k => True ∧ k < W.heap.size) (RdS.lt (F := fun _ => True) ⟨by simp, some b, c2, by rw [el], by rw [el]; exact hl2, hm2, fun _ => ⟨b, rfl, trivial, fun j u hu => ?_⟩⟩) fun k hk => hk.2
          rw [List.map_take, List.getElem?_take] at hu
          split at hu
          · rename_i hj
            rw [List.getElem?_map, List.getElem?_eq_getElem (by omega)] at hu
            simp only [Option.map_some, Option.some.injEq, sv] at hu
            subst hu
            rw [hc2 j (by omega)]
            congr 2
            rw [List.getD_eq_getElem?_getD, List.getElem?_eq_getElem (by omega)]
            rfl
          · cases hu
    obtain ⟨f, hf'⟩ := choose_lt (α := Value × List ByteArray) (p := fun i xl => a.block < W.heap.size ∧ W.cell? (a.add i) = some xl.1 ∧ RdS W (fun k => k < W.heap.size) xl.1 xl.2 ∧ ∀ s ∈ xl.2, s.size ≤ maxLen) each
    have el : ((List.range len).map fun i => (f i).2).length = len := by simp
    refine ⟨(List.range len).map fun i => (f i).2, ⟨⟨(List.range len).map fun i => (f i).1, by simp, ?_, fun k x l hx hl' => ?_⟩, fun l hl' s hs => ?_⟩, trivial, fun q hq => ?_⟩
    · refine RdV.mono (F := fun k => True ∧ k < W.heap.size) (RdV.lt ?_ (by omega)) fun k hk => hk.2
      rw [el]
      refine ⟨by simp, some a, cap, rfl, hl, hm, fun _ => ⟨a, rfl, trivial, fun j u hu => ?_⟩⟩
      rw [List.getElem?_map] at hu
      obtain ⟨r, hr, rfl⟩ := Option.map_eq_some_iff.1 hu
      have hj := (List.getElem?_eq_some_iff.1 hr).1
      rw [List.length_range] at hj
      rw [List.getElem?_range hj] at hr
      injection hr with hr
      subst hr
      exact (hf' j (by omega)).2.1
    · rw [List.getElem?_map] at hx hl'
      obtain ⟨r, hr, rfl⟩ := Option.map_eq_some_iff.1 hx
      rw [hr] at hl'
      simp only [Option.map_some, Option.some.injEq] at hl'
      subst hl'
      have hj := (List.getElem?_eq_some_iff.1 hr).1
      rw [List.length_range] at hj
      rw [List.getElem?_range hj] at hr
      injection hr with hr
      subst hr
      exact (hf' k (by omega)).2.2.1
    · obtain ⟨r, hr, rfl⟩ := List.mem_map.1 hl'
      rw [List.mem_range] at hr
      exact (hf' r (by omega)).2.2.2 s hs
    · have := hq _ _ rfl
      simp only [List.length_map, List.length_range] at this ⊢
      omega
end
end Go.Proofs.YtnoimmhdoaeeiaaDoor
