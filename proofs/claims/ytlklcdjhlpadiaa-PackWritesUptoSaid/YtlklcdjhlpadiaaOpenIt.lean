/- Slices of items (a kind, a number, a text, a flag): what they read as, and how such an argument is opened. -/
import Derived.Test.YtlklcdjhlpadiaaOpen
import Derived.Deep.SlicePairs
namespace Go.Proofs.Ytlklcdjhlpadiaa
open Go.ChangeShapes Go.WideShapes Go.ChangeAt Go.RowKit Go.Deep
set_option linter.unusedVariables false

structure It where
  kind : Int
  num : Nat
  text : List UInt8
  flag : Bool
instance : Inhabited It := ⟨⟨0, 0, [], false⟩⟩
/-- the four cells from ad on hold the item -/
def ItAt (w : World) (F : Nat → Prop) (ad : Addr) (k : Nat) (it : It) : Prop :=
  w.cell? (ad.add (k * 4)) = some (.int .i64 it.kind) ∧ w.cell? (ad.add (k * 4 + 1)) = some (.int .u64 (it.num : Int)) ∧ U64 it.num ∧
    (∃ x, w.cell? (ad.add (k * 4 + 2)) = some x ∧ RdB w F x it.text) ∧ w.cell? (ad.add (k * 4 + 3)) = some (.bool it.flag)
/-- the slice value v reads as the items l -/
def RdIt (w : World) (F : Nat → Prop) (v : Value) (l : List It) : Prop :=
  ∃ A c, v = .slice A l.length c ∧ l.length ≤ c ∧ c ≤ maxLen ∧ ∀ k (h : k < l.length), ∃ ad, A = some ad ∧ F ad.block ∧ ItAt w F ad k l[k]
section
variable {w w' : World} {F S : Nat → Prop} {v : Value} {l : List It}
theorem ItAt.chg {ad : Addr} {k : Nat} {it : It} (h : ItAt w F ad k it) (hc : Chg S w w') (hF : ∀ k, F k → ¬ S k) (had : F ad.block) : ItAt w' F ad k it := by
  obtain ⟨h1, h2, h3, ⟨x, h4, h5⟩, h6⟩ := h
  exact ⟨hc.cell h1 (by rw [block_of_add]; exact hF _ had), hc.cell h2 (by rw [block_of_add]; exact hF _ had), h3, ⟨x, hc.cell h4 (by rw [block_of_add]; exact hF _ had), h5.chg hc hF⟩, hc.cell h6 (by rw [block_of_add]; exact hF _ had)⟩
theorem RdIt.chg (h : RdIt w F v l) (hc : Chg S w w') (hF : ∀ k, F k → ¬ S k) : RdIt w' F v l := by
  obtain ⟨A, c, e, h1, h2, h3⟩ := h
  refine ⟨A, c, e, h1, h2, fun k hk => ?_⟩
  obtain ⟨ad, e1, e2, e3⟩ := h3 k hk
  exact ⟨ad, e1, e2, e3.chg hc hF e2⟩
theorem RdIt.c0 (h : RdIt w F v l) (hc : Chg Non w w') : RdIt w' F v l := h.chg hc fun _ _ h => h
theorem RdIt.shape (h : RdIt w F v l) : ∃ A c, v = .slice A l.length c ∧ l.length ≤ c ∧ c ≤ maxLen := by
  obtain ⟨A, c, e, h1, h2, h3⟩ := h
  exact ⟨A, c, e, h1, h2⟩
theorem RdIt.at_ {A : Option Addr} {n c : Nat} (h : RdIt w F (.slice A n c) l) {k : Nat} (hk : k < l.length) : ∃ ad, A = some ad ∧ F ad.block ∧ ItAt w F ad k l[k] := by
  obtain ⟨A', c', e, h1, h2, h3⟩ := h
  injection e with e1 e2 e3
  subst e1
  exact h3 k hk
theorem RdIt.front {A : Option Addr} {n c j : Nat} (h : RdIt w F (.slice A n c) l) (hj : j ≤ l.length) : RdIt w F (.slice A j c) (l.take j) := by
  obtain ⟨A', c', e, h1, h2, h3⟩ := h
  injection e with e1 e2 e3
  subst e1; subst e2; subst e3
  have el : (l.take j).length = j := by simp; omega
  refine ⟨A, c, by rw [el], by omega, h2, fun k hk => ?_⟩
  obtain ⟨ad, e1, e2, e3⟩ := h3 k (by omega)
  exact ⟨ad, e1, e2, by rw [List.getElem_take]; exact e3⟩
end

/-- what the sizes of a reading of items give -/
def SizesIt {H : Type} (l : List It) (d : DataW H) : Prop := (l.map fun it => it.text.length + 1).sum + 1 ≤ Rows.uptoBulk d ∧ ∀ m, (∀ e s, d = .slice e s → e.length + s.length ≤ m) → l.length ≤ m

section
variable {H : Type} {enc : TypeId × Value → H} {W : World} {v : Value} {d : DataW H} {p : List MemPlace}
theorem bulk_agg {parts : List (DataW H)} {x : DataW H} (h : x ∈ parts) : Rows.uptoBulk x ≤ Rows.uptoBulk (DataW.agg parts) := by
  have : ∀ l : List (DataW H), x ∈ l → Rows.uptoBulk x ≤ Rows.uptoBulkAll l := by
    intro l
    induction l with
    | nil => intro h; cases h
    | cons y l ih =>
      intro h
      simp only [Rows.uptoBulkAll]
      rcases List.mem_cons.1 h with rfl | h
      · omega
      · have := ih h; omega
  have := this parts h
  simp only [Rows.uptoBulk]
  omega
theorem openIt {base : Nat} (hv : Value.okWide Try.prog W .any base 64 v) (h : DataW.Trod enc Try.prog W 0 (fun _ => true) true 64 v d p) :
    ∃ l : List It, RdIt W (fun k => k < W.heap.size) v l ∧ SizesIt l d := by
  obtain ⟨a, n, c, rfl⟩ := okWide_slice Try.underlying64 hv
  obtain ⟨fuel, hf⟩ := h
  rcases open_slice Try.underlying64 hf with ⟨hcs, hx⟩ | ⟨a, len, cap, m, n, D, Pl, hcs, hb, hl, hm, hmm, hx, hi⟩
  · simp only [Value.cells, List.cons.injEq, and_true] at hcs
    simp only [Prod.mk.injEq] at hx
    rw [hcs, hx.1]
    exact ⟨[], ⟨none, 0, rfl, Nat.le_refl _, Nat.zero_le _, fun k h => absurd h (Nat.not_lt_zero k)⟩, by simp [Rows.uptoBulk], fun _ _ => Nat.zero_le _⟩
  · simp only [Value.cells, List.cons.injEq, and_true] at hcs
    simp only [Prod.mk.injEq] at hx
    rw [hcs, hx.1]
    have hlm : len ≤ m := by rw [hmm]; split <;> omega
    have each : ∀ i, i < m → ∃ it : It, a.block < W.heap.size ∧ ItAt W (fun k => k < W.heap.size) a i it ∧ it.text.length + 1 ≤ Rows.uptoBulk (D i) := by
      intro i hi'
      obtain ⟨cs', h1, h2⟩ := hi i hi'
      rw [show Try.prog.cellsOf 66 = 4 by kernel_rfl] at h1
      obtain ⟨_, hlen, hcell⟩ := World.cells?_some h1
      obtain ⟨xs, k, hk, hxy, _, hxl, hfs⟩ := DataW.trod_struct Try.underlying66 h2
      match xs, hxl, cs', hlen with
      | [y0, y1, y2, y3], _, [u0, u1, u2, u3], _ =>
        have g0 := hfs 0 _ rfl
        have g1 := hfs 1 _ rfl
        have g2 := hfs 2 _ rfl
        have g3 := hfs 3 _ rfl
        have c0 : Try.prog.cellsOf 3 = 1 := by kernel_rfl
        have c1 : Try.prog.cellsOf 29 = 1 := by kernel_rfl
        have c2 : Try.prog.cellsOf 22 = 1 := by kernel_rfl
        have c3 : Try.prog.cellsOf 4 = 1 := by kernel_rfl
        simp [c0, c1, c2, c3] at g0 g1 g2 g3
        have e0 := hcell 0 (by omega)
        have e1 := hcell 1 (by omega)
        have e2 := hcell 2 (by omega)
        have e3 := hcell 3 (by omega)
        rw [Go.Deep.add_add] at e0 e1 e2 e3
        simp at e0 e1 e2 e3
        obtain ⟨x0, q0, _, _⟩ := DataW.trod_int Try.underlying3 g0
        obtain ⟨x1, q1, _, w1⟩ := DataW.trod_int Try.underlying29 g1
        obtain ⟨b3, q3, _⟩ := DataW.trod_bool Try.underlying4 g3
        obtain ⟨t, ht, hts⟩ := open_b g2
        simp only [List.cons.injEq, and_true] at q0 q1 q3
        have hw1 : 0 ≤ x1 ∧ x1 ≤ 18446744073709551615 := by simpa [Lit.wf, IntKind.min, IntKind.max, IntKind.signed, IntKind.bits] using w1
        simp only [Prod.mk.injEq] at hxy
        refine ⟨⟨x0, x1.toNat, t, b3⟩, ?_, ⟨by rw [e0, q0], by rw [e1, q1]; congr 2; show x1 = ((x1.toNat : Nat) : Int); omega, by show x1.toNat < _; omega, ⟨u2, e2, ht⟩, by rw [e3, q3]⟩, ?_⟩
        · have := World.block_lt_of_cell? W _ e0
          rwa [block_of_add] at this
        · rw [hxy.1]
          exact Nat.le_trans hts.1 (bulk_agg (by simp))
    obtain ⟨f, hf'⟩ := choose_lt (α := It) (p := fun i it => a.block < W.heap.size ∧ ItAt W (fun k => k < W.heap.size) a i it ∧ it.text.length + 1 ≤ Rows.uptoBulk (D i)) each
    have el : ((List.range len).map f).length = len := by simp
    refine ⟨(List.range len).map f, ⟨some a, cap, by rw [el], by omega, hm, fun k hk => ?_⟩, ?_, fun q hq => ?_⟩
    · have hk' : k < m := by omega
      refine ⟨a, rfl, (hf' k hk').1, ?_⟩
      have e : ((List.range len).map f)[k] = f k := by simp
      rw [e]
      exact (hf' k hk').2.1
    · simp only [Rows.uptoBulk]
      have h1 := Bulk.sum_le (fun i => (f i).text.length + 1) D (List.range len) fun i hi => (hf' i (by have := List.mem_range.1 hi; omega)).2.2
      rw [List.map_map]
      have : (((List.range len).map ((fun it : It => it.text.length + 1) ∘ f))) = (List.range len).map fun i => (f i).text.length + 1 := rfl
      rw [this]
      omega
    · have := hq _ _ rfl
      simp only [List.length_map, List.length_range] at this ⊢
      omega
end
end Go.Proofs.Ytlklcdjhlpadiaa
