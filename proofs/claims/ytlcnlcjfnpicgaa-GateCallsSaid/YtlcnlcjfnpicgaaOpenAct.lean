/- Slices of acts (groynelaw20.Act): what they read as, and how such an argument is opened. -/
import Derived.Test.YtlcnlcjfnpicgaaOpen
import Derived.Test.YtlcnlcjfnpicgaaGateP
import Derived.Deep.SlicePairs
namespace Go.Proofs.Ytlcnlcjfnpicgaa
open Go.ChangeShapes Go.WideShapes Go.ChangeAt Go.RowKit Go.Deep
set_option linter.unusedVariables false

/-- the cells from ad on hold the act -/
def ActAt (w : World) (ad : Addr) (k : Nat) (a : ActS) : Prop :=
  U64 a.at_ ∧ ∀ (i : Nat) (u : Value), (actC a)[i]? = some u → w.cell? (ad.add (k * 7 + i)) = some u
/-- the slice value v reads as the acts l -/
def RdAct (w : World) (F : Nat → Prop) (v : Value) (l : List ActS) : Prop :=
  ∃ A c, v = .slice A l.length c ∧ l.length ≤ c ∧ c ≤ maxLen ∧ ∀ k (h : k < l.length), ∃ ad, A = some ad ∧ F ad.block ∧ ActAt w ad k l[k]
section
variable {w w' : World} {F S : Nat → Prop} {v : Value} {l : List ActS}
theorem RdAct.chg (h : RdAct w F v l) (hc : Chg S w w') (hF : ∀ k, F k → ¬ S k) : RdAct w' F v l := by
  obtain ⟨A, c, e, h1, h2, h3⟩ := h
  refine ⟨A, c, e, h1, h2, fun k hk => ?_⟩
  obtain ⟨ad, e1, e2, e3, e4⟩ := h3 k hk
  exact ⟨ad, e1, e2, e3, fun i u hu => hc.cell (e4 i u hu) (by rw [block_of_add]; exact hF _ e2)⟩
theorem RdAct.c0 (h : RdAct w F v l) (hc : Chg Non w w') : RdAct w' F v l := h.chg hc fun _ _ h => h
theorem RdAct.shape (h : RdAct w F v l) : ∃ A c, v = .slice A l.length c ∧ l.length ≤ c ∧ c ≤ maxLen := by
  obtain ⟨A, c, e, h1, h2, h3⟩ := h
  exact ⟨A, c, e, h1, h2⟩
theorem RdAct.at_ {A : Option Addr} {n c : Nat} (h : RdAct w F (.slice A n c) l) {k : Nat} (hk : k < l.length) : ∃ ad, A = some ad ∧ F ad.block ∧ ActAt w ad k l[k] := by
  obtain ⟨A', c', e, h1, h2, h3⟩ := h
  injection e with e1 e2 e3
  subst e1
  exact h3 k hk
theorem ActAt.cells {ad : Addr} {k : Nat} {a : ActS} (h : ActAt w ad k a) :
    w.cell? (ad.add (k * 7)) = some (.int .i64 a.kind) ∧ w.cell? ⟨(ad.add (k * 7)).block, (ad.add (k * 7)).off + 1, none⟩ = some (.int .i64 a.shard) ∧ w.cell? ⟨(ad.add (k * 7)).block, (ad.add (k * 7)).off + 2, none⟩ = some (.int .i64 a.answer) ∧ w.cell? ⟨(ad.add (k * 7)).block, (ad.add (k * 7)).off + 3, none⟩ = some (.int .i64 a.err) ∧ w.cell? ⟨(ad.add (k * 7)).block, (ad.add (k * 7)).off + 4, none⟩ = some (.int .u64 (a.id : Int)) ∧ w.cell? ⟨(ad.add (k * 7)).block, (ad.add (k * 7)).off + 5, none⟩ = some (.int .u64 (a.at_ : Int)) ∧ w.cell? ⟨(ad.add (k * 7)).block, (ad.add (k * 7)).off + 6, none⟩ = some (.string a.name) := by
  refine ⟨h.2 0 _ rfl, ?_, ?_, ?_, ?_, ?_, ?_⟩
  · rw [← add_succ ad (k * 7) 1 (by omega)]; exact h.2 1 _ rfl
  · rw [← add_succ ad (k * 7) 2 (by omega)]; exact h.2 2 _ rfl
  · rw [← add_succ ad (k * 7) 3 (by omega)]; exact h.2 3 _ rfl
  · rw [← add_succ ad (k * 7) 4 (by omega)]; exact h.2 4 _ rfl
  · rw [← add_succ ad (k * 7) 5 (by omega)]; exact h.2 5 _ rfl
  · rw [← add_succ ad (k * 7) 6 (by omega)]; exact h.2 6 _ rfl
end

/-- what the sizes of a reading of acts give -/
def SizesAct {H : Type} (l : List ActS) (d : DataW H) : Prop := True ∧ ∀ m, (∀ e s, d = .slice e s → e.length + s.length ≤ m) → l.length ≤ m

section
variable {H : Type} {enc : TypeId × Value → H} {W : World} {v : Value} {d : DataW H} {p : List MemPlace}
instance : Inhabited ActS := ⟨⟨0, 0, 0, 0, 0, 0, ⟨#[]⟩⟩⟩
set_option maxRecDepth 100000 in
theorem openAct {base : Nat} (hv : Value.okWide Try.prog W .any base 22 v) (h : DataW.Trod enc Try.prog W 0 (fun _ => true) true 22 v d p) :
    ∃ l : List ActS, RdAct W (fun k => k < W.heap.size) v l ∧ SizesAct l d := by
  obtain ⟨a, n, c, rfl⟩ := okWide_slice Try.underlying22 hv
  obtain ⟨fuel, hf⟩ := h
  rcases open_slice Try.underlying22 hf with ⟨hcs, hx⟩ | ⟨a, len, cap, m, n, D, Pl, hcs, hb, hl, hm, hmm, hx, hi⟩
  · simp only [Value.cells, List.cons.injEq, and_true] at hcs
    simp only [Prod.mk.injEq] at hx
    rw [hcs, hx.1]
    exact ⟨[], ⟨none, 0, rfl, Nat.le_refl _, Nat.zero_le _, fun k h => absurd h (Nat.not_lt_zero k)⟩, trivial, fun _ _ => Nat.zero_le _⟩
  · simp only [Value.cells, List.cons.injEq, and_true] at hcs
    simp only [Prod.mk.injEq] at hx
    rw [hcs, hx.1]
    have hlm : len ≤ m := by rw [hmm]; split <;> omega
    have each : ∀ i, i < m → ∃ it : ActS, a.block < W.heap.size ∧ ActAt W a i it := by
      intro i hi'
      obtain ⟨cs', h1, h2⟩ := hi i hi'
      rw [show Try.prog.cellsOf 35 = 7 by kernel_rfl] at h1
      obtain ⟨_, hlen, hcell⟩ := World.cells?_some h1
      obtain ⟨xs, k, hk, hxy, _, hxl, hfs⟩ := DataW.trod_struct Try.underlying35 h2
      match xs, hxl, cs', hlen with
      | [y0, y1, y2, y3, y4, y5, y6], _, [u0, u1, u2, u3, u4, u5, u6], _ =>
        have g0 := hfs 0 _ rfl
        have g1 := hfs 1 _ rfl
        have g2 := hfs 2 _ rfl
        have g3 := hfs 3 _ rfl
        have g4 := hfs 4 _ rfl
        have g5 := hfs 5 _ rfl
        have g6 := hfs 6 _ rfl
        have c0 : Try.prog.cellsOf 3 = 1 := by kernel_rfl
        have c1 : Try.prog.cellsOf 26 = 1 := by kernel_rfl
        have c2 : Try.prog.cellsOf 9 = 1 := by kernel_rfl
        simp [c0, c1, c2] at g0 g1 g2 g3 g4 g5 g6
        have e0 := hcell 0 (by omega)
        have e1 := hcell 1 (by omega)
        have e2 := hcell 2 (by omega)
        have e3 := hcell 3 (by omega)
        have e4 := hcell 4 (by omega)
        have e5 := hcell 5 (by omega)
        have e6 := hcell 6 (by omega)
        rw [Go.Deep.add_add] at e0 e1 e2 e3 e4 e5 e6
        simp at e0 e1 e2 e3 e4 e5 e6
        obtain ⟨x0, q0, _, w0⟩ := DataW.trod_int Try.underlying3 g0
        obtain ⟨x1, q1, _, w1⟩ := DataW.trod_int Try.underlying3 g1
        obtain ⟨x2, q2, _, w2⟩ := DataW.trod_int Try.underlying3 g2
        obtain ⟨x3, q3, _, w3⟩ := DataW.trod_int Try.underlying3 g3
        obtain ⟨x4, q4, _, w4⟩ := DataW.trod_int Try.underlying26 g4
        obtain ⟨x5, q5, _, w5⟩ := DataW.trod_int Try.underlying26 g5
        obtain ⟨x6, q6, _, _⟩ := DataW.trod_string Try.underlying9 g6
        simp only [List.cons.injEq, and_true] at q0 q1 q2 q3 q4 q5 q6
        have hw4 : 0 ≤ x4 ∧ x4 ≤ 18446744073709551615 := by simpa [Lit.wf, IntKind.min, IntKind.max, IntKind.signed, IntKind.bits] using w4
        obtain ⟨n4, hn4⟩ := Int.eq_ofNat_of_zero_le hw4.1
        subst hn4
        have hw5 : 0 ≤ x5 ∧ x5 ≤ 18446744073709551615 := by simpa [Lit.wf, IntKind.min, IntKind.max, IntKind.signed, IntKind.bits] using w5
        obtain ⟨n5, hn5⟩ := Int.eq_ofNat_of_zero_le hw5.1
        subst hn5
        refine ⟨⟨x0, x1, x2, x3, n4, n5, x6⟩, ?_, by show n5 < _; omega, fun i' u hu => ?_⟩
        · have := World.block_lt_of_cell? W _ e0
          rwa [block_of_add] at this
        · match i', hu with
          | 0, hu => simp [actC] at hu; subst hu; first | rw [e0, q0] | (rw [Nat.add_zero, e0, q0])
          | 1, hu => simp [actC] at hu; subst hu; first | rw [e1, q1] | (rw [Nat.add_zero, e1, q1])
          | 2, hu => simp [actC] at hu; subst hu; first | rw [e2, q2] | (rw [Nat.add_zero, e2, q2])
          | 3, hu => simp [actC] at hu; subst hu; first | rw [e3, q3] | (rw [Nat.add_zero, e3, q3])
          | 4, hu => simp [actC] at hu; subst hu; first | rw [e4, q4] | (rw [Nat.add_zero, e4, q4])
          | 5, hu => simp [actC] at hu; subst hu; first | rw [e5, q5] | (rw [Nat.add_zero, e5, q5])
          | 6, hu => simp [actC] at hu; subst hu; first | rw [e6, q6] | (rw [Nat.add_zero, e6, q6])
          | k + 7, hu => simp [actC] at hu
    obtain ⟨f, hf'⟩ := choose_lt (α := ActS) (p := fun i it => a.block < W.heap.size ∧ ActAt W a i it) each
    have el : ((List.range len).map f).length = len := by simp
    refine ⟨(List.range len).map f, ⟨some a, cap, by rw [el], by omega, hm, fun k hk => ?_⟩, trivial, fun q hq => ?_⟩
    · have hk' : k < m := by omega
      refine ⟨a, rfl, (hf' k hk').1, ?_⟩
      have e : ((List.range len).map f)[k] = f k := by simp
      rw [e]
      exact (hf' k hk').2
    · have := hq _ _ rfl
      simp only [List.length_map, List.length_range] at this ⊢
      omega
end
end Go.Proofs.Ytlcnlcjfnpicgaa
