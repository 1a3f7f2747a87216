/- A slice of writes that comes in: what it reads as, and how long its texts may be. -/
import Derived.Test.YtliimeoblffigaaGreatTsRG
import Derived.Test.YtliimeoblffigaaGreatNdAG
import Derived.Deep.SlicePairs
import Derived.Test.YtliimeoblffigaaGreatPackBG
import Derived.Test.YtliimeoblffigaaGreatDgEG
import Derived.Shelf.Strings.Prefix
import Derived.Ground.Names2Prog
import Derived.Ground.SlgnProg
import Derived.Ground.SlgfProg
import Derived.Shelf.SlicesE.IndexFunc
import Derived.Shelf.SlicesE.DeleteFunc
import Derived.Shelf.SlIter.Nil
import Derived.Shelf.SortM.Plain
import Derived.Shelf.SortM.SortNone
import Derived.Ground.GgzProg
import Derived.Ground.SlgmProg
import Derived.Test.YtliimeoblffigaaGreatProg
import Derived.Test.YtliimeoblffigaaGreatDgDG
import Derived.Test.YtliimeoblffigaaGreatPlGG
set_option linter.unusedVariables false
set_option linter.unusedSimpArgs false
set_option maxRecDepth 100000
namespace Go.Proofs.YtliimeoblffigaaGreat
open Go.ChangeShapes Go.WideShapes Go.ChangeAt Go.RowKit Go.Deep
set_option linter.unusedVariables false
theorem flW_len' : ∀ (xs : List (Value × Value)) (l : List WrS), xs.length = l.length → ((xs.zip l).flatMap fun p => [p.1.1, p.1.2, Value.bool p.2.f]).length = l.length * 3
  | [], [], _ => rfl
  | x :: xs, a :: l, h => by
    rw [List.zip_cons_cons, List.flatMap_cons, List.length_append, flW_len' xs l (by simpa using h)]
    simp only [List.length_cons, List.length_nil]; omega
  | [], _ :: _, h => by simp at h
  | _ :: _, [], h => by simp at h
section
variable {H : Type} {enc : TypeId × Value → H} {W : World}
theorem rdW_mk {w : World} {F : Nat → Prop} {a : Addr} {len cap : Nat} (hl : len ≤ cap) (hm : cap ≤ maxLen) (f : Nat → (Value × Value) × WrS)
    (h : ∀ i, i < len → F a.block ∧ (w.cell? (a.add (i * 3)) = some (f i).1.1 ∧ w.cell? (a.add (i * 3 + 1)) = some (f i).1.2 ∧ w.cell? (a.add (i * 3 + 2)) = some (.bool (f i).2.f)) ∧ RdB w F (f i).1.1 (f i).2.a ∧ RdB w F (f i).1.2 (f i).2.b) :
    RdW w F (.slice (some a) len cap) ((List.range len).map fun i => (f i).2) := by
  have e2 : ((List.range len).map fun i => (f i).2).length = len := by simp
  refine ⟨(List.range len).map fun i => (f i).1, by simp, ?_, ?_⟩
  · have ez : (((List.range len).map fun i => (f i).1).zip ((List.range len).map fun i => (f i).2)) = (List.range len).map f := by
      rw [List.zip_map']
    rw [e2, ez]
    have el : ((List.range len).map f).length = len := by simp
    have hfl : ((List.map f (List.range len)).flatMap fun p => [p.1.1, p.1.2, Value.bool p.2.f]).length = len * 3 := by
      have := flW_len' ((List.range len).map fun i => (f i).1) ((List.range len).map fun i => (f i).2) (by simp)
      rw [ez, e2] at this
      exact this
    refine ⟨hfl, some a, cap, rfl, hl, hm, fun hn => ⟨a, rfl, (h 0 hn).1, fun j u hu => ?_⟩⟩
    have hj : j < len * 3 := by rw [← hfl]; exact (List.getElem?_eq_some_iff.1 hu).1
    have hk : j / 3 < len := by omega
    have hj3 : j = j / 3 * 3 + j % 3 := by omega
    have hg := flat3_get (fun p : (Value × Value) × WrS => p.1.1) (fun p => p.1.2) (fun p => Value.bool p.2.f) ((List.range len).map f) (j / 3) (j % 3) (by rw [el]; exact hk) (by omega)
    rw [← hj3, hu] at hg
    have he : ((List.range len).map f)[j / 3]'(by rw [el]; exact hk) = f (j / 3) := by simp
    rw [he] at hg
    obtain ⟨_, ⟨h0, h1, h2⟩, _⟩ := h (j / 3) hk
    rw [hj3]
    have hm3 : j % 3 = 0 ∨ j % 3 = 1 ∨ j % 3 = 2 := by omega
    rcases hm3 with e | e | e <;> rw [e] at hg ⊢ <;> simp at hg <;> subst hg
    · exact h0
    · exact h1
    · exact h2
  · intro i x y hx hy
    simp only [List.getElem?_map, Option.map_eq_some_iff] at hx hy
    obtain ⟨k, hk, rfl⟩ := hx
    obtain ⟨k', hk', rfl⟩ := hy
    have e1 : k = i ∧ i < len := by
      have := List.getElem?_eq_some_iff.1 hk
      obtain ⟨h1, h2⟩ := this
      simp at h1 h2
      exact ⟨h2.symm, h1⟩
    have e3 : k' = i := by
      have := List.getElem?_eq_some_iff.1 hk'
      obtain ⟨h1, h2⟩ := this
      simp at h2
      exact h2.symm
    rw [e1.1, e3]
    exact ⟨(h i e1.2).2.2.1, (h i e1.2).2.2.2⟩

theorem weightsAll_in {P : Program} {e : TypeId} : ∀ {l : List (DataW H)} {d : DataW H}, d ∈ l → ∀ n ∈ d.weights P e, n ∈ DataW.weightsAll P e l
  | d' :: r, d, hd, n, hn => by
    simp only [DataW.weightsAll, List.mem_append]
    rcases List.mem_cons.1 hd with rfl | h
    · exact Or.inl hn
    · exact Or.inr (weightsAll_in h n hn)
theorem u8_bytes : Tryz.prog.bytesOf 5 = 1 := by kernel_rfl
theorem b_weights {B : Nat} {d : DataW H} (h : ∀ n ∈ d.weights Tryz.prog 30, n ≤ B) : ∀ e s, d = .slice e s → e.length + s.length ≤ B := fun e s hd => by
  subst hd
  have := h ((e.length + s.length) * Tryz.prog.bytesOf 5) (by simp [DataW.weights, Tryz.underlying30])
  rw [u8_bytes] at this
  omega
set_option maxRecDepth 100000 in
theorem openWk {fuel : Nat} {u : Value} {y : DataW H × List MemPlace} (hf : DataW.trod enc Tryz.prog W 0 (fun _ => true) true fuel 22 [u] = some y) :
    ∃ l : List WrS, RdW W (fun k => k < W.heap.size) u l ∧ ∀ B, (∀ n ∈ y.1.weights Tryz.prog 22, n ≤ B) → ∀ x ∈ l, x.a.length ≤ B ∧ x.b.length ≤ B := by
  rcases open_slice Tryz.underlying22 hf with ⟨hcs, hx⟩ | ⟨a, len, cap, m, n, D, Pl, hcs, hb, hl, hm, hmm, hx, hi⟩
  · simp only [List.cons.injEq, and_true] at hcs
    rw [hcs]
    exact ⟨[], RdW.nil_ _ _, fun B _ x hx => by simp at hx⟩
  · simp only [List.cons.injEq, and_true] at hcs
    rw [hcs]
    have hlm : len ≤ m := by rw [hmm]; split <;> omega
    have each : ∀ i, i < m → ∃ it : (Value × Value) × WrS, (a.block < W.heap.size ∧ (W.cell? (a.add (i * 3)) = some it.1.1 ∧ W.cell? (a.add (i * 3 + 1)) = some it.1.2 ∧ W.cell? (a.add (i * 3 + 2)) = some (.bool it.2.f)) ∧ RdB W (fun k => k < W.heap.size) it.1.1 it.2.a ∧ RdB W (fun k => k < W.heap.size) it.1.2 it.2.b) ∧ ∀ B, (∀ n ∈ (D i).weights Tryz.prog 86, n ≤ B) → it.2.a.length ≤ B ∧ it.2.b.length ≤ B := by
      intro i hi'
      obtain ⟨cs', h1, h2⟩ := hi i hi'
      rw [show Tryz.prog.cellsOf 86 = 3 by kernel_rfl] at h1
      obtain ⟨_, hlen, hcell⟩ := World.cells?_some h1
      obtain ⟨xs, k, hk, hxy, _, hxl, hfs⟩ := DataW.trod_struct Tryz.underlying86 h2
      match xs, hxl, cs', hlen with
      | [y0, y1, y2], _, [u0, u1, u2], _ =>
        have g0 := hfs 0 _ rfl
        have g1 := hfs 1 _ rfl
        have g2 := hfs 2 _ rfl
        have c2 : Tryz.prog.cellsOf 30 = 1 := by kernel_rfl
        have c3 : Tryz.prog.cellsOf 4 = 1 := by kernel_rfl
        simp [c2, c3] at g0 g1 g2
        have e0 := hcell 0 (by omega)
        have e1 := hcell 1 (by omega)
        have e2 := hcell 2 (by omega)
        rw [Go.Deep.add_add] at e0 e1 e2
        simp at e0 e1 e2
        obtain ⟨b3, q3, _⟩ := DataW.trod_bool Tryz.underlying4 g2
        obtain ⟨t0, ht0, hts0⟩ := open_b g0
        obtain ⟨t1, ht1, hts1⟩ := open_b g1
        simp only [List.cons.injEq, and_true] at q3
        simp only [Prod.mk.injEq] at hxy
        refine ⟨((u0, u1), ⟨t0, t1, b3⟩), ⟨?_, ⟨e0, e1, by rw [e2, q3]⟩, ht0, ht1⟩, fun B hB => ?_⟩
        · have := World.block_lt_of_cell? W _ e0
          rwa [block_of_add] at this
        · rw [hxy.1] at hB
          refine ⟨hts0.2 _ (b_weights fun n hn => hB n ?_), hts1.2 _ (b_weights fun n hn => hB n ?_)⟩
          · simp only [DataW.weights, Tryz.underlying86, DataW.weightsEach, List.map_cons, List.map_nil, List.mem_append]
            exact .inl hn
          · simp only [DataW.weights, Tryz.underlying86, DataW.weightsEach, List.map_cons, List.map_nil, List.mem_append]
            exact .inr (.inl hn)
    have inh : Inhabited ((Value × Value) × WrS) := ⟨((default, default), ⟨[], [], false⟩)⟩
    obtain ⟨f, hf'⟩ := choose_lt (α := (Value × Value) × WrS) (p := fun i it => (a.block < W.heap.size ∧ (W.cell? (a.add (i * 3)) = some it.1.1 ∧ W.cell? (a.add (i * 3 + 1)) = some it.1.2 ∧ W.cell? (a.add (i * 3 + 2)) = some (.bool it.2.f)) ∧ RdB W (fun k => k < W.heap.size) it.1.1 it.2.a ∧ RdB W (fun k => k < W.heap.size) it.1.2 it.2.b) ∧ ∀ B, (∀ n ∈ (D i).weights Tryz.prog 86, n ≤ B) → it.2.a.length ≤ B ∧ it.2.b.length ≤ B) each
    refine ⟨(List.range len).map fun i => (f i).2, rdW_mk hl hm f fun i hi => (hf' i (by omega)).1, fun B hB x hxm => ?_⟩
    obtain ⟨i, hi, rfl⟩ := List.mem_map.1 hxm
    have hil := List.mem_range.1 hi
    refine (hf' i (by omega)).2 B fun n hn => hB n ?_
    rw [hx]
    simp only [DataW.weights, Tryz.underlying22, List.mem_cons, List.mem_append]
    exact .inr (.inl (weightsAll_in (List.mem_map.2 ⟨i, hi, rfl⟩) n hn))
theorem openWks {base : Nat} {v : Value} {d : DataW H} {p : List MemPlace} (hv : Value.okWide Tryz.prog W .any base 22 v) (h : DataW.Trod enc Tryz.prog W 0 (fun _ => true) true 22 v d p) :
    ∃ l : List WrS, RdW W (fun k => k < W.heap.size) v l ∧ ∀ B, (∀ n ∈ d.weights Tryz.prog 22, n ≤ B) → ∀ x ∈ l, x.a.length ≤ B ∧ x.b.length ≤ B := by
  obtain ⟨a, n, c, rfl⟩ := okWide_slice Tryz.underlying22 hv
  obtain ⟨fuel, hf⟩ := h
  exact openWk (y := (d, p)) hf
end
end Go.Proofs.YtliimeoblffigaaGreat

set_option maxRecDepth 100000
namespace Go.Proofs.YtliimeoblffigaaGreat
open Go.RowKit
set_option linter.unusedVariables false
set_option linter.unusedSectionVars false

/-- a kind of element: its cells, by the values that lie in them (X) and by what they say (α); and when these read so -/
structure El (X α : Type) where
  sz : Nat
  pos : 0 < sz
  cells : X → α → List Value
  len : ∀ x a, (cells x a).length = sz
  rd : World → (Nat → Prop) → X → α → Prop
  mono : ∀ {w : World} {F F' : Nat → Prop} {x : X} {a : α}, rd w F x a → (∀ k, F k → F' k) → rd w F' x a
  chg : ∀ {w w' : World} {F S : Nat → Prop} {x : X} {a : α}, rd w F x a → Chg S w w' → (∀ k, F k → ¬ S k) → rd w' F x a
  lt : ∀ {w : World} {F : Nat → Prop} {x : X} {a : α}, rd w F x a → rd w (fun k => F k ∧ k < w.heap.size) x a
  one : ∀ {w : World} {F : Nat → Prop} {x : X} {a : α}, rd w F x a → ∀ y ∈ cells x a, y.oneCell' = true

section
variable {X α : Type} (E : El X α)
/-- the cells of some elements -/
def flE (xs : List X) (l : List α) : List Value := (xs.zip l).flatMap fun p => E.cells p.1 p.2
theorem flE_cons (x : X) (xs : List X) (a : α) (l : List α) : flE E (x :: xs) (a :: l) = E.cells x a ++ flE E xs l := rfl
theorem flE_snoc (xs : List X) (l : List α) (x : X) (a : α) (h : xs.length = l.length) : flE E (xs ++ [x]) (l ++ [a]) = flE E xs l ++ E.cells x a := by
  unfold flE
  rw [List.zip_append h, List.flatMap_append]
  simp
theorem flE_get : ∀ (xs : List X) (l : List α) (k i : Nat) (x : X) (a : α), xs.length = l.length → xs[k]? = some x → l[k]? = some a → i < E.sz → (flE E xs l)[k * E.sz + i]? = (E.cells x a)[i]?
  | x :: xs, a :: l, 0, i, y, b, h, hx, ha, hi => by
    simp at hx ha
    subst hx; subst ha
    rw [Nat.zero_mul, Nat.zero_add, flE_cons, List.getElem?_append_left (by rw [E.len]; exact hi)]
  | x :: xs, a :: l, k + 1, i, y, b, h, hx, ha, hi => by
    rw [flE_cons, show (k + 1) * E.sz + i = (k * E.sz + i) + E.sz by rw [Nat.add_mul]; omega, List.getElem?_append_right (by rw [E.len]; omega), E.len, Nat.add_sub_cancel]
    exact flE_get xs l k i y b (by simpa using h) (by simpa using hx) (by simpa using ha) hi
  | [], [], _, _, _, _, _, hx, _, _ => by simp at hx
  | [], _ :: _, _, _, _, _, h, _, _, _ => by simp at h
  | _ :: _, [], _, _, _, _, h, _, _, _ => by simp at h
/-- the slice value v reads as the list l -/
def RdE (w : World) (F : Nat → Prop) (v : Value) (l : List α) : Prop :=
  ∃ xs : List X, xs.length = l.length ∧ RdV w F E.sz v l.length (flE E xs l) ∧ ∀ (i : Nat) (x : X) (a : α), xs[i]? = some x → l[i]? = some a → E.rd w F x a
variable {E} {w w' : World} {F F' S : Nat → Prop} {v : Value} {l : List α} {base : Nat} {t : TypeId}
theorem RdE.mono (h : RdE E w F v l) (hF : ∀ k, F k → F' k) : RdE E w F' v l := by
  obtain ⟨xs, h1, h2, h3⟩ := h
  exact ⟨xs, h1, h2.mono hF, fun i x y hx hy => E.mono (h3 i x y hx hy) hF⟩
theorem RdE.chg (h : RdE E w F v l) (hc : Chg S w w') (hF : ∀ k, F k → ¬ S k) : RdE E w' F v l := by
  obtain ⟨xs, h1, h2, h3⟩ := h
  exact ⟨xs, h1, h2.chg hc hF, fun i x y hx hy => E.chg (h3 i x y hx hy) hc hF⟩
theorem RdE.c0 (h : RdE E w F v l) (hc : Chg Non w w') : RdE E w' F v l := h.chg hc fun _ _ h => h
theorem RdE.lt (h : RdE E w F v l) : RdE E w (fun k => F k ∧ k < w.heap.size) v l := by
  obtain ⟨xs, h1, h2, h3⟩ := h
  exact ⟨xs, h1, h2.lt E.pos, fun i x y hx hy => E.lt (h3 i x y hx hy)⟩
theorem RdE.nil_ (E : El X α) (w : World) (F : Nat → Prop) : RdE E w F (.slice none 0 0) [] := ⟨[], rfl, RdV.nil_ w F E.sz, fun i x y hx _ => by simp at hx⟩
theorem RdE.shape (h : RdE E w F v l) : ∃ A c, v = .slice A l.length c ∧ l.length ≤ c ∧ c ≤ maxLen := by
  obtain ⟨xs, h1, h2, h3⟩ := h
  exact h2.shape
theorem RdE.at_ {A : Option Addr} {n c : Nat} (h : RdE E w F (.slice A n c) l) {k : Nat} (hk : k < l.length) :
    ∃ ad x, A = some ad ∧ F ad.block ∧ (∀ (i : Nat) (u : Value), (E.cells x l[k])[i]? = some u → w.cell? (ad.add (k * E.sz + i)) = some u) ∧ E.rd w F x l[k] := by
  obtain ⟨xs, h1, h2, h3⟩ := h
  obtain ⟨A', c', e, _, _⟩ := RdV.shape h2
  injection e with e1 e2 e3
  subst e1; subst e2; subst e3
  have hkx : k < xs.length := by omega
  obtain ⟨ad, hA, hf, hcell⟩ := h2.cells (by omega)
  refine ⟨ad, xs[k], hA, hf, fun i u hu => hcell _ _ ?_, h3 k _ _ (List.getElem?_eq_getElem hkx) (List.getElem?_eq_getElem hk)⟩
  have hi : i < E.sz := by
    have := (List.getElem?_eq_some_iff.1 hu).1
    rw [E.len] at this; exact this
  rw [flE_get E xs l k i _ _ h1 (List.getElem?_eq_getElem hkx) (List.getElem?_eq_getElem hk) hi]
  exact hu
/-- a beginning -/
theorem flE_take : ∀ (xs : List X) (l : List α) (j : Nat), xs.length = l.length → (flE E xs l).take (j * E.sz) = flE E (xs.take j) (l.take j)
  | [], [], j, _ => by simp [flE]
  | x :: xs, a :: l, 0, _ => by simp [flE]
  | x :: xs, a :: l, j + 1, h => by
    rw [List.take_succ_cons, List.take_succ_cons, flE_cons, flE_cons, ← flE_take xs l j (by simpa using h), show (j + 1) * E.sz = E.sz + j * E.sz by rw [Nat.add_mul]; omega, List.take_append, E.len, List.take_of_length_le (by rw [E.len]; omega), show E.sz + j * E.sz - E.sz = j * E.sz by omega]
  | [], _ :: _, _, h => by simp at h
  | _ :: _, [], _, h => by simp at h
theorem RdE.front {A : Option Addr} {n c j : Nat} (h : RdE E w F (.slice A n c) l) (hj : j ≤ l.length) : RdE E w F (.slice A j c) (l.take j) := by
  obtain ⟨A', c', e, hc, hm⟩ := h.shape
  injection e with e1 e2 e3
  subst e1; subst e2; subst e3
  obtain ⟨xs, h1, ⟨h2, A2, c2, e, _, _, h3⟩, h4⟩ := h
  injection e with e1 e2 e3
  subst e1; subst e3
  have el : (l.take j).length = j := by simp; omega
  refine ⟨xs.take j, by simp [h1], ?_, fun k x y hx hl => ?_⟩
  · rw [el, ← flE_take _ _ _ h1]
    refine ⟨by rw [List.length_take, h2]; exact Nat.min_eq_left (Nat.mul_le_mul_right _ hj), A, c, rfl, by omega, hm, fun hn => ?_⟩
    obtain ⟨ad, rfl, hf, hcell⟩ := h3 (by omega)
    refine ⟨ad, rfl, hf, fun i u hu => hcell i u ?_⟩
    rw [List.getElem?_take] at hu
    split at hu
    · exact hu
    · cases hu
  · rw [List.getElem?_take] at hx hl
    split at hx
    · rename_i hk
      rw [if_pos hk] at hl
      exact h4 k x y hx hl
    · cases hx

/-- the slice value v, made by the call, owns the elements l; what these read lies in F, and not in v's own block -/
def OwnE (E : El X α) (t : TypeId) (w : World) (base : Nat) (F : Nat → Prop) (v : Value) (l : List α) : Prop :=
  ∃ xs : List X, xs.length = l.length ∧ w.ownsRow base t E.sz v l.length (flE E xs l) ∧
    ∀ (i : Nat) (x : X) (a : α), xs[i]? = some x → l[i]? = some a → E.rd w (fun b => F b ∧ b < w.heap.size ∧ v.ownBlock ≠ some b) x a
theorem OwnE.nil_ (E : El X α) (t : TypeId) (w : World) (base : Nat) (F : Nat → Prop) : OwnE E t w base F (.slice none 0 0) [] := ⟨[], rfl, World.ownsRow_nil w base t E.sz, fun k x l hx _ => by simp at hx⟩
theorem OwnE.shape (h : OwnE E t w base F v l) : ∃ A c, v = .slice A l.length c ∧ l.length ≤ c ∧ c ≤ maxLen := by
  obtain ⟨vs, h1, h2, h3⟩ := h
  exact (RdV.of_own h2).shape
theorem OwnE.bl (h : OwnE E t w base F v l) : ∀ k, v.ownBlock = some k → base ≤ k ∧ k < w.heap.size := by
  obtain ⟨vs, h1, h2, h3⟩ := h
  exact World.ownsRow.lt h2
theorem OwnE.chg (h : OwnE E t w base F v l) (hc : Chg S w w') (hn : ∀ k, v.ownBlock = some k → ¬ S k) (hF : ∀ k, F k → ¬ S k) : OwnE E t w' base F v l := by
  obtain ⟨vs, h1, h2, h3⟩ := h
  refine ⟨vs, h1, ⟨h2.1, ?_⟩, fun k x l hx hl => E.mono (E.chg (h3 k x l hx hl) hc fun b hb => hF b hb.1) fun b hb => ⟨hb.1, Nat.lt_of_lt_of_le hb.2.1 hc.size, hb.2.2⟩⟩
  rcases h2.2 with hn' | ⟨g, cap, cur, rfl, hb, hg, rest⟩
  · exact .inl hn'
  · exact .inr ⟨g, cap, cur, rfl, hb, hc.heap hg (hn g rfl), rest⟩
theorem OwnE.c0 (h : OwnE E t w base F v l) (hc : Chg Non w w') : OwnE E t w' base F v l := h.chg hc (fun _ _ h => h) fun _ _ h => h
theorem OwnE.mono (h : OwnE E t w base F v l) (hF : ∀ k, F k → k < w.heap.size → F' k) : OwnE E t w base F' v l := by
  obtain ⟨vs, h1, h2, h3⟩ := h
  exact ⟨vs, h1, h2, fun k x l hx hl => E.mono (h3 k x l hx hl) fun b hb => ⟨hF b hb.1 hb.2.1, hb.2⟩⟩
theorem OwnE.low (h : OwnE E t w base F v l) {b' : Nat} (hb : b' ≤ base) : OwnE E t w b' F v l := by
  obtain ⟨vs, h1, h2, h3⟩ := h
  refine ⟨vs, h1, ⟨h2.1, ?_⟩, h3⟩
  rcases h2.2 with hn | ⟨g, cap, cur, rfl, hg, rest⟩
  · exact .inl hn
  · exact .inr ⟨g, cap, cur, rfl, by omega, rest⟩
/-- as a reading -/
theorem OwnE.rd (h : OwnE E t w base F v l) : RdE E w (fun b => (F b ∨ v.ownBlock = some b) ∧ b < w.heap.size) v l := by
  obtain ⟨vs, h1, h2, h3⟩ := h
  exact ⟨vs, h1, (RdV.of_own h2).mono fun b hb => ⟨.inr hb, (World.ownsRow.lt h2 b hb).2⟩, fun k x l hx hl => E.mono (h3 k x l hx hl) fun b hb => ⟨.inl hb.1, hb.2.1⟩⟩
/-- one element more, when the outer list has grown -/
theorem OwnE.grow {x : X} {a : α} {vs : List X} (h1 : vs.length = l.length)
    (h3 : ∀ (k : Nat) (x : X) (a : α), vs[k]? = some x → l[k]? = some a → E.rd w (fun b => F b ∧ b < w.heap.size ∧ v.ownBlock ≠ some b) x a)
    (hx : E.rd w (fun b => F b ∧ b < w.heap.size ∧ v.ownBlock ≠ some b) x a) {v' : Value}
    (hown : w'.ownsRow base t E.sz v' (l.length + 1) (flE E vs l ++ E.cells x a)) (hg : w.grownBy w' v.ownBlock) (hat : v'.ownBlock = v.ownBlock ∨ v'.ownBlock = some w.heap.size) :
    OwnE E t w' base F v' (l ++ [a]) := by
  have hmv : ∀ (y : X) (m : α), E.rd w (fun b => F b ∧ b < w.heap.size ∧ v.ownBlock ≠ some b) y m → E.rd w' (fun b => F b ∧ b < w'.heap.size ∧ v'.ownBlock ≠ some b) y m := fun y m h =>
    E.mono (E.chg h (Chg.of_grown hg) fun b hb e => hb.2.2 e.symm) fun b hb => ⟨hb.1, Nat.lt_of_lt_of_le hb.2.1 hg.size, fun e => by
      rcases hat with hat | hat
      · exact hb.2.2 (hat ▸ e)
      · rw [hat] at e; injection e with e; omega⟩
  refine ⟨vs ++ [x], by simp [h1], by rw [List.length_append, flE_snoc E vs l x a h1]; exact hown, fun k y m hy hm => ?_⟩
  rw [List.getElem?_append] at hy hm
  rw [h1] at hy
  split at hy
  · rename_i h
    rw [if_pos h] at hm
    exact hmv y m (h3 k y m hy hm)
  · rename_i h
    rw [if_neg h] at hm
    have e : k - l.length = 0 := by
      have := (List.getElem?_eq_some_iff.1 hy).1
      simp at this; omega
    rw [e] at hy hm
    simp at hy hm
    subst hy; subst hm
    exact hmv _ _ hx
end

/-- what append needs to know of a slice type T of elements t -/
structure SlT {X α : Type} (E : El X α) (P : Program) (T t : TypeId) : Prop where
  und : P.underlying T = some (.slice t)
  inf : ∃ i z, P.info? t = some i ∧ i.zero = some z ∧ i.size = E.sz ∧ i.bytes ≤ 100 ∧ z.cells.size = E.sz
section
variable {X α : Type} {E : El X α} {P : Program} {T t : TypeId}
/-- append of one element, that stands in a literal's block; as one operation -/
theorem oper_E (hT : SlT E P T t) {w : World} {o : Oper} {a : Act} {K : Act → World → Prop} {Q : Exit → Act → World → Prop} (s x : Operand)
    (ho : o.op = .call { callee := .builtin .append, args := #[s, x], argTypes := #[T, T] })
    {base : Nat} {F : Nat → Prop} {v : Value} {l : List α} (hown : OwnE E t w base F v l) (hv : a.eval s = v)
    {u : X} {y : α} (hu : E.rd w (fun b => F b ∧ b < w.heap.size ∧ v.ownBlock ≠ some b) u y)
    {g : Nat} {cs : Array Value} (hcs : cs.toList = E.cells u y) (hg : Blk w g t cs) (hy : a.eval x = .slice (some ⟨g, 0, none⟩) 1 1)
    (hb : l.length + 1 ≤ 1000000000000) (hbase : base ≤ w.heap.size)
    (h : ∀ v' w', OwnE E t w' base F v' (l ++ [y]) → w.grownBy w' v.ownBlock → (v'.ownBlock = v.ownBlock ∨ v'.ownBlock = some w.heap.size) → K (a.put o.dst v') w') : Oper.wp P o a w K Q := by
  obtain ⟨i, z, hi, hz, h1, h2, h6⟩ := hT.inf
  obtain ⟨vs, e1, e2, e3⟩ := hown
  have hr : RdV w (fun _ => True) E.sz (.slice (some ⟨g, 0, none⟩) 1 1) 1 (E.cells u y) := ⟨by rw [E.len]; omega, _, 1, rfl, Nat.le_refl _, by simp [maxLen], fun _ => ⟨_, rfl, trivial, fun j q hq => by
    rw [add_none, Nat.zero_add, hg.cell, ← Array.getElem?_toList, hcs]
    exact hq⟩⟩
  subst hv
  rw [← hy] at hr
  have hbb : (l.length + 1) * i.bytes ≤ 140737488355328 := Nat.le_trans (Nat.mul_le_mul hb h2) (by decide)
  refine wp_append_rd w s x _ ho base t i _ E.sz _ hT.und hi hz h1 rfl h6 E.pos _ _ e2 _ _ _ hr (E.one hu) (by simp only [maxLen]; omega) hbb hbase ?_
  intro v' w' hown' hgr _ hat
  exact h v' w' (OwnE.grow e1 e3 hu hown' hgr hat) hgr hat
/-- the same in a walk of operations -/
theorem append_E (hT : SlT E P T t) {w : World} {ops : Array Oper} {rest : List Oper} {o : Oper} {a : Act} {Q : Exit → Act → World → Prop} (hgd : o.guard = none) (s x : Operand)
    (ho : o.op = .call { callee := .builtin .append, args := #[s, x], argTypes := #[T, T] })
    {base : Nat} {F : Nat → Prop} {v : Value} {l : List α} (hown : OwnE E t w base F v l) (hv : a.eval s = v)
    {u : X} {y : α} (hu : E.rd w (fun b => F b ∧ b < w.heap.size ∧ v.ownBlock ≠ some b) u y)
    {g : Nat} {cs : Array Value} (hcs : cs.toList = E.cells u y) (hg : Blk w g t cs) (hy : a.eval x = .slice (some ⟨g, 0, none⟩) 1 1)
    (hb : l.length + 1 ≤ 1000000000000) (hbase : base ≤ w.heap.size)
    (h : ∀ v' w', OwnE E t w' base F v' (l ++ [y]) → w.grownBy w' v.ownBlock → (v'.ownBlock = v.ownBlock ∨ v'.ownBlock = some w.heap.size) → wpList P ops Q rest (a.put o.dst v') w') : wpList P ops Q (o :: rest) a w :=
  wpList_plain hgd fun _ hK => oper_E hT s x ho hown hv hu hcs hg hy hb hbase fun v' w' h1 h2 h3 => hK _ _ (h v' w' h1 h2 h3)
end

/-! ### pairs -/
/-- key and value -/
def elP : El (Value × Value) (List UInt8 × List UInt8) where
  sz := 2
  pos := by omega
  cells := fun x _ => [x.1, x.2]
  len := fun _ _ => rfl
  rd := fun w F x a => RdB w F x.1 a.1 ∧ RdB w F x.2 a.2
  mono := fun h hF => ⟨h.1.mono hF, h.2.mono hF⟩
  chg := fun h hc hF => ⟨h.1.chg hc hF, h.2.chg hc hF⟩
  lt := fun h => ⟨h.1.lt, h.2.lt⟩
  one := fun h y hy => by
    obtain ⟨A, c, e, _, _⟩ := h.1.shape
    obtain ⟨B, d, f, _, _⟩ := h.2.shape
    simp at hy
    rcases hy with rfl | rfl
    · rw [e]; rfl
    · rw [f]; rfl
theorem RdE.pair {w : World} {F : Nat → Prop} {A : Option Addr} {n c : Nat} {l : List (List UInt8 × List UInt8)} (h : RdE elP w F (.slice A n c) l) {k : Nat} (hk : k < l.length) :
    ∃ ad B bn bc D dn dc, A = some ad ∧ F ad.block ∧ w.cell? (ad.add (k * 2)) = some (.slice B bn bc) ∧ w.cell? ⟨(ad.add (k * 2)).block, (ad.add (k * 2)).off + 1, none⟩ = some (.slice D dn dc) ∧ RdB w F (.slice B bn bc) l[k].1 ∧ RdB w F (.slice D dn dc) l[k].2 := by
  obtain ⟨ad, x, hA, hf, hcell, h1, h2⟩ := h.at_ hk
  obtain ⟨B, bc, e1, _, _⟩ := RdB.shape h1
  obtain ⟨D, dc, e2, _, _⟩ := RdB.shape h2
  refine ⟨ad, B, _, bc, D, _, dc, hA, hf, ?_, ?_, by rw [← e1]; exact h1, by rw [← e2]; exact h2⟩
  · rw [← e1]; simpa [elP] using hcell 0 x.1 rfl
  · rw [← e2, ← add_succ ad (k * 2) 1 (by omega)]; exact hcell 1 x.2 rfl
end Go.Proofs.YtliimeoblffigaaGreat

set_option maxRecDepth 100000
namespace Go.Proofs
open Go.Shelf
def Tryz.lays99_ren : Go.Shelf.Ren := ⟨fun | 99 => 103 | 206 => 143 | n => n, fun | 9 => 9 | 4 => 4 | 3 => 3 | n => n, fun | n => n⟩
theorem Tryz.lays99 : Go.Proofs.Lays.n99 Tryz.prog Tryz.lays99_ren := {
  mixed := by kernel_rfl
  f99 := Tryz.func103.trans (congrArg some (by kernel_rfl))
  f206 := Tryz.func143.trans (congrArg some (by kernel_rfl))
  t3 := Tryz.underlying3
  a3 := Tryz.isAgg3
  z3 := Tryz.sizeOf3
  v3 := Tryz.zeroValue3
  t4 := Tryz.underlying4
  a4 := Tryz.isAgg4
  z4 := Tryz.sizeOf4
  v4 := Tryz.zeroValue4
  t9 := Tryz.underlying9
  a9 := Tryz.isAgg9
  z9 := Tryz.sizeOf9
  v9 := Tryz.zeroValue9 }
open Go.RowKit Go.Lib in
theorem Tryz.strings_HasPrefix (s p : ByteArray) (w : World) :
    Calls Tryz.prog 103 #[.string s, .string p] w fun e w' => e = .returned (.bool (Lib.hasPrefix s.data.toList p.data.toList)) ∧ w' = w := Any.strings_HasPrefix Tryz.lays99 s p w
def Tryz.laysSlH6_f142_ren : Go.Shelf.Ren := ⟨fun | 6 => 142 | n => n, fun | 22 => 77 | 23 => 9 | 25 => 199 | 3 => 3 | 0 => 0 | 4 => 4 | n => n, fun | n => n⟩
theorem Tryz.laysSlH6_f142 : Go.Proofs.SlLaysH.n6 Tryz.prog Tryz.laysSlH6_f142_ren := {
  mixed := by kernel_rfl
  f6 := ⟨Tryz.f142.name, by decide, Tryz.func142.trans (congrArg some (by kernel_rfl))⟩
  t0 := Tryz.underlying0
  a0 := Tryz.isAgg0
  z0 := Tryz.sizeOf0
  v0 := Tryz.zeroValue0
  t3 := Tryz.underlying3
  a3 := Tryz.isAgg3
  z3 := Tryz.sizeOf3
  v3 := Tryz.zeroValue3
  t4 := Tryz.underlying4
  a4 := Tryz.isAgg4
  z4 := Tryz.sizeOf4
  v4 := Tryz.zeroValue4
  t22 := Tryz.underlying77
  a22 := Tryz.isAgg77
  z22 := Tryz.sizeOf77
  v22 := Tryz.zeroValue77
  a23 := Tryz.isAgg9
  z23 := Tryz.sizeOf9
  t25 := Tryz.underlying199
  a25 := Tryz.isAgg199
  z25 := Tryz.sizeOf199
  v25 := Tryz.zeroValue199 }
open Go.RowKit Go.Lib in
theorem Tryz.slices_IndexFunc_empty_f142 {α : Type} [Inhabited α] (a : Option Addr) (c : Nat) (fv : Value) (w : World) :
    Calls Tryz.prog 142 #[.slice a 0 c, fv] w fun e w' => e = .returned (.int .i64 (-1)) ∧ w' = w := AnyE.slices_IndexFunc_empty Tryz.laysSlH6_f142 a c fv w
def Tryz.laysSlH10_f101_ren : Go.Shelf.Ren := ⟨fun | 10 => 101 | 6 => 142 | n => n, fun | 22 => 77 | 23 => 9 | 25 => 199 | 3 => 3 | 4 => 4 | 0 => 0 | n => n, fun | n => n⟩
theorem Tryz.laysSlH10_f101 : Go.Proofs.SlLaysH.n10 Tryz.prog Tryz.laysSlH10_f101_ren := {
  mixed := by kernel_rfl
  f6 := ⟨Tryz.f142.name, by decide, Tryz.func142.trans (congrArg some (by kernel_rfl))⟩
  f10 := ⟨Tryz.f101.name, by decide, Tryz.func101.trans (congrArg some (by kernel_rfl))⟩
  t0 := Tryz.underlying0
  a0 := Tryz.isAgg0
  z0 := Tryz.sizeOf0
  v0 := Tryz.zeroValue0
  t3 := Tryz.underlying3
  a3 := Tryz.isAgg3
  z3 := Tryz.sizeOf3
  v3 := Tryz.zeroValue3
  t4 := Tryz.underlying4
  a4 := Tryz.isAgg4
  z4 := Tryz.sizeOf4
  v4 := Tryz.zeroValue4
  t22 := Tryz.underlying77
  a22 := Tryz.isAgg77
  z22 := Tryz.sizeOf77
  v22 := Tryz.zeroValue77
  a23 := Tryz.isAgg9
  z23 := Tryz.sizeOf9
  t25 := Tryz.underlying199
  a25 := Tryz.isAgg199
  z25 := Tryz.sizeOf199
  v25 := Tryz.zeroValue199 }
open Go.RowKit Go.Lib Go.Sort in
theorem Tryz.slices_DeleteFunc {α : Type} [Inhabited α] (enc : α → Value) (hO : OneCell enc) (p : α → Bool) (g : Nat) (lb : Array Value) (eg : ∀ args w, (callFunc g args).run Tryz.prog w = .ok (.enter g args) w) (zr : α) (v23 : ∀ w, (zeroValue 9).run Tryz.prog w = .ok (enc zr) w) (blk off cap : Nat) (d : Array α) (w : World) (hp : PredAt Tryz.prog g lb enc p w) (hpo : PredOver Tryz.prog g lb enc p blk off d.size w) (hH : Holds enc w blk off d) (hsz : d.size ≤ 9223372036854775807) (hcap : d.size ≤ cap) :
    Calls Tryz.prog 101 #[.slice (some ⟨blk, off, none⟩) d.size cap, .func (.func g) #[] lb] w fun e w' => e = .returned (.slice (some ⟨blk, off, none⟩) (d.toList.filter fun x => !p x).length cap) ∧ ∃ q, w' = putRow enc (Sort.ahead w q) blk off ((d.toList.filter fun x => !p x) ++ List.replicate (d.size - (d.toList.filter fun x => !p x).length) zr).toArray := AnyE.slices_DeleteFunc Tryz.laysSlH10_f101 enc hO p g lb eg zr v23 blk off cap d w hp hpo hH hsz hcap
def Tryz.keys100_ren : Go.Shelf.Ren := ⟨fun | 7 => 100 | 10 => 141 | n => n, fun | 23 => 114 | 26 => 9 | 3 => 30 | 28 => 195 | 0 => 0 | 27 => 194 | 33 => 199 | 4 => 4 | n => n, fun | n => n⟩
theorem Tryz.keys100 : Go.Proofs.SlLaysZ.n7 Tryz.prog Tryz.keys100_ren := {
  mixed := by kernel_rfl
  f7 := ⟨Tryz.f100.name, by decide, Tryz.func100.trans (congrArg some (by kernel_rfl))⟩
  f10 := ⟨Tryz.f141.name, by decide, Tryz.func141.trans (congrArg some (by kernel_rfl))⟩
  t0 := Tryz.underlying0
  a0 := Tryz.isAgg0
  z0 := Tryz.sizeOf0
  v0 := Tryz.zeroValue0
  t4 := Tryz.underlying4
  a4 := Tryz.isAgg4
  z4 := Tryz.sizeOf4
  v4 := Tryz.zeroValue4
  t23 := Tryz.underlying114
  a23 := Tryz.isAgg114
  z23 := Tryz.sizeOf114
  v23 := Tryz.zeroValue114
  t26 := Tryz.underlying9
  a26 := Tryz.isAgg9
  z26 := Tryz.sizeOf9
  v26 := Tryz.zeroValue9
  t27 := Tryz.underlying194
  a27 := Tryz.isAgg194
  z27 := Tryz.sizeOf194
  v27 := Tryz.zeroValue194
  t28 := Tryz.underlying195
  a28 := Tryz.isAgg195
  z28 := Tryz.sizeOf195
  v28 := Tryz.zeroValue195
  t33 := Tryz.underlying199
  a33 := Tryz.isAgg199
  z33 := Tryz.sizeOf199
  v33 := Tryz.zeroValue199 }
def Tryz.sorted99_ren : Go.Shelf.Ren := ⟨fun | 6 => 99 | 8 => 139 | 9 => 140 | 11 => 165 | 13 => 148 | 12 => 166 | 23 => 177 | 24 => 178 | 14 => 198 | 15 => 199 | 16 => 200 | 17 => 201 | 18 => 202 | 19 => 203 | 20 => 204 | 21 => 205 | 22 => 206 | 25 => 228 | 26 => 216 | 27 => 217 | 28 => 229 | 29 => 230 | 30 => 231 | 31 => 240 | n => n, fun | 26 => 9 | 28 => 195 | 24 => 77 | 0 => 0 | 3 => 3 | 37 => 229 | 48 => 272 | 50 => 25 | 4 => 4 | 40 => 266 | 39 => 265 | 45 => 126 | 5 => 5 | 9 => 9 | 51 => 303 | 55 => 306 | 57 => 317 | 58 => 318 | 33 => 199 | n => n, fun | n => n⟩
theorem Tryz.sorted99 : Go.Proofs.SlLaysZ.n6 Tryz.prog Tryz.sorted99_ren := {
  mixed := by kernel_rfl
  f6 := ⟨Tryz.f99.name, by decide, Tryz.func99.trans (congrArg some (by kernel_rfl))⟩
  f8 := ⟨Tryz.f139.name, by decide, Tryz.func139.trans (congrArg some (by kernel_rfl))⟩
  f11 := ⟨Tryz.f165.name, by decide, Tryz.func165.trans (congrArg some (by kernel_rfl))⟩
  t0 := Tryz.underlying0
  a0 := Tryz.isAgg0
  z0 := Tryz.sizeOf0
  v0 := Tryz.zeroValue0
  t24 := Tryz.underlying77
  a24 := Tryz.isAgg77
  z24 := Tryz.sizeOf77
  v24 := Tryz.zeroValue77
  t26 := Tryz.underlying9
  a26 := Tryz.isAgg9
  z26 := Tryz.sizeOf9
  v26 := Tryz.zeroValue9
  t28 := Tryz.underlying195
  a28 := Tryz.isAgg195
  z28 := Tryz.sizeOf195
  v28 := Tryz.zeroValue195
  i26 := by kernel_rfl }
def Tryz.sort140_ren : Go.Shelf.Ren := ⟨fun | 6 => 140 | 8 => 148 | 9 => 166 | 19 => 177 | 20 => 178 | 21 => 198 | 22 => 199 | 23 => 200 | 24 => 201 | 25 => 202 | 26 => 203 | 27 => 204 | 28 => 205 | 29 => 206 | 36 => 228 | 31 => 216 | 32 => 217 | 37 => 229 | 38 => 230 | 39 => 231 | 41 => 240 | n => n, fun | 27 => 77 | 29 => 9 | 3 => 3 | 32 => 229 | 26 => 77 | 0 => 0 | 44 => 272 | 46 => 25 | 4 => 4 | 36 => 266 | 35 => 265 | 41 => 126 | 5 => 5 | 9 => 9 | 53 => 303 | 57 => 306 | 63 => 317 | 64 => 318 | n => n, fun | n => n⟩
theorem Tryz.sort140 : Go.Proofs.SlLaysM.n6 Tryz.prog Tryz.sort140_ren := {
  mixed := by kernel_rfl
  f6 := ⟨Tryz.f140.name, by decide, Tryz.func140.trans (congrArg some (by kernel_rfl))⟩
  f8 := Tryz.func148.trans (congrArg some (by kernel_rfl))
  f9 := ⟨Tryz.f166.name, by decide, Tryz.func166.trans (congrArg some (by kernel_rfl))⟩
  f19 := Tryz.func177.trans (congrArg some (by kernel_rfl))
  f20 := Tryz.func178.trans (congrArg some (by kernel_rfl))
  f21 := ⟨Tryz.f198.name, by decide, Tryz.func198.trans (congrArg some (by kernel_rfl))⟩
  f22 := ⟨Tryz.f199.name, by decide, Tryz.func199.trans (congrArg some (by kernel_rfl))⟩
  f23 := ⟨Tryz.f200.name, by decide, Tryz.func200.trans (congrArg some (by kernel_rfl))⟩
  f24 := ⟨Tryz.f201.name, by decide, Tryz.func201.trans (congrArg some (by kernel_rfl))⟩
  f25 := ⟨Tryz.f202.name, by decide, Tryz.func202.trans (congrArg some (by kernel_rfl))⟩
  f26 := ⟨Tryz.f203.name, by decide, Tryz.func203.trans (congrArg some (by kernel_rfl))⟩
  f27 := ⟨Tryz.f204.name, by decide, Tryz.func204.trans (congrArg some (by kernel_rfl))⟩
  f28 := ⟨Tryz.f205.name, by decide, Tryz.func205.trans (congrArg some (by kernel_rfl))⟩
  f29 := ⟨Tryz.f206.name, by decide, Tryz.func206.trans (congrArg some (by kernel_rfl))⟩
  f31 := Tryz.func216.trans (congrArg some (by kernel_rfl))
  f32 := Tryz.func217.trans (congrArg some (by kernel_rfl))
  f36 := ⟨Tryz.f228.name, by decide, Tryz.func228.trans (congrArg some (by kernel_rfl))⟩
  f37 := ⟨Tryz.f229.name, by decide, Tryz.func229.trans (congrArg some (by kernel_rfl))⟩
  f38 := ⟨Tryz.f230.name, by decide, Tryz.func230.trans (congrArg some (by kernel_rfl))⟩
  f39 := ⟨Tryz.f231.name, by decide, Tryz.func231.trans (congrArg some (by kernel_rfl))⟩
  f41 := ⟨Tryz.f240.name, by decide, Tryz.func240.trans (congrArg some (by kernel_rfl))⟩
  t0 := Tryz.underlying0
  a0 := Tryz.isAgg0
  z0 := Tryz.sizeOf0
  v0 := Tryz.zeroValue0
  t3 := Tryz.underlying3
  a3 := Tryz.isAgg3
  z3 := Tryz.sizeOf3
  v3 := Tryz.zeroValue3
  t4 := Tryz.underlying4
  a4 := Tryz.isAgg4
  z4 := Tryz.sizeOf4
  v4 := Tryz.zeroValue4
  t5 := Tryz.underlying5
  a5 := Tryz.isAgg5
  z5 := Tryz.sizeOf5
  v5 := Tryz.zeroValue5
  t9 := Tryz.underlying9
  a9 := Tryz.isAgg9
  z9 := Tryz.sizeOf9
  v9 := Tryz.zeroValue9
  t26 := Tryz.underlying77
  a26 := Tryz.isAgg77
  z26 := Tryz.sizeOf77
  v26 := Tryz.zeroValue77
  t27 := Tryz.underlying77
  a27 := Tryz.isAgg77
  z27 := Tryz.sizeOf77
  v27 := Tryz.zeroValue77
  t29 := Tryz.underlying9
  a29 := Tryz.isAgg9
  z29 := Tryz.sizeOf9
  v29 := Tryz.zeroValue9
  t32 := Tryz.underlying229
  a32 := Tryz.isAgg229
  z32 := Tryz.sizeOf229
  v32 := Tryz.zeroValue229
  t35 := Tryz.underlying265
  a35 := Tryz.isAgg265
  z35 := Tryz.sizeOf265
  v35 := Tryz.zeroValue265
  t36 := Tryz.underlying266
  a36 := Tryz.isAgg266
  z36 := Tryz.sizeOf266
  v36 := Tryz.zeroValue266
  t41 := Tryz.underlying126
  a41 := Tryz.isAgg126
  z41 := Tryz.sizeOf126
  v41 := Tryz.zeroValue126
  t44 := Tryz.underlying272
  a44 := Tryz.isAgg272
  z44 := Tryz.sizeOf272
  v44 := Tryz.zeroValue272
  t46 := Tryz.underlying25
  a46 := Tryz.isAgg25
  z46 := Tryz.sizeOf25
  v46 := Tryz.zeroValue25
  t53 := Tryz.underlying303
  a53 := Tryz.isAgg303
  z53 := Tryz.sizeOf303
  v53 := Tryz.zeroValue303
  t57 := Tryz.underlying306
  a57 := Tryz.isAgg306
  z57 := Tryz.sizeOf306
  v57 := Tryz.zeroValue306
  t63 := Tryz.underlying317
  a63 := Tryz.isAgg317
  z63 := Tryz.sizeOf317
  v63 := Tryz.zeroValue317
  t64 := Tryz.underlying318
  a64 := Tryz.isAgg318
  z64 := Tryz.sizeOf318
  v64 := Tryz.zeroValue318 }
open Go.RowKit Go.Maps Go.Sort Go.Shelf
theorem Tryz.sorts99 (m : Nat) : AnyZ.SortsIn Tryz.prog Tryz.sorted99_ren Fence.wide m :=
  ⟨fun blk off cap ss W hH hblk hsz => callsIn_wide.2 (AnyM.slices_Sort_string Tryz.sort140 blk off cap ss W hH hblk hsz),
   fun p cap W => callsIn_wide.2 (AnyM.slices_Sort_string_none Tryz.sort140 p cap W)⟩

theorem Tryz.maps_Keys_100 (mb : Option Nat) (W : World) : CallsIn Fence.wide 5 Tryz.prog 100 #[.map mb] W fun e w' => e = .returned (.func (.func 141) #[] #[.pointer (some ⟨W.heap.size, 0, none⟩)]) ∧ w' = W.alloc (.cells #[.map mb] 114) :=
  AnyZ.keys_in Tryz.keys100 Fence.wide 5 trivial rfl mb W

set_option maxHeartbeats 1000000 in
theorem Tryz.slices_Sorted_keys_99_100 {H : Type} (b nn : Nat) (D0 : DataW H) (R : Value → Option (DataW H × List MemPlace)) (w : World) (hown : w.ownsMap Tryz.prog 9 R b nn D0) (hmax : Maps.size D0 ≤ maxLen) (hbytes : Maps.size D0 * 16 ≤ 140737488355328) :
    CallsIn Fence.wide 5 Tryz.prog 99 #[.func (.func 141) #[] #[.pointer (some ⟨w.heap.size, 0, none⟩)]] (w.alloc (.cells #[.map (some b)] 114)) fun e w' => ∃ (v : Value) (ss : List (List UInt8)), e = .returned v ∧ ss.Perm (strKeys D0) ∧
      w'.ownsRow (w.alloc (.cells #[.map (some b)] 114)).heap.size 9 1 v ss.length ((ss.mergeSort (fun x y => decide (x ≤ y))).map encStr) ∧ (v = .slice none 0 0 ↔ ss = []) ∧ Below (w.alloc (.cells #[.map (some b)] 114)).heap.size (w.alloc (.cells #[.map (some b)] 114)) w' := by
  have hbl := hown.lt
  have hseq : SeqGives Fence.wide 2 Tryz.prog 141 #[.pointer (some ⟨w.heap.size, 0, none⟩)] encStr (fun ss => ss.Perm (strKeys D0)) (Maps.size D0) (w.alloc (.cells #[.map (some b)] 114)) :=
    AnyZ.keys_gives (ρ := Tryz.keys100_ren) { Tryz.keys100 with } Fence.wide _ trivial rfl (by omega) w.heap.size b nn D0 _ (by simp) (by simp) (by
      obtain ⟨es, clock, hb, Ft, hs, hD⟩ := hown
      exact ⟨es, clock, (Below.heap_alloc _ _ b hbl).trans hb, Ft, hs, hD⟩)
  exact AnyZ.sorted_in Tryz.sorted99 Fence.wide 5 trivial trivial trivial trivial rfl (by omega) (Tryz.sorts99 _) (enters_of Tryz.func140 (by kernel_rfl) rfl) 141 #[.pointer (some ⟨w.heap.size, 0, none⟩)] trivial (enters_of Tryz.func141 (by kernel_rfl) rfl) _ _ hmax hbytes _ hseq

set_option maxHeartbeats 1000000 in
theorem Tryz.slices_Sorted_keys_nil_99_100 (w : World) :
    CallsIn Fence.wide 5 Tryz.prog 99 #[.func (.func 141) #[] #[.pointer (some ⟨w.heap.size, 0, none⟩)]] (w.alloc (.cells #[.map none] 114)) fun e w' => ∃ (v : Value) (ss : List (List UInt8)), e = .returned v ∧ ss = [] ∧
      w'.ownsRow (w.alloc (.cells #[.map none] 114)).heap.size 9 1 v ss.length ((ss.mergeSort (fun x y => decide (x ≤ y))).map encStr) ∧ (v = .slice none 0 0 ↔ ss = []) ∧ Below (w.alloc (.cells #[.map none] 114)).heap.size (w.alloc (.cells #[.map none] 114)) w' := by
  have hseq : SeqGives Fence.wide 2 Tryz.prog 141 #[.pointer (some ⟨w.heap.size, 0, none⟩)] encStr (fun ss : List (List UInt8) => ss = []) 0 (w.alloc (.cells #[.map none] 114)) :=
    AnyZ.keys_gives_nil (ρ := Tryz.keys100_ren) { Tryz.keys100 with } Fence.wide _ trivial rfl w.heap.size _ (by simp) (by simp)
  exact AnyZ.sorted_in Tryz.sorted99 Fence.wide 5 trivial trivial trivial trivial rfl (by omega) (Tryz.sorts99 _) (enters_of Tryz.func140 (by kernel_rfl) rfl) 141 #[.pointer (some ⟨w.heap.size, 0, none⟩)] trivial (enters_of Tryz.func141 (by kernel_rfl) rfl) _ 0 (Nat.zero_le _) (by omega) _ hseq

end Go.Proofs

set_option maxRecDepth 100000
namespace Go.Proofs.YtliimeoblffigaaGreat
open Go.RowKit Go.Maps
set_option linter.unusedVariables false
set_option linter.unusedSimpArgs false

/-- 'things[name]' -/
theorem FsL.lookV {w : World} {sup : List Nm} {F : Nat → Prop} {v : Value} {l : FL} (h : FsL w sup F v l) (s : ByteArray) (hs : s.size ≤ maxLen) :
    ∃ x, RdB w F x ((fOf l s.data.toList).getD []) ∧ ∀ w', Chg Non w w' → (Instr.lookup 114 v (.string s) true).run Tryz.prog w' = .ok (.tuple #[x, .bool (fOf l s.data.toList).isSome]) w' := by
  rcases h.map with ⟨rfl, rfl⟩ | ⟨B, rfl, hm⟩
  · exact ⟨nilS, RdB.nil_ w F, fun w' _ => Maps.look_nil (w := w') true keyF Tryz.underlying114 (zeroB w') (keyOf_s s hs)⟩
  · refine ⟨((aGet klS l s.data.toList).map (·.1)).getD nilS, ?_, fun w' hc => ?_⟩
    · unfold fOf
      cases e : aGet klS l s.data.toList with
      | none => exact RdB.nil_ w F
      | some p => exact h.rd _ (get_mem keyS e)
    · obtain ⟨v, ps, hr, hv⟩ := World.ownsMap.look_ok (ownsMap_chg hm hc (fun h => h)) keyF Tryz.underlying114 (zeroB w') (zd := .held nilS) rfl (keyOf_s s hs)
      rw [datS_at] at hv
      rw [dat_has] at hr
      simp only [heldR, Option.some.injEq, Prod.mk.injEq, DataW.held.injEq] at hv
      have e : (aGet klS l s.data.toList).isSome = (fOf l s.data.toList).isSome := by unfold fOf; cases aGet klS l s.data.toList <;> rfl
      rw [hr, hv.1, e]
/-- a vault at block vb: what lies in it; all its blocks lie in T -/
def Vlt (w : World) (T : Nat → Prop) (vb : Nat) (sup : List Nm) (l : FL) : Prop :=
  ∃ (mv : Value) (F : Nat → Prop), Blk w vb 116 #[mv] ∧ FsL w sup F mv l ∧ (∀ b, F b → T b ∧ b ≠ vb ∧ ∀ B, mv = .map (some B) → b ≠ B) ∧ (∀ B, mv = .map (some B) → T B ∧ B ≠ vb) ∧ T vb ∧ ∀ b, T b → b < w.heap.size
section
variable {w w' : World} {T T' Sx : Nat → Prop} {vb : Nat} {sup : List Nm} {l : FL}
theorem Vlt.chg (h : Vlt w T vb sup l) (hc : Chg Sx w w') (hS : ∀ b, T b → ¬ Sx b) : Vlt w' T vb sup l := by
  obtain ⟨mv, F, h1, h2, h3, h4, h5, h6⟩ := h
  exact ⟨mv, F, h1.chg hc (hS _ h5), h2.chg hc (fun b hb => hS b (h3 b hb).1) (fun B e => hS B (h4 B e).1), h3, h4, h5, fun b hb => Nat.lt_of_lt_of_le (h6 b hb) hc.size⟩
theorem Vlt.c0 (h : Vlt w T vb sup l) (hc : Chg Non w w') : Vlt w' T vb sup l := h.chg hc fun _ _ h => h
theorem Vlt.lt (h : Vlt w T vb sup l) : ∀ b, T b → b < w.heap.size := by obtain ⟨mv, F, h1, h2, h3, h4, h5, h6⟩ := h; exact h6
end
theorem vltNew (w : World) (sup : List Nm) : Calls Tryz.prog 20 #[] w fun e w' => ∃ vb, e = .returned (.pointer (some ⟨vb, 0, none⟩)) ∧ w.heap.size ≤ vb ∧ Vlt w' (fun b => b = vb) vb sup [] ∧ Chg Non w w' := by
  go_enter Tryz.func20, Tryz.ntmps20
  go_wp2_with fail
  go_ret
  refine ⟨_, rfl, Nat.le_refl _, ⟨.map none, Non, Blk.new w _ _, ⟨Once.nil_, fun p hp => by simp at hp, fun p hp => by simp at hp, .inl ⟨rfl, rfl⟩⟩, fun b hb => hb.elim, fun B e => (by cases e), rfl, fun b hb => ?_⟩, (Chg.refl Non w).alloc _⟩
  have hb : b = w.heap.size := hb
  rw [hb, sizeAl']; omega
set_option maxHeartbeats 4000000 in
theorem vltPath {w : World} {b vb : Nat} {pre x : ByteArray} (hz : pre.size + x.size ≤ 10000) (h : w.cell? ⟨b, 0, none⟩ = some (.string x)) :
    Calls Tryz.prog 66 #[.agg #[.pointer (some ⟨vb, 0, none⟩), .string pre], .slice (some ⟨b, 0, none⟩) 1 1] w fun e w' => e = .returned (.string (pre ++ x)) ∧ Chg Non w w' := by
  have hcb := (Chg.refl Non w).alloc (.cells #[.pointer (some ⟨vb, 0, none⟩), .string pre] 65)
  have hb1 : (w.alloc (.cells #[.pointer (some ⟨vb, 0, none⟩), .string pre] 65)).cell? ⟨w.heap.size, 1, none⟩ = some (.string pre) := (Blk.new w 65 #[.pointer (some ⟨vb, 0, none⟩), .string pre]).cell 1
  have hx := hcb.cell h (fun h => h)
  have hzz : ¬ (9223372036854775807 < pre.size + x.size) := by omega
  clear h
  go_enter Tryz.func66, Tryz.ntmps66
  go_upto_region 1 with fail
  generalize w.alloc (.cells #[.pointer (some ⟨vb, 0, none⟩), .string pre] 65) = wb at hcb hb1 hx ⊢
  go_region_law (go_simp; go_at_call 98; refine (joinOne (w := wb.drew) hx).mono ?_; rintro e w1 ⟨rfl, hq⟩; have hc1 := ((Chg.refl Non wb).drew).quiet hq; have hb2 := hc1.cell hb1 (fun h => h))
  all_goals
    try simp only [List.getElem_toArray, List.getElem_cons_succ, List.getElem_cons_zero, Act.put, List.setIfInBounds_toArray, List.set_cons_zero, List.set_cons_succ]
    go_wp2_with fail
    go_ret
    exact ⟨rfl, hcb.trans0 hc1⟩
theorem joinNone (w : World) :
    Calls Tryz.prog 98 #[.slice none 0 0, .string ⟨#[]⟩] w fun e w' => e = .returned (.string ⟨#[]⟩) ∧ ∃ k, w' = w.drewN k := by
  go_enter Tryz.func98, Tryz.ntmps98
  go_wp2_with fail
  go_ret
  exact ⟨rfl, 0, rfl⟩
set_option maxHeartbeats 4000000 in
theorem vltPath0 {w : World} {vb : Nat} {pre : ByteArray} (hz : pre.size ≤ 10000) :
    Calls Tryz.prog 66 #[.agg #[.pointer (some ⟨vb, 0, none⟩), .string pre], .slice none 0 0] w fun e w' => e = .returned (.string (pre ++ ⟨#[]⟩)) ∧ Chg Non w w' := by
  have hcb := (Chg.refl Non w).alloc (.cells #[.pointer (some ⟨vb, 0, none⟩), .string pre] 65)
  have hb1 : (w.alloc (.cells #[.pointer (some ⟨vb, 0, none⟩), .string pre] 65)).cell? ⟨w.heap.size, 1, none⟩ = some (.string pre) := (Blk.new w 65 #[.pointer (some ⟨vb, 0, none⟩), .string pre]).cell 1
  have hzz : ¬ (9223372036854775807 < pre.size) := by omega
  go_enter Tryz.func66, Tryz.ntmps66
  go_upto_region 1 with fail
  generalize w.alloc (.cells #[.pointer (some ⟨vb, 0, none⟩), .string pre] 65) = wb at hcb hb1 ⊢
  go_region_law (go_simp; go_at_call 98; refine (joinNone wb.drew).mono ?_; rintro e w1 ⟨rfl, hq⟩; have hc1 := ((Chg.refl Non wb).drew).quiet hq; have hb2 := hc1.cell hb1 (fun h => h))
  all_goals
    try simp only [List.getElem_toArray, List.getElem_cons_succ, List.getElem_cons_zero, Act.put, List.setIfInBounds_toArray, List.set_cons_zero, List.set_cons_succ]
    go_wp2_with fail
    go_ret
    exact ⟨rfl, hcb.trans0 hc1⟩
end Go.Proofs.YtliimeoblffigaaGreat

