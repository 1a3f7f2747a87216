/- A list of records that comes in: what it reads as. -/
import Derived.Test.YtpbgjldjipgfeaaOpenRc
import Derived.Test.YtpbgjldjipgfeaaBtwA
namespace Go.Proofs.Ytpbgjldjipgfeaa
open Go.ChangeShapes Go.WideShapes Go.ChangeAt Go.RowKit Go.Deep
set_option linter.unusedVariables false

instance : Inhabited RcS := ⟨zeroR⟩
def recL (x : RcS) (a b c d : Value) : List Value := [.int .i64 x.kind, .int .u64 (x.boot : Int), .int .u64 (x.sess : Int), .int .u64 (x.seq : Int), a, b, .bool x.commit, c, d, .int .u64 (x.id : Int), .string x.name]
theorem flatK_get {α : Type} (n : Nat) (f : α → List Value) (hf : ∀ a, (f a).length = n) : ∀ (l : List α) (k i : Nat) (h : k < l.length), i < n → (l.flatMap f)[k * n + i]? = (f l[k])[i]?
  | a :: l, 0, i, _, hi => by
    rw [Nat.zero_mul, Nat.zero_add, List.flatMap_cons, List.getElem?_append_left (by rw [hf]; exact hi)]
    rfl
  | a :: l, k + 1, i, h, hi => by
    rw [List.flatMap_cons, Nat.succ_mul, show k * n + n + i = n + (k * n + i) by omega, List.getElem?_append_right (by rw [hf]; omega), hf, show n + (k * n + i) - n = k * n + i by omega]
    rw [flatK_get n f hf l k i (by simpa using h) hi]
    rfl
theorem flatK_len {α : Type} (n : Nat) (f : α → List Value) (hf : ∀ a, (f a).length = n) : ∀ l : List α, (l.flatMap f).length = l.length * n
  | [] => by simp
  | a :: l => by rw [List.flatMap_cons, List.length_append, hf, flatK_len n f hf l, List.length_cons, Nat.succ_mul, Nat.add_comm]
def flL (qs : List Q4) (l : List RcS) : List Value := (qs.zip l).flatMap fun z => recL z.2 z.1.1 z.1.2.1 z.1.2.2.1 z.1.2.2.2
theorem flL_app {q1 q2 : List Q4} {l1 l2 : List RcS} (h : q1.length = l1.length) : flL (q1 ++ q2) (l1 ++ l2) = flL q1 l1 ++ flL q2 l2 := by
  rw [flL, List.zip_append h, List.flatMap_append]; rfl
theorem flL_cons (q : Q4) (qs : List Q4) (p : RcS) (ps : List RcS) : flL (q :: qs) (p :: ps) = recL p q.1 q.2.1 q.2.2.1 q.2.2.2 ++ flL qs ps := rfl
theorem flL_len (qs : List Q4) (l : List RcS) (h : qs.length = l.length) : (flL qs l).length = l.length * 11 := by
  rw [flL, flatK_len 11 _ (fun _ => rfl), List.length_zip, h, Nat.min_self]
/-- each element's slices read as its record -/
def RcsL (w : World) (F : Nat → Prop) (qs : List Q4) (l : List RcS) : Prop := ∀ (i : Nat) (q : Q4) (x : RcS), qs[i]? = some q → l[i]? = some x → RecR w F x q.1 q.2.1 q.2.2.1 q.2.2.2
theorem RcsL.chg {w w' : World} {F S : Nat → Prop} {qs : List Q4} {l : List RcS} (h : RcsL w F qs l) (hc : Chg S w w') (hF : ∀ k, F k → ¬ S k) : RcsL w' F qs l := fun i q x hq hx => (h i q x hq hx).chg hc hF
theorem RcsL.mono {w : World} {F F' : Nat → Prop} {qs : List Q4} {l : List RcS} (h : RcsL w F qs l) (hF : ∀ k, F k → F' k) : RcsL w F' qs l := fun i q x hq hx => (h i q x hq hx).mono hF
theorem RcsL.snoc {w : World} {F : Nat → Prop} {qs : List Q4} {l : List RcS} {q : Q4} {x : RcS} (h : RcsL w F qs l) (hl : qs.length = l.length) (hx : RecR w F x q.1 q.2.1 q.2.2.1 q.2.2.2) : RcsL w F (qs ++ [q]) (l ++ [x]) := fun i p y hp hy => by
  rcases Nat.lt_or_ge i l.length with hi | hi
  · rw [List.getElem?_append_left (by omega)] at hp
    rw [List.getElem?_append_left hi] at hy
    exact h i p y hp hy
  · rw [List.getElem?_append_right (by omega), hl] at hp
    rw [List.getElem?_append_right hi] at hy
    generalize i - l.length = j at hp hy
    match j, hp, hy with
    | 0, hp, hy =>
      simp at hp hy
      subst hp; subst hy
      exact hx
    | j + 1, hp, hy => simp at hp
/-- the slice value v reads as the list of records -/
def RdL (w : World) (F : Nat → Prop) (v : Value) (l : List RcS) : Prop := ∃ qs, qs.length = l.length ∧ RdV w F 11 v l.length (flL qs l) ∧ RcsL w F qs l
theorem rdL_mk {w : World} {F : Nat → Prop} {a : Addr} {len cap : Nat} (hl : len ≤ cap) (hm : cap ≤ maxLen) (f : Nat → Q4 × RcS)
    (h : ∀ i, i < len → F a.block ∧ (∀ j u, (recL (f i).2 (f i).1.1 (f i).1.2.1 (f i).1.2.2.1 (f i).1.2.2.2)[j]? = some u → w.cell? (a.add (i * 11 + j)) = some u) ∧ RecR w F (f i).2 (f i).1.1 (f i).1.2.1 (f i).1.2.2.1 (f i).1.2.2.2) :
    RdL w F (.slice (some a) len cap) ((List.range len).map fun i => (f i).2) := by
  have e2 : ((List.range len).map fun i => (f i).2).length = len := by simp
  have ez : (((List.range len).map fun i => (f i).1).zip ((List.range len).map fun i => (f i).2)) = (List.range len).map f := by rw [List.zip_map']
  have el : ((List.range len).map f).length = len := by simp
  refine ⟨(List.range len).map fun i => (f i).1, by simp, ?_, ?_⟩
  · have hfl : (flL ((List.range len).map fun i => (f i).1) ((List.range len).map fun i => (f i).2)).length = len * 11 := by rw [flL_len _ _ (by simp), e2]
    rw [e2]
    refine ⟨hfl, some a, cap, rfl, hl, hm, fun hn => ⟨a, rfl, (h 0 hn).1, fun j u hu => ?_⟩⟩
    have hj : j < len * 11 := by rw [← hfl]; exact (List.getElem?_eq_some_iff.1 hu).1
    have hk : j / 11 < len := by omega
    have hj3 : j = j / 11 * 11 + j % 11 := by omega
    have hg := flatK_get 11 (fun z : Q4 × RcS => recL z.2 z.1.1 z.1.2.1 z.1.2.2.1 z.1.2.2.2) (fun _ => rfl) ((List.range len).map f) (j / 11) (j % 11) (by rw [el]; exact hk) (by omega)
    rw [← hj3] at hg
    rw [flL, ez] at hu
    rw [hu] at hg
    have he : ((List.range len).map f)[j / 11]'(by rw [el]; exact hk) = f (j / 11) := by simp
    rw [he] at hg
    rw [hj3]
    exact (h (j / 11) hk).2.1 _ _ hg.symm
  · intro i q x hq hx
    simp only [List.getElem?_map, Option.map_eq_some_iff] at hq hx
    obtain ⟨k, hk, rfl⟩ := hq
    obtain ⟨k', hk', rfl⟩ := hx
    obtain ⟨h1, h2⟩ := List.getElem?_eq_some_iff.1 hk
    obtain ⟨h3, h4⟩ := List.getElem?_eq_some_iff.1 hk'
    simp at h1 h2 h4
    subst h2; subst h4
    exact (h i h1).2.2

section
variable {H : Type} {enc : TypeId × Value → H} {W : World}
theorem bulk_mem {α : Type} (g : α → DataW H) : ∀ (l : List α) (a : α), a ∈ l → Rows.uptoBulk (g a) ≤ Rows.uptoBulkAll (l.map g)
  | b :: l, a, h => by
    simp only [List.map_cons, Rows.uptoBulkAll]
    rcases List.mem_cons.1 h with rfl | h
    · omega
    · have := bulk_mem g l a h; omega
set_option maxRecDepth 100000 in
set_option maxHeartbeats 4000000 in
theorem openRecT {fuel : Nat} {cs : List Value} {y : DataW H × List MemPlace} (hf : DataW.trod enc Try.prog W 0 (fun _ => true) true fuel 30 cs = some y) :
    ∃ (x : RcS) (a b c e : Value), cs = (recC x a b c e).toList ∧ RecR W (fun k => k < W.heap.size) x a b c e ∧ RcWf x ∧ (Rows.uptoBulk y.1 ≤ 1048576 → RcSm x) := by
  have hc11 : Try.prog.cellsOf 30 = 11 := by kernel_rfl
  obtain ⟨xs, k, hkk, hxy, hlen, hxl, hfs⟩ := DataW.trod_struct Try.underlying30 hf
  rw [hc11] at hlen
  match xs, hxl, cs, hlen with
  | [y0, y1, y2, y3, y4, y5, y6, y7, y8], _, [u0, u1, u2, u3, u4, u5, u6, u7, u8, u9, u10], _ =>
    have g0 := hfs 0 _ rfl
    have g1 := hfs 1 _ rfl
    have g2 := hfs 2 _ rfl
    have g3 := hfs 3 _ rfl
    have g4 := hfs 4 _ rfl
    have g5 := hfs 5 _ rfl
    have g6 := hfs 6 _ rfl
    have g7 := hfs 7 _ rfl
    have g8 := hfs 8 _ rfl
    have c0 : Try.prog.cellsOf 3 = 1 := by kernel_rfl
    have c1 : Try.prog.cellsOf 24 = 3 := by kernel_rfl
    have c2 : Try.prog.cellsOf 25 = 1 := by kernel_rfl
    have c3 : Try.prog.cellsOf 26 = 1 := by kernel_rfl
    have c4 : Try.prog.cellsOf 4 = 1 := by kernel_rfl
    have c5 : Try.prog.cellsOf 27 = 1 := by kernel_rfl
    have c6 : Try.prog.cellsOf 28 = 1 := by kernel_rfl
    have c7 : Try.prog.cellsOf 22 = 1 := by kernel_rfl
    have c8 : Try.prog.cellsOf 9 = 1 := by kernel_rfl
    simp [c0, c1, c2, c3, c4, c5, c6, c7, c8] at g0 g1 g2 g3 g4 g5 g6 g7 g8
    obtain ⟨x0, q0, z0, w0⟩ := DataW.trod_int Try.underlying3 g0
    obtain ⟨xs1, k1, _, hxy1, _, hxl1, hfs1⟩ := DataW.trod_struct Try.underlying24 g1
    match xs1, hxl1 with
    | [t0, t1, t2], _ =>
      have f0 := hfs1 0 _ rfl
      have f1 := hfs1 1 _ rfl
      have f2 := hfs1 2 _ rfl
      simp [c7] at f0 f1 f2
      obtain ⟨b0, r0, _, v0⟩ := DataW.trod_int Try.underlying22 f0
      obtain ⟨b1, r1, _, v1⟩ := DataW.trod_int Try.underlying22 f1
      obtain ⟨b2, r2, _, v2⟩ := DataW.trod_int Try.underlying22 f2
      obtain ⟨lw, hw, sw⟩ := openWs g2
      obtain ⟨lr, hr, sr⟩ := openRs g3
      obtain ⟨b3, q3, _⟩ := DataW.trod_bool Try.underlying4 g4
      obtain ⟨li, hi, si, wi⟩ := openIs g5
      obtain ⟨lb, hb, sb⟩ := open_b g6
      obtain ⟨b7, r7, _, v7⟩ := DataW.trod_int Try.underlying22 g7
      obtain ⟨nm, q8, z8, _⟩ := DataW.trod_string Try.underlying9 g8
      simp only [List.cons.injEq, and_true] at q0 r0 r1 r2 q3 r7 q8
      have hw0 : 0 ≤ b0 ∧ b0 ≤ 18446744073709551615 := by simpa [Lit.wf, IntKind.min, IntKind.max, IntKind.signed, IntKind.bits] using v0
      have hw1 : 0 ≤ b1 ∧ b1 ≤ 18446744073709551615 := by simpa [Lit.wf, IntKind.min, IntKind.max, IntKind.signed, IntKind.bits] using v1
      have hw2 : 0 ≤ b2 ∧ b2 ≤ 18446744073709551615 := by simpa [Lit.wf, IntKind.min, IntKind.max, IntKind.signed, IntKind.bits] using v2
      have hw7 : 0 ≤ b7 ∧ b7 ≤ 18446744073709551615 := by simpa [Lit.wf, IntKind.min, IntKind.max, IntKind.signed, IntKind.bits] using v7
      have hxy1 : y.1 = _ := congrArg Prod.fst hxy
      have i0 : b0 = ((b0.toNat : Nat) : Int) := by omega
      have i1 : b1 = ((b1.toNat : Nat) : Int) := by omega
      have i2 : b2 = ((b2.toNat : Nat) : Int) := by omega
      have i7 : b7 = ((b7.toNat : Nat) : Int) := by omega
      have m0 : U64 b0.toNat := by show b0.toNat < _; omega
      have m1 : U64 b1.toNat := by show b1.toNat < _; omega
      have m2 : U64 b2.toNat := by show b2.toNat < _; omega
      have m7 : U64 b7.toNat := by show b7.toNat < _; omega
      refine ⟨⟨x0, b0.toNat, b1.toNat, b2.toNat, lw, lr, b3, li, lb, b7.toNat, nm⟩, u4, u5, u7, u8, ?_, ⟨hw, hr, hi, hb, m0, m1, m2, m7, w0⟩, ⟨⟨m0, m1, m2, m7⟩, wi⟩, fun hd => ?_⟩
      · rw [q0, r0, r1, r2, q3, r7, q8, i0, i1, i2, i7]
        rfl
      · rw [hxy1] at hd
        simp only [List.map_cons, List.map_nil, Rows.uptoBulk, Rows.uptoBulkAll] at hd
        have hs := sb.1
        have hn : nm.size + 1 ≤ Rows.uptoBulk y8.1 := by
          rw [z8]
          simp only [Rows.uptoBulk]
          show nm.data.size + 1 ≤ nm.data.toList.length + 1
          rw [Array.length_toList]
          exact Nat.le_refl _
        have lw' : lw.length ≤ triW lw := triW_len lw
        have lr' : lr.length ≤ triW lr := triW_len lr
        exact ⟨by show triW lw ≤ _; omega, by show triW lr ≤ _; omega, by show lw.length ≤ _; omega, by show lr.length ≤ _; omega, by show li.length ≤ _; omega, by show lb.length ≤ _; omega, by show nm.size ≤ _; omega⟩

set_option maxRecDepth 100000 in
theorem openRcl {base : Nat} {v : Value} {d : DataW H} {p : List MemPlace} (hv : Value.okWide Try.prog W .any base 56 v) (h : DataW.Trod enc Try.prog W 0 (fun _ => true) true 56 v d p) :
    ∃ l : List RcS, RdL W (fun k => k < W.heap.size) v l ∧ (∀ x ∈ l, RcWf x) ∧ (Rows.uptoBulk d ≤ 1048576 → ∀ x ∈ l, RcSm x) := by
  obtain ⟨va, vn, vc, rfl⟩ := okWide_slice Try.underlying56 hv
  obtain ⟨fuel, hf⟩ := h
  rcases open_slice Try.underlying56 hf with ⟨hcs, hx⟩ | ⟨a, len, cap, m, n, D, Pl, hcs, hb, hl, hm, hmm, hx, hi⟩
  · simp only [Value.cells, List.cons.injEq, and_true] at hcs
    rw [hcs]
    exact ⟨[], ⟨[], rfl, RdV.nil_ _ _ _, fun i q x hq _ => by simp at hq⟩, fun x hx => (by cases hx), fun _ x hx => (by cases hx)⟩
  · simp only [Value.cells, List.cons.injEq, and_true] at hcs
    simp only [Prod.mk.injEq] at hx
    have hx0 := hx
    rw [hcs]
    have hlm : len ≤ m := by rw [hmm]; split <;> omega
    have each : ∀ i, i < m → ∃ it : Q4 × RcS, a.block < W.heap.size ∧ (∀ j u, (recL it.2 it.1.1 it.1.2.1 it.1.2.2.1 it.1.2.2.2)[j]? = some u → W.cell? (a.add (i * 11 + j)) = some u) ∧ RecR W (fun k => k < W.heap.size) it.2 it.1.1 it.1.2.1 it.1.2.2.1 it.1.2.2.2 ∧ RcWf it.2 ∧ (Rows.uptoBulk (D i) ≤ 1048576 → RcSm it.2) := by
      intro i hi'
      obtain ⟨cs', h1, h2⟩ := hi i hi'
      rw [show Try.prog.cellsOf 30 = 11 by kernel_rfl] at h1
      obtain ⟨_, hlen, hcell⟩ := World.cells?_some h1
      obtain ⟨x, qa, qb, qc, qd, rfl, hr, hw, hs⟩ := openRecT h2
      have key : ∀ j u, (recL x qa qb qc qd)[j]? = some u → W.cell? (a.add (i * 11 + j)) = some u := fun j u hu => by
        have hj : j < 11 := (List.getElem?_eq_some_iff.1 hu).1
        have e := hcell j hj
        rw [Go.Deep.add_add] at e
        rw [e]
        have h3 : (recC x qa qb qc qd).toList[j]? = some u := hu
        rw [← h3]
      refine ⟨((qa, qb, qc, qd), x), ?_, key, hr, hw, hs⟩
      have := World.block_lt_of_cell? W _ (key 0 _ rfl)
      rwa [block_of_add] at this
    obtain ⟨f, hf'⟩ := choose_lt (α := Q4 × RcS) (p := fun i it => a.block < W.heap.size ∧ (∀ j u, (recL it.2 it.1.1 it.1.2.1 it.1.2.2.1 it.1.2.2.2)[j]? = some u → W.cell? (a.add (i * 11 + j)) = some u) ∧ RecR W (fun k => k < W.heap.size) it.2 it.1.1 it.1.2.1 it.1.2.2.1 it.1.2.2.2 ∧ RcWf it.2 ∧ (Rows.uptoBulk (D i) ≤ 1048576 → RcSm it.2)) each
    refine ⟨(List.range len).map fun i => (f i).2, rdL_mk hl hm f fun i hi => ⟨(hf' i (by omega)).1, (hf' i (by omega)).2.1, (hf' i (by omega)).2.2.1⟩, fun x hx => ?_, fun hd x hx => ?_⟩
    · obtain ⟨i, hi, rfl⟩ := List.mem_map.1 hx
      exact (hf' i (by have := List.mem_range.1 hi; omega)).2.2.2.1
    · obtain ⟨i, hi, rfl⟩ := List.mem_map.1 hx
      refine (hf' i (by have := List.mem_range.1 hi; omega)).2.2.2.2 ?_
      rw [hx0.1] at hd
      simp only [Rows.uptoBulk] at hd
      have := bulk_mem D (List.range len) i hi
      omega
end
end Go.Proofs.Ytpbgjldjipgfeaa
