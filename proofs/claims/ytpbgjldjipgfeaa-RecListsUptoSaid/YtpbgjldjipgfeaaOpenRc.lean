/- A record that comes in: what it reads as. -/
import Derived.Test.YtpbgjldjipgfeaaRecSM
import Derived.Test.YtpbgjldjipgfeaaOpenI
import Derived.Deep.SlicePairs
namespace Go.Proofs.Ytpbgjldjipgfeaa
open Go.ChangeShapes Go.WideShapes Go.ChangeAt Go.RowKit Go.Deep
set_option linter.unusedVariables false
theorem triW_len (l : List WrS) : l.length ≤ triW l := by
  induction l with
  | nil => exact Nat.le_refl _
  | cons a l ih => simp only [triW, List.map_cons, List.sum_cons, List.length_cons] at ih ⊢; omega
section
variable {H : Type} {enc : TypeId × Value → H} {W : World}
theorem rdW_mk {w : World} {F : Nat → Prop} {a : Addr} {len cap : Nat} (hl : len ≤ cap) (hm : cap ≤ maxLen) (f : Nat → (Value × Value) × WrS)
    (h : ∀ i, i < len → F a.block ∧ (w.cell? (a.add (i * 3)) = some (f i).1.1 ∧ w.cell? (a.add (i * 3 + 1)) = some (f i).1.2 ∧ w.cell? (a.add (i * 3 + 2)) = some (.bool (f i).2.f)) ∧ RdB w F (f i).1.1 (f i).2.a ∧ RdB w F (f i).1.2 (f i).2.b) :
    RdW w F (.slice (some a) len cap) ((List.range len).map fun i => (f i).2) := by
  have e2 : ((List.range len).map fun i => (f i).2).length = len := by simp
  refine ⟨(List.range len).map fun i => (f i).1, by simp, ?_, ?_⟩
  · have ez : (((List.range len).map fun i => (f i).1).zip ((List.range len).map fun i => (f i).2)) = (List.range len).map f := by
      rw [List.zip_map']
    rw [e2, ez]
    have el : ((List.range len).map f).length = len := by simp
    have hfl : ((List.map f (List.range len)).flatMap fun p => [p.1.1, p.1.2, Value.bool p.2.f]).length = len * 3 := by
      have := flW_len ((List.range len).map fun i => (f i).1) ((List.range len).map fun i => (f i).2) (by simp)
      rw [flW, ez, e2] at this
      exact this
    refine ⟨hfl, some a, cap, rfl, hl, hm, fun hn => ⟨a, rfl, (h 0 hn).1, fun j u hu => ?_⟩⟩
    have hj : j < len * 3 := by rw [← hfl]; exact (List.getElem?_eq_some_iff.1 hu).1
    have hk : j / 3 < len := by omega
    have hj3 : j = j / 3 * 3 + j % 3 := by omega
    have hg := flat3_get (fun p : (Value × Value) × WrS => p.1.1) (fun p => p.1.2) (fun p => Value.bool p.2.f) ((List.range len).map f) (j / 3) (j % 3) (by rw [el]; exact hk) (by omega)
    rw [← hj3, hu] at hg
    have he : ((List.range len).map f)[j / 3]'(by rw [el]; exact hk) = f (j / 3) := by simp
    rw [he] at hg
    obtain ⟨_, ⟨h0, h1, h2⟩, _⟩ := h (j / 3) hk
    rw [hj3]
    have hm3 : j % 3 = 0 ∨ j % 3 = 1 ∨ j % 3 = 2 := by omega
    rcases hm3 with e | e | e <;> rw [e] at hg ⊢ <;> simp at hg <;> subst hg
    · exact h0
    · exact h1
    · exact h2
  · intro i x y hx hy
    simp only [List.getElem?_map, Option.map_eq_some_iff] at hx hy
    obtain ⟨k, hk, rfl⟩ := hx
    obtain ⟨k', hk', rfl⟩ := hy
    have e1 : k = i ∧ i < len := by
      have := List.getElem?_eq_some_iff.1 hk
      obtain ⟨h1, h2⟩ := this
      simp at h1 h2
      exact ⟨h2.symm, h1⟩
    have e3 : k' = i := by
      have := List.getElem?_eq_some_iff.1 hk'
      obtain ⟨h1, h2⟩ := this
      simp at h2
      exact h2.symm
    rw [e1.1, e3]
    exact ⟨(h i e1.2).2.2.1, (h i e1.2).2.2.2⟩

set_option maxRecDepth 100000 in
theorem openWs {fuel : Nat} {u : Value} {y : DataW H × List MemPlace} (hf : DataW.trod enc Try.prog W 0 (fun _ => true) true fuel 25 [u] = some y) :
    ∃ l : List WrS, RdW W (fun k => k < W.heap.size) u l ∧ triW l + 1 ≤ Rows.uptoBulk y.1 := by
  rcases open_slice Try.underlying25 hf with ⟨hcs, hx⟩ | ⟨a, len, cap, m, n, D, Pl, hcs, hb, hl, hm, hmm, hx, hi⟩
  · simp only [List.cons.injEq, and_true] at hcs
    rw [hcs, hx]
    exact ⟨[], RdW.nil_ _ _, by simp [Rows.uptoBulk, triW]⟩
  · simp only [List.cons.injEq, and_true] at hcs
    rw [hcs, hx]
    have hlm : len ≤ m := by rw [hmm]; split <;> omega
    have each : ∀ i, i < m → ∃ it : (Value × Value) × WrS, (a.block < W.heap.size ∧ (W.cell? (a.add (i * 3)) = some it.1.1 ∧ W.cell? (a.add (i * 3 + 1)) = some it.1.2 ∧ W.cell? (a.add (i * 3 + 2)) = some (.bool it.2.f)) ∧ RdB W (fun k => k < W.heap.size) it.1.1 it.2.a ∧ RdB W (fun k => k < W.heap.size) it.1.2 it.2.b) ∧ it.2.a.length + it.2.b.length + 1 ≤ Rows.uptoBulk (D i) := by
      intro i hi'
      obtain ⟨cs', h1, h2⟩ := hi i hi'
      rw [show Try.prog.cellsOf 49 = 3 by kernel_rfl] at h1
      obtain ⟨_, hlen, hcell⟩ := World.cells?_some h1
      obtain ⟨xs, k, hk, hxy, _, hxl, hfs⟩ := DataW.trod_struct Try.underlying49 h2
      match xs, hxl, cs', hlen with
      | [y0, y1, y2], _, [u0, u1, u2], _ =>
        have g0 := hfs 0 _ rfl
        have g1 := hfs 1 _ rfl
        have g2 := hfs 2 _ rfl
        have c2 : Try.prog.cellsOf 28 = 1 := by kernel_rfl
        have c3 : Try.prog.cellsOf 4 = 1 := by kernel_rfl
        simp [c2, c3] at g0 g1 g2
        have e0 := hcell 0 (by omega)
        have e1 := hcell 1 (by omega)
        have e2 := hcell 2 (by omega)
        rw [Go.Deep.add_add] at e0 e1 e2
        simp at e0 e1 e2
        obtain ⟨b3, q3, _⟩ := DataW.trod_bool Try.underlying4 g2
        obtain ⟨t0, ht0, hts0⟩ := open_b g0
        obtain ⟨t1, ht1, hts1⟩ := open_b g1
        simp only [List.cons.injEq, and_true] at q3
        simp only [Prod.mk.injEq] at hxy
        refine ⟨((u0, u1), ⟨t0, t1, b3⟩), ⟨?_, ⟨e0, e1, by rw [e2, q3]⟩, ht0, ht1⟩, ?_⟩
        · have := World.block_lt_of_cell? W _ e0
          rwa [block_of_add] at this
        · rw [hxy.1]
          have h1 := hts0.1
          have h2 := hts1.1
          simp only [List.map_cons, List.map_nil, Rows.uptoBulk, Rows.uptoBulkAll]
          show t0.length + t1.length + 1 ≤ _
          omega
    obtain ⟨f, hf'⟩ := choose_lt (α := (Value × Value) × WrS) (p := fun i it => (a.block < W.heap.size ∧ (W.cell? (a.add (i * 3)) = some it.1.1 ∧ W.cell? (a.add (i * 3 + 1)) = some it.1.2 ∧ W.cell? (a.add (i * 3 + 2)) = some (.bool it.2.f)) ∧ RdB W (fun k => k < W.heap.size) it.1.1 it.2.a ∧ RdB W (fun k => k < W.heap.size) it.1.2 it.2.b) ∧ it.2.a.length + it.2.b.length + 1 ≤ Rows.uptoBulk (D i)) each
    refine ⟨(List.range len).map fun i => (f i).2, rdW_mk hl hm f fun i hi => (hf' i (by omega)).1, ?_⟩
    simp only [Rows.uptoBulk]
    have h1 := Bulk.sum_le (fun i => (f i).2.a.length + (f i).2.b.length + 1) D (List.range len) fun i hi => (hf' i (by have := List.mem_range.1 hi; omega)).2
    have h2 : triW ((List.range len).map fun i => (f i).2) = ((List.range len).map fun i => (f i).2.a.length + (f i).2.b.length + 1).sum := by
      rw [triW, List.map_map]; rfl
    rw [h2]
    omega

set_option maxRecDepth 100000 in
theorem openRs {fuel : Nat} {u : Value} {y : DataW H × List MemPlace} (hf : DataW.trod enc Try.prog W 0 (fun _ => true) true fuel 26 [u] = some y) :
    ∃ l : List WrS, RdW W (fun k => k < W.heap.size) u l ∧ triW l + 1 ≤ Rows.uptoBulk y.1 := by
  rcases open_slice Try.underlying26 hf with ⟨hcs, hx⟩ | ⟨a, len, cap, m, n, D, Pl, hcs, hb, hl, hm, hmm, hx, hi⟩
  · simp only [List.cons.injEq, and_true] at hcs
    rw [hcs, hx]
    exact ⟨[], RdW.nil_ _ _, by simp [Rows.uptoBulk, triW]⟩
  · simp only [List.cons.injEq, and_true] at hcs
    rw [hcs, hx]
    have hlm : len ≤ m := by rw [hmm]; split <;> omega
    have each : ∀ i, i < m → ∃ it : (Value × Value) × WrS, (a.block < W.heap.size ∧ (W.cell? (a.add (i * 3)) = some it.1.1 ∧ W.cell? (a.add (i * 3 + 1)) = some it.1.2 ∧ W.cell? (a.add (i * 3 + 2)) = some (.bool it.2.f)) ∧ RdB W (fun k => k < W.heap.size) it.1.1 it.2.a ∧ RdB W (fun k => k < W.heap.size) it.1.2 it.2.b) ∧ it.2.a.length + it.2.b.length + 1 ≤ Rows.uptoBulk (D i) := by
      intro i hi'
      obtain ⟨cs', h1, h2⟩ := hi i hi'
      rw [show Try.prog.cellsOf 63 = 3 by kernel_rfl] at h1
      obtain ⟨_, hlen, hcell⟩ := World.cells?_some h1
      obtain ⟨xs, k, hk, hxy, _, hxl, hfs⟩ := DataW.trod_struct Try.underlying63 h2
      match xs, hxl, cs', hlen with
      | [y0, y1, y2], _, [u0, u1, u2], _ =>
        have g0 := hfs 0 _ rfl
        have g1 := hfs 1 _ rfl
        have g2 := hfs 2 _ rfl
        have c2 : Try.prog.cellsOf 28 = 1 := by kernel_rfl
        have c3 : Try.prog.cellsOf 4 = 1 := by kernel_rfl
        simp [c2, c3] at g0 g1 g2
        have e0 := hcell 0 (by omega)
        have e1 := hcell 1 (by omega)
        have e2 := hcell 2 (by omega)
        rw [Go.Deep.add_add] at e0 e1 e2
        simp at e0 e1 e2
        obtain ⟨b3, q3, _⟩ := DataW.trod_bool Try.underlying4 g2
        obtain ⟨t0, ht0, hts0⟩ := open_b g0
        obtain ⟨t1, ht1, hts1⟩ := open_b g1
        simp only [List.cons.injEq, and_true] at q3
        simp only [Prod.mk.injEq] at hxy
        refine ⟨((u0, u1), ⟨t0, t1, b3⟩), ⟨?_, ⟨e0, e1, by rw [e2, q3]⟩, ht0, ht1⟩, ?_⟩
        · have := World.block_lt_of_cell? W _ e0
          rwa [block_of_add] at this
        · rw [hxy.1]
          have h1 := hts0.1
          have h2 := hts1.1
          simp only [List.map_cons, List.map_nil, Rows.uptoBulk, Rows.uptoBulkAll]
          show t0.length + t1.length + 1 ≤ _
          omega
    obtain ⟨f, hf'⟩ := choose_lt (α := (Value × Value) × WrS) (p := fun i it => (a.block < W.heap.size ∧ (W.cell? (a.add (i * 3)) = some it.1.1 ∧ W.cell? (a.add (i * 3 + 1)) = some it.1.2 ∧ W.cell? (a.add (i * 3 + 2)) = some (.bool it.2.f)) ∧ RdB W (fun k => k < W.heap.size) it.1.1 it.2.a ∧ RdB W (fun k => k < W.heap.size) it.1.2 it.2.b) ∧ it.2.a.length + it.2.b.length + 1 ≤ Rows.uptoBulk (D i)) each
    refine ⟨(List.range len).map fun i => (f i).2, rdW_mk hl hm f fun i hi => (hf' i (by omega)).1, ?_⟩
    simp only [Rows.uptoBulk]
    have h1 := Bulk.sum_le (fun i => (f i).2.a.length + (f i).2.b.length + 1) D (List.range len) fun i hi => (hf' i (by have := List.mem_range.1 hi; omega)).2
    have h2 : triW ((List.range len).map fun i => (f i).2) = ((List.range len).map fun i => (f i).2.a.length + (f i).2.b.length + 1).sum := by
      rw [triW, List.map_map]; rfl
    rw [h2]
    omega

set_option maxRecDepth 100000 in
theorem openIs {fuel : Nat} {u : Value} {y : DataW H × List MemPlace} (hf : DataW.trod enc Try.prog W 0 (fun _ => true) true fuel 27 [u] = some y) :
    ∃ l : List Int, RdI W (fun k => k < W.heap.size) u l ∧ l.length + 1 ≤ Rows.uptoBulk y.1 ∧ ∀ s ∈ l, -9223372036854775808 ≤ s ∧ s ≤ 9223372036854775807 := by
  rcases open_ints Try.underlying27 Try.underlying3 (by kernel_rfl) hf with ⟨hcs, hx⟩ | ⟨a, l, c, zs, hcs, _, hl, hm, hz, hx, hcell, hwz⟩
  · simp only [List.cons.injEq, and_true] at hcs
    rw [hcs, hx]
    exact ⟨[], RdV.nil_ _ _ _, by simp [Rows.uptoBulk], fun s hs => by cases hs⟩
  · simp only [List.cons.injEq, and_true] at hcs
    rw [hcs, hx]
    have hz' : l ≤ zs.length := by simp at hz; omega
    have e : (zs.take l).length = l := by simp; omega
    refine ⟨zs.take l, RdV.mono (F := fun k => True ∧ k < W.heap.size) (RdV.lt ?_ (by omega)) fun k hk => hk.2, ?_, fun s hs => ?_⟩
    · unfold RdV
      rw [e]
      refine ⟨by rw [List.length_map, e]; omega, some a, c, rfl, hl, hm, fun _ => ⟨a, rfl, trivial, fun j u hu => ?_⟩⟩
      rw [List.getElem?_map] at hu
      obtain ⟨n, hn, rfl⟩ := Option.map_eq_some_iff.1 hu
      rw [List.getElem?_take] at hn
      split at hn
      · have hj : j < zs.length := by omega
        rw [hcell j hj, List.getD_eq_getElem?_getD, hn]
        rfl
      · cases hn
    · simp only [Rows.uptoBulk]
      have h1 := Bulk.length_le (lits (H := H) .i64 (zs.take l))
      simp only [lits, List.length_map, List.length_take] at h1 ⊢
      omega
    · have := hwz s (List.mem_of_mem_take hs)
      simpa [Lit.wf, IntKind.min, IntKind.max, IntKind.signed, IntKind.bits] using this

set_option maxRecDepth 100000 in
set_option maxHeartbeats 4000000 in
theorem openRec {base : Nat} {v : Value} {d : DataW H} {p : List MemPlace} (hv : Value.okWide Try.prog W .any base 30 v) (h : DataW.Trod enc Try.prog W 0 (fun _ => true) true 30 v d p) :
    ∃ (x : RcS) (a b c e : Value), v = .agg (recC x a b c e) ∧ RecR W (fun k => k < W.heap.size) x a b c e ∧ RcWf x ∧ (Rows.uptoBulk d ≤ 1048576 → RcSm x) := by
  obtain ⟨cs, rfl, hsz⟩ := okWide_struct Try.underlying30 hv
  obtain ⟨fuel, hf⟩ := h
  have hc11 : Try.prog.cellsOf 30 = 11 := by kernel_rfl
  obtain ⟨xs, k, rfl, hxy, hlen, hxl, hfs⟩ := DataW.trod_struct Try.underlying30 hf
  rw [hc11] at hsz hlen
  obtain ⟨l⟩ := cs
  simp only [Value.cells] at hlen hfs
  match xs, hxl, l, hlen with
  | [y0, y1, y2, y3, y4, y5, y6, y7, y8], _, [u0, u1, u2, u3, u4, u5, u6, u7, u8, u9, u10], _ =>
    have g0 := hfs 0 _ rfl
    have g1 := hfs 1 _ rfl
    have g2 := hfs 2 _ rfl
    have g3 := hfs 3 _ rfl
    have g4 := hfs 4 _ rfl
    have g5 := hfs 5 _ rfl
    have g6 := hfs 6 _ rfl
    have g7 := hfs 7 _ rfl
    have g8 := hfs 8 _ rfl
    have c0 : Try.prog.cellsOf 3 = 1 := by kernel_rfl
    have c1 : Try.prog.cellsOf 24 = 3 := by kernel_rfl
    have c2 : Try.prog.cellsOf 25 = 1 := by kernel_rfl
    have c3 : Try.prog.cellsOf 26 = 1 := by kernel_rfl
    have c4 : Try.prog.cellsOf 4 = 1 := by kernel_rfl
    have c5 : Try.prog.cellsOf 27 = 1 := by kernel_rfl
    have c6 : Try.prog.cellsOf 28 = 1 := by kernel_rfl
    have c7 : Try.prog.cellsOf 22 = 1 := by kernel_rfl
    have c8 : Try.prog.cellsOf 9 = 1 := by kernel_rfl
    simp [c0, c1, c2, c3, c4, c5, c6, c7, c8] at g0 g1 g2 g3 g4 g5 g6 g7 g8
    obtain ⟨x0, q0, z0, w0⟩ := DataW.trod_int Try.underlying3 g0
    obtain ⟨xs1, k1, _, hxy1, _, hxl1, hfs1⟩ := DataW.trod_struct Try.underlying24 g1
    match xs1, hxl1 with
    | [t0, t1, t2], _ =>
      have f0 := hfs1 0 _ rfl
      have f1 := hfs1 1 _ rfl
      have f2 := hfs1 2 _ rfl
      simp [c7] at f0 f1 f2
      obtain ⟨b0, r0, _, v0⟩ := DataW.trod_int Try.underlying22 f0
      obtain ⟨b1, r1, _, v1⟩ := DataW.trod_int Try.underlying22 f1
      obtain ⟨b2, r2, _, v2⟩ := DataW.trod_int Try.underlying22 f2
      obtain ⟨lw, hw, sw⟩ := openWs g2
      obtain ⟨lr, hr, sr⟩ := openRs g3
      obtain ⟨b3, q3, _⟩ := DataW.trod_bool Try.underlying4 g4
      obtain ⟨li, hi, si, wi⟩ := openIs g5
      obtain ⟨lb, hb, sb⟩ := open_b g6
      obtain ⟨b7, r7, _, v7⟩ := DataW.trod_int Try.underlying22 g7
      obtain ⟨nm, q8, z8, _⟩ := DataW.trod_string Try.underlying9 g8
      simp only [List.cons.injEq, and_true] at q0 r0 r1 r2 q3 r7 q8
      have hw0 : 0 ≤ b0 ∧ b0 ≤ 18446744073709551615 := by simpa [Lit.wf, IntKind.min, IntKind.max, IntKind.signed, IntKind.bits] using v0
      have hw1 : 0 ≤ b1 ∧ b1 ≤ 18446744073709551615 := by simpa [Lit.wf, IntKind.min, IntKind.max, IntKind.signed, IntKind.bits] using v1
      have hw2 : 0 ≤ b2 ∧ b2 ≤ 18446744073709551615 := by simpa [Lit.wf, IntKind.min, IntKind.max, IntKind.signed, IntKind.bits] using v2
      have hw7 : 0 ≤ b7 ∧ b7 ≤ 18446744073709551615 := by simpa [Lit.wf, IntKind.min, IntKind.max, IntKind.signed, IntKind.bits] using v7
      simp only [Prod.mk.injEq] at hxy
      have i0 : b0 = ((b0.toNat : Nat) : Int) := by omega
      have i1 : b1 = ((b1.toNat : Nat) : Int) := by omega
      have i2 : b2 = ((b2.toNat : Nat) : Int) := by omega
      have i7 : b7 = ((b7.toNat : Nat) : Int) := by omega
      have m0 : U64 b0.toNat := by show b0.toNat < _; omega
      have m1 : U64 b1.toNat := by show b1.toNat < _; omega
      have m2 : U64 b2.toNat := by show b2.toNat < _; omega
      have m7 : U64 b7.toNat := by show b7.toNat < _; omega
      refine ⟨⟨x0, b0.toNat, b1.toNat, b2.toNat, lw, lr, b3, li, lb, b7.toNat, nm⟩, u4, u5, u7, u8, ?_, ⟨hw, hr, hi, hb, m0, m1, m2, m7, w0⟩, ⟨⟨m0, m1, m2, m7⟩, wi⟩, fun hd => ?_⟩
      · rw [q0, r0, r1, r2, q3, r7, q8, i0, i1, i2, i7]
        rfl
      · rw [hxy.1] at hd
        simp only [List.map_cons, List.map_nil, Rows.uptoBulk, Rows.uptoBulkAll] at hd
        have hs := sb.1
        have hn : nm.size + 1 ≤ Rows.uptoBulk y8.1 := by
          rw [z8]
          simp only [Rows.uptoBulk]
          show nm.data.size + 1 ≤ nm.data.toList.length + 1
          rw [Array.length_toList]
          exact Nat.le_refl _
        have lw' : lw.length ≤ triW lw := triW_len lw
        have lr' : lr.length ≤ triW lr := triW_len lr
        exact ⟨by show triW lw ≤ _; omega, by show triW lr ≤ _; omega, by show lw.length ≤ _; omega, by show lr.length ≤ _; omega, by show li.length ≤ _; omega, by show lb.length ≤ _; omega, by show nm.size ≤ _; omega⟩
end
end Go.Proofs.Ytpbgjldjipgfeaa
