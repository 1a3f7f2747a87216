/- A Sent that comes in: what it reads as. -/
import Derived.Test.YtncchbcoldgpbaaSkM
import Derived.Test.YtncchbcoldgpbaaOpM
import Derived.Deep.SlicePairs
namespace Go.Proofs.Ytncchbcoldgpbaa
open Go.ChangeShapes Go.WideShapes Go.ChangeAt Go.RowKit Go.Deep
set_option linter.unusedVariables false
set_option linter.unusedSimpArgs false
def opZ (o : OpS) : Nat := o.key.length + o.val.length + 1
def opsZ (l : List OpS) : Nat := (l.map opZ).sum
def wrZ (o : WrO) : Nat := o.a.length + o.b.length + 1
def wrsZ (l : List WrO) : Nat := (l.map wrZ).sum
def pairZ (o : PairL) : Nat := o.1.length + o.2.length + 1
def rowZ (r : List PairL) : Nat := (r.map pairZ).sum
def rowsZ (l : List (List PairL)) : Nat := (l.map fun r => rowZ r + 1).sum
theorem sumZ_mem {α : Type} (f : α → Nat) : ∀ (l : List α) (x : α), x ∈ l → f x ≤ (l.map f).sum
  | a :: l, x, h => by
    rw [List.map_cons, List.sum_cons]
    rcases List.mem_cons.1 h with rfl | h
    · omega
    · have := sumZ_mem f l x h; omega
theorem sumZ_len {α : Type} (f : α → Nat) (hf : ∀ x, 1 ≤ f x) : ∀ (l : List α), l.length ≤ (l.map f).sum
  | [] => Nat.le_refl _
  | a :: l => by
    have := sumZ_len f hf l
    have := hf a
    rw [List.map_cons, List.sum_cons, List.length_cons]; omega
theorem sumZ_take {α : Type} (f : α → Nat) : ∀ (l : List α) (k : Nat), ((l.take k).map f).sum ≤ (l.map f).sum
  | [], k => by simp
  | a :: l, 0 => by simp
  | a :: l, k + 1 => by
    have := sumZ_take f l k
    simp only [List.take_succ_cons, List.map_cons, List.sum_cons]; omega
theorem fm_get {α : Type} (cs : Nat → List α) (sz : Nat) (hsz : 0 < sz) (hcl : ∀ i, (cs i).length = sz) : ∀ (n j : Nat), j < n * sz → ((List.range n).flatMap cs)[j]? = (cs (j / sz))[j % sz]?
  | 0, j, h => by omega
  | n + 1, j, h => by
    rw [List.range_succ, List.flatMap_append, List.getElem?_append]
    have hl : ((List.range n).flatMap cs).length = n * sz := by
      clear h
      induction n with
      | zero => simp
      | succ n ih => rw [List.range_succ, List.flatMap_append, List.length_append, ih]; simp [hcl, Nat.succ_mul]
    rw [hl]
    split
    · exact fm_get cs sz hsz hcl n j ‹_›
    · rename_i hj
      have hj2 : n * sz ≤ j := by omega
      have h3 : j - n * sz < sz := by rw [Nat.succ_mul] at h; omega
      have h1 : j / sz = n := by
        rw [show j = (j - n * sz) + n * sz by omega, Nat.add_mul_div_right _ _ hsz, Nat.div_eq_of_lt h3]; omega
      have h2 : j % sz = j - n * sz := by
        conv => lhs; rw [show j = (j - n * sz) + n * sz by omega]
        rw [Nat.add_mul_mod_self_right, Nat.mod_eq_of_lt h3]
      rw [h1, h2]
      simp
theorem rdV_mk {w : World} {F : Nat → Prop} {a : Addr} {len cap sz : Nat} (hsz : 0 < sz) (hl : len ≤ cap) (hm : cap ≤ maxLen) (cs : Nat → List Value) (hcl : ∀ i, (cs i).length = sz)
    (h : ∀ i, i < len → F a.block ∧ ∀ j, j < sz → w.cell? (a.add (i * sz + j)) = (cs i)[j]?) : RdV w F sz (.slice (some a) len cap) len ((List.range len).flatMap cs) := by
  have hlen : ((List.range len).flatMap cs).length = len * sz := by
    clear h hl
    induction len with
    | zero => simp
    | succ n ih => rw [List.range_succ, List.flatMap_append, List.length_append, ih]; simp [hcl, Nat.succ_mul]
  refine ⟨hlen, some a, cap, rfl, hl, hm, fun hn => ⟨a, rfl, (h 0 hn).1, fun j u hu => ?_⟩⟩
  have hj : j < len * sz := by rw [← hlen]; exact (List.getElem?_eq_some_iff.1 hu).1
  have hk : j / sz < len := (Nat.div_lt_iff_lt_mul hsz).2 hj
  rw [fm_get cs sz hsz hcl len j hj] at hu
  rw [← hu, ← (h _ hk).2 _ (Nat.mod_lt _ hsz)]
  rw [Nat.mul_comm, Nat.div_add_mod]
theorem range_get {α : Type} {f : Nat → α} {n i : Nat} {x : α} (h : ((List.range n).map f)[i]? = some x) : i < n ∧ x = f i := by
  rw [List.getElem?_map] at h
  obtain ⟨k, hk, rfl⟩ := Option.map_eq_some_iff.1 h
  obtain ⟨h1, h2⟩ := List.getElem?_eq_some_iff.1 hk
  simp at h1 h2
  exact ⟨h1, by rw [h2]⟩
theorem choose_ {α : Type} [Inhabited α] {n : Nat} {p : Nat → α → Prop} (h : ∀ i, i < n → ∃ x, p i x) : ∃ f : Nat → α, ∀ i, i < n → p i (f i) := by
  classical
  exact ⟨fun i => if h' : ∃ x, p i x then h'.choose else default, fun i hi => by
    have h' := h i hi
    simp only [dif_pos h']
    exact h'.choose_spec⟩
instance : Inhabited OpS := ⟨⟨0, [], [], 0⟩⟩
instance : Inhabited WrO := ⟨⟨[], [], false⟩⟩
section
variable {H : Type} {enc : TypeId × Value → H} {W : World}

set_option maxRecDepth 100000 in
theorem openOps {fuel : Nat} {u : Value} {y : DataW H × List MemPlace} (hf : DataW.trod enc Try.prog W 0 (fun _ => true) true fuel 25 [u] = some y) :
    ∃ l : List OpS, RdOs W (fun k => k < W.heap.size) u l ∧ opsZ l + 1 ≤ Rows.uptoBulk y.1 ∧ (∀ o ∈ l, (I64 o.kind ∧ I64 o.most)) := by
  rcases open_slice Try.underlying25 hf with ⟨hcs, hx⟩ | ⟨a, len, cap, m, n, D, Pl, hcs, hb, hl, hm, hmm, hx, hi⟩
  · simp only [List.cons.injEq, and_true] at hcs
    rw [hcs, hx]
    exact ⟨[], ⟨[], rfl, RdV.nil_ _ _ _, fun i x y h => by simp at h⟩, by simp [Rows.uptoBulk, opsZ], fun o ho => by cases ho⟩
  · simp only [List.cons.injEq, and_true] at hcs
    rw [hcs, hx]
    have hlm : len ≤ m := by rw [hmm]; split <;> omega
    have each : ∀ i, i < m → ∃ it : (Value × Value) × OpS, (a.block < W.heap.size ∧ (W.cell? (a.add (i * 4 + 0)) = some (.int .i64 it.2.kind) ∧ W.cell? (a.add (i * 4 + 1)) = some (it.1.1) ∧ W.cell? (a.add (i * 4 + 2)) = some (it.1.2) ∧ W.cell? (a.add (i * 4 + 3)) = some (.int .i64 it.2.most))) ∧ (RdB W (fun k => k < W.heap.size) it.1.1 it.2.key ∧ RdB W (fun k => k < W.heap.size) it.1.2 it.2.val) ∧ (I64 it.2.kind ∧ I64 it.2.most) ∧ opZ it.2 ≤ Rows.uptoBulk (D i) := by
      intro i hi'
      obtain ⟨cs', h1, h2⟩ := hi i hi'
      rw [show Try.prog.cellsOf 85 = 4 by kernel_rfl] at h1
      obtain ⟨_, hlen, hcell⟩ := World.cells?_some h1
      obtain ⟨xs, k, hk, hxy, _, hxl, hfs⟩ := DataW.trod_struct Try.underlying85 h2
      match xs, hxl, cs', hlen with
      | [y0, y1, y2, y3], _, [u0, u1, u2, u3], _ =>
        have g0 := hfs 0 _ rfl
        have g1 := hfs 1 _ rfl
        have g2 := hfs 2 _ rfl
        have g3 := hfs 3 _ rfl
        have c1 : Try.prog.cellsOf 3 = 1 := by kernel_rfl
        have c2 : Try.prog.cellsOf 26 = 1 := by kernel_rfl
        have c3 : Try.prog.cellsOf 4 = 1 := by kernel_rfl
        simp [c1, c2, c3] at g0 g1 g2 g3
        have e0 := hcell 0 (by omega)
        have e1 := hcell 1 (by omega)
        have e2 := hcell 2 (by omega)
        have e3 := hcell 3 (by omega)
        rw [Go.Deep.add_add] at e0 e1 e2 e3
        simp at e0 e1 e2 e3
        obtain ⟨x0, q0, z0, w0⟩ := DataW.trod_int Try.underlying3 g0
        simp only [List.cons.injEq, and_true] at q0
        obtain ⟨t1, ht1, hts1⟩ := open_b g1
        obtain ⟨t2, ht2, hts2⟩ := open_b g2
        obtain ⟨x3, q3, z3, w3⟩ := DataW.trod_int Try.underlying3 g3
        simp only [List.cons.injEq, and_true] at q3
        have v0 : I64 x0 := by simpa [I64, Lit.wf, IntKind.min, IntKind.max, IntKind.signed, IntKind.bits] using w0
        have v3 : I64 x3 := by simpa [I64, Lit.wf, IntKind.min, IntKind.max, IntKind.signed, IntKind.bits] using w3
        simp only [Prod.mk.injEq] at hxy
        refine ⟨((u1, u2), ⟨x0, t1, t2, x3⟩), ⟨?_, by rw [show i * 4 + 0 = i * 4 + 0 from rfl]; simpa [q0] using e0, by simpa using e1, by simpa using e2, by rw [show i * 4 + 3 = i * 4 + 3 from rfl]; simpa [q3] using e3⟩, ⟨ht1, ht2⟩, ⟨v0, v3⟩, ?_⟩
        · have := World.block_lt_of_cell? W _ e0
          rwa [block_of_add] at this
        · rw [hxy.1]
          have h1 := hts1.1
          have h2 := hts2.1
          simp only [List.map_cons, List.map_nil, Rows.uptoBulk, Rows.uptoBulkAll]
          show t1.length + t2.length + 1 ≤ _
          omega
    obtain ⟨f, hf'⟩ := choose_ each
    refine ⟨(List.range len).map fun i => (f i).2, ⟨(List.range len).map fun i => (f i).1, by simp, ?_, ?_⟩, ?_, ?_⟩
    · have hrv := rdV_mk (w := W) (F := fun k => k < W.heap.size) (sz := 4) (by omega) hl hm (fun i => [.int .i64 (f i).2.kind, (f i).1.1, (f i).1.2, .int .i64 (f i).2.most]) (fun i => rfl) (fun i hi => ⟨(hf' i (by omega)).1.1, fun j hj => by
        obtain ⟨k0, k1, k2, k3⟩ := (hf' i (by omega)).1.2
        have hjj : j = 0 ∨ j = 1 ∨ j = 2 ∨ j = 3 := by omega
        rcases hjj with rfl | rfl | rfl | rfl
        · exact k0
        · exact k1
        · exact k2
        · exact k3⟩)
      simp only [flO, List.zip_map', List.flatMap_map, List.length_map, List.length_range]
      exact hrv
    · intro i x y hx hy
      obtain ⟨h1, rfl⟩ := range_get hx
      obtain ⟨_, rfl⟩ := range_get hy
      exact (hf' i (by omega)).2.1
    · simp only [Rows.uptoBulk]
      have h1 := Bulk.sum_le (fun i => opZ (f i).2) D (List.range len) fun i hi => (hf' i (by have := List.mem_range.1 hi; omega)).2.2.2
      have h2 : opsZ ((List.range len).map fun i => (f i).2) = ((List.range len).map fun i => opZ (f i).2).sum := by
        rw [opsZ, List.map_map]; rfl
      rw [h2]
      omega
    · intro o ho
      obtain ⟨i, hi, rfl⟩ := List.mem_map.1 ho
      exact (hf' i (by have := List.mem_range.1 hi; omega)).2.2.1

set_option maxRecDepth 100000 in
theorem openWrs {fuel : Nat} {u : Value} {y : DataW H × List MemPlace} (hf : DataW.trod enc Try.prog W 0 (fun _ => true) true fuel 30 [u] = some y) :
    ∃ l : List WrO, RdWr W (fun k => k < W.heap.size) u l ∧ wrsZ l + 1 ≤ Rows.uptoBulk y.1 ∧ (∀ o ∈ l, True) := by
  rcases open_slice Try.underlying30 hf with ⟨hcs, hx⟩ | ⟨a, len, cap, m, n, D, Pl, hcs, hb, hl, hm, hmm, hx, hi⟩
  · simp only [List.cons.injEq, and_true] at hcs
    rw [hcs, hx]
    exact ⟨[], ⟨[], rfl, RdV.nil_ _ _ _, fun i x y h => by simp at h⟩, by simp [Rows.uptoBulk, wrsZ], fun o ho => by cases ho⟩
  · simp only [List.cons.injEq, and_true] at hcs
    rw [hcs, hx]
    have hlm : len ≤ m := by rw [hmm]; split <;> omega
    have each : ∀ i, i < m → ∃ it : (Value × Value) × WrO, (a.block < W.heap.size ∧ (W.cell? (a.add (i * 3 + 0)) = some (it.1.1) ∧ W.cell? (a.add (i * 3 + 1)) = some (it.1.2) ∧ W.cell? (a.add (i * 3 + 2)) = some (.bool it.2.f))) ∧ (RdB W (fun k => k < W.heap.size) it.1.1 it.2.a ∧ RdB W (fun k => k < W.heap.size) it.1.2 it.2.b) ∧ True ∧ wrZ it.2 ≤ Rows.uptoBulk (D i) := by
      intro i hi'
      obtain ⟨cs', h1, h2⟩ := hi i hi'
      rw [show Try.prog.cellsOf 125 = 3 by kernel_rfl] at h1
      obtain ⟨_, hlen, hcell⟩ := World.cells?_some h1
      obtain ⟨xs, k, hk, hxy, _, hxl, hfs⟩ := DataW.trod_struct Try.underlying125 h2
      match xs, hxl, cs', hlen with
      | [y0, y1, y2], _, [u0, u1, u2], _ =>
        have g0 := hfs 0 _ rfl
        have g1 := hfs 1 _ rfl
        have g2 := hfs 2 _ rfl
        have c1 : Try.prog.cellsOf 3 = 1 := by kernel_rfl
        have c2 : Try.prog.cellsOf 26 = 1 := by kernel_rfl
        have c3 : Try.prog.cellsOf 4 = 1 := by kernel_rfl
        simp [c1, c2, c3] at g0 g1 g2
        have e0 := hcell 0 (by omega)
        have e1 := hcell 1 (by omega)
        have e2 := hcell 2 (by omega)
        rw [Go.Deep.add_add] at e0 e1 e2
        simp at e0 e1 e2
        obtain ⟨t0, ht0, hts0⟩ := open_b g0
        obtain ⟨t1, ht1, hts1⟩ := open_b g1
        obtain ⟨x2, q2, _⟩ := DataW.trod_bool Try.underlying4 g2
        simp only [List.cons.injEq, and_true] at q2
        simp only [Prod.mk.injEq] at hxy
        refine ⟨((u0, u1), ⟨t0, t1, x2⟩), ⟨?_, by simpa using e0, by simpa using e1, by rw [show i * 3 + 2 = i * 3 + 2 from rfl]; simpa [q2] using e2⟩, ⟨ht0, ht1⟩, trivial, ?_⟩
        · have := World.block_lt_of_cell? W _ e0
          rwa [block_of_add] at this
        · rw [hxy.1]
          have h0 := hts0.1
          have h1 := hts1.1
          simp only [List.map_cons, List.map_nil, Rows.uptoBulk, Rows.uptoBulkAll]
          show t0.length + t1.length + 1 ≤ _
          omega
    obtain ⟨f, hf'⟩ := choose_ each
    refine ⟨(List.range len).map fun i => (f i).2, ⟨(List.range len).map fun i => (f i).1, by simp, ?_, ?_⟩, ?_, ?_⟩
    · have hrv := rdV_mk (w := W) (F := fun k => k < W.heap.size) (sz := 3) (by omega) hl hm (fun i => [(f i).1.1, (f i).1.2, .bool (f i).2.f]) (fun i => rfl) (fun i hi => ⟨(hf' i (by omega)).1.1, fun j hj => by
        obtain ⟨k0, k1, k2⟩ := (hf' i (by omega)).1.2
        have hjj : j = 0 ∨ j = 1 ∨ j = 2 := by omega
        rcases hjj with rfl | rfl | rfl
        · exact k0
        · exact k1
        · exact k2⟩)
      simp only [List.zip_map', List.flatMap_map, List.length_map, List.length_range]
      exact hrv
    · intro i x y hx hy
      obtain ⟨h1, rfl⟩ := range_get hx
      obtain ⟨_, rfl⟩ := range_get hy
      exact (hf' i (by omega)).2.1
    · simp only [Rows.uptoBulk]
      have h1 := Bulk.sum_le (fun i => wrZ (f i).2) D (List.range len) fun i hi => (hf' i (by have := List.mem_range.1 hi; omega)).2.2.2
      have h2 : wrsZ ((List.range len).map fun i => (f i).2) = ((List.range len).map fun i => wrZ (f i).2).sum := by
        rw [wrsZ, List.map_map]; rfl
      rw [h2]
      omega
    · intro o ho
      obtain ⟨i, hi, rfl⟩ := List.mem_map.1 ho
      exact (hf' i (by have := List.mem_range.1 hi; omega)).2.2.1

set_option maxRecDepth 100000 in
theorem openPairs {fuel : Nat} {u : Value} {y : DataW H × List MemPlace} (hf : DataW.trod enc Try.prog W 0 (fun _ => true) true fuel 89 [u] = some y) :
    ∃ l : List PairL, RdRow W (fun k => k < W.heap.size) u l ∧ rowZ l + 1 ≤ Rows.uptoBulk y.1 ∧ (∀ o ∈ l, True) := by
  rcases open_slice Try.underlying89 hf with ⟨hcs, hx⟩ | ⟨a, len, cap, m, n, D, Pl, hcs, hb, hl, hm, hmm, hx, hi⟩
  · simp only [List.cons.injEq, and_true] at hcs
    rw [hcs, hx]
    exact ⟨[], ⟨[], rfl, RdV.nil_ _ _ _, fun i x y h => by simp at h⟩, by simp [Rows.uptoBulk, rowZ], fun o ho => by cases ho⟩
  · simp only [List.cons.injEq, and_true] at hcs
    rw [hcs, hx]
    have hlm : len ≤ m := by rw [hmm]; split <;> omega
    have each : ∀ i, i < m → ∃ it : (Value × Value) × PairL, (a.block < W.heap.size ∧ (W.cell? (a.add (i * 2 + 0)) = some (it.1.1) ∧ W.cell? (a.add (i * 2 + 1)) = some (it.1.2))) ∧ (RdB W (fun k => k < W.heap.size) it.1.1 it.2.1 ∧ RdB W (fun k => k < W.heap.size) it.1.2 it.2.2) ∧ True ∧ pairZ it.2 ≤ Rows.uptoBulk (D i) := by
      intro i hi'
      obtain ⟨cs', h1, h2⟩ := hi i hi'
      rw [show Try.prog.cellsOf 88 = 2 by kernel_rfl] at h1
      obtain ⟨_, hlen, hcell⟩ := World.cells?_some h1
      obtain ⟨xs, k, hk, hxy, _, hxl, hfs⟩ := DataW.trod_struct Try.underlying88 h2
      match xs, hxl, cs', hlen with
      | [y0, y1], _, [u0, u1], _ =>
        have g0 := hfs 0 _ rfl
        have g1 := hfs 1 _ rfl
        have c1 : Try.prog.cellsOf 3 = 1 := by kernel_rfl
        have c2 : Try.prog.cellsOf 26 = 1 := by kernel_rfl
        have c3 : Try.prog.cellsOf 4 = 1 := by kernel_rfl
        simp [c1, c2, c3] at g0 g1
        have e0 := hcell 0 (by omega)
        have e1 := hcell 1 (by omega)
        rw [Go.Deep.add_add] at e0 e1
        simp at e0 e1
        obtain ⟨t0, ht0, hts0⟩ := open_b g0
        obtain ⟨t1, ht1, hts1⟩ := open_b g1
        simp only [Prod.mk.injEq] at hxy
        refine ⟨((u0, u1), (t0, t1)), ⟨?_, by simpa using e0, by simpa using e1⟩, ⟨ht0, ht1⟩, trivial, ?_⟩
        · have := World.block_lt_of_cell? W _ e0
          rwa [block_of_add] at this
        · rw [hxy.1]
          have h0 := hts0.1
          have h1 := hts1.1
          simp only [List.map_cons, List.map_nil, Rows.uptoBulk, Rows.uptoBulkAll]
          show t0.length + t1.length + 1 ≤ _
          omega
    obtain ⟨f, hf'⟩ := choose_ each
    refine ⟨(List.range len).map fun i => (f i).2, ⟨(List.range len).map fun i => (f i).1, by simp, ?_, ?_⟩, ?_, ?_⟩
    · have hrv := rdV_mk (w := W) (F := fun k => k < W.heap.size) (sz := 2) (by omega) hl hm (fun i => [(f i).1.1, (f i).1.2]) (fun i => rfl) (fun i hi => ⟨(hf' i (by omega)).1.1, fun j hj => by
        obtain ⟨k0, k1⟩ := (hf' i (by omega)).1.2
        have hjj : j = 0 ∨ j = 1 := by omega
        rcases hjj with rfl | rfl
        · exact k0
        · exact k1⟩)
      simp only [List.flatMap_map, List.length_map, List.length_range]
      exact hrv
    · intro i x y hx hy
      obtain ⟨h1, rfl⟩ := range_get hx
      obtain ⟨_, rfl⟩ := range_get hy
      exact (hf' i (by omega)).2.1
    · simp only [Rows.uptoBulk]
      have h1 := Bulk.sum_le (fun i => pairZ (f i).2) D (List.range len) fun i hi => (hf' i (by have := List.mem_range.1 hi; omega)).2.2.2
      have h2 : rowZ ((List.range len).map fun i => (f i).2) = ((List.range len).map fun i => pairZ (f i).2).sum := by
        rw [rowZ, List.map_map]; rfl
      rw [h2]
      omega
    · intro o ho
      obtain ⟨i, hi, rfl⟩ := List.mem_map.1 ho
      exact (hf' i (by have := List.mem_range.1 hi; omega)).2.2.1

set_option maxRecDepth 100000 in
theorem openRows {fuel : Nat} {u : Value} {y : DataW H × List MemPlace} (hf : DataW.trod enc Try.prog W 0 (fun _ => true) true fuel 29 [u] = some y) :
    ∃ l : List (List PairL), RdRows W (fun k => k < W.heap.size) u l ∧ rowsZ l + 1 ≤ Rows.uptoBulk y.1 ∧ (∀ o ∈ l, True) := by
  rcases open_slice Try.underlying29 hf with ⟨hcs, hx⟩ | ⟨a, len, cap, m, n, D, Pl, hcs, hb, hl, hm, hmm, hx, hi⟩
  · simp only [List.cons.injEq, and_true] at hcs
    rw [hcs, hx]
    exact ⟨[], ⟨[], rfl, RdV.nil_ _ _ _, fun i x y h => by simp at h⟩, by simp [Rows.uptoBulk, rowsZ], fun o ho => by cases ho⟩
  · simp only [List.cons.injEq, and_true] at hcs
    rw [hcs, hx]
    have hlm : len ≤ m := by rw [hmm]; split <;> omega
    have each : ∀ i, i < m → ∃ it : Value × List PairL, (a.block < W.heap.size ∧ (W.cell? (a.add (i * 1 + 0)) = some (it.1))) ∧ (RdRow W (fun k => k < W.heap.size) it.1 it.2) ∧ True ∧ rowZ it.2 + 1 ≤ Rows.uptoBulk (D i) := by
      intro i hi'
      obtain ⟨cs', h1, h2⟩ := hi i hi'
      rw [show Try.prog.cellsOf 89 = 1 by kernel_rfl] at h1
      obtain ⟨_, hlen, hcell⟩ := World.cells?_some h1
      match cs', hlen with
      | [u0], _ =>
        have e0 := hcell 0 (by omega)
        rw [Go.Deep.add_add] at e0
        simp at e0
        obtain ⟨t0, ht0, hz0, hw0⟩ := openPairs h2
        refine ⟨(u0, t0), ⟨?_, by simpa using e0⟩, ht0, trivial, hz0⟩
        have := World.block_lt_of_cell? W _ e0
        rwa [block_of_add] at this
    obtain ⟨f, hf'⟩ := choose_ each
    refine ⟨(List.range len).map fun i => (f i).2, ⟨(List.range len).map fun i => (f i).1, by simp, ?_, ?_⟩, ?_, ?_⟩
    · have hrv := rdV_mk (w := W) (F := fun k => k < W.heap.size) (sz := 1) (by omega) hl hm (fun i => [(f i).1]) (fun i => rfl) (fun i hi => ⟨(hf' i (by omega)).1.1, fun j hj => by
        have k0 := (hf' i (by omega)).1.2
        have hjj : j = 0 := by omega
        subst hjj
        · exact k0⟩)
      simp only [List.length_map, List.length_range]
      rw [show (List.range len).map (fun i => (f i).1) = (List.range len).flatMap fun i => [(f i).1] by rw [List.flatMap_def]; induction List.range len with | nil => rfl | cons a l ih => simp [ih]]; exact hrv
    · intro i x y hx hy
      obtain ⟨h1, rfl⟩ := range_get hx
      obtain ⟨_, rfl⟩ := range_get hy
      exact (hf' i (by omega)).2.1
    · simp only [Rows.uptoBulk]
      have h1 := Bulk.sum_le (fun i => rowZ (f i).2 + 1) D (List.range len) fun i hi => (hf' i (by have := List.mem_range.1 hi; omega)).2.2.2
      have h2 : rowsZ ((List.range len).map fun i => (f i).2) = ((List.range len).map fun i => rowZ (f i).2 + 1).sum := by
        rw [rowsZ, List.map_map]; rfl
      rw [h2]
      omega
    · intro o ho
      obtain ⟨i, hi, rfl⟩ := List.mem_map.1 ho
      exact (hf' i (by have := List.mem_range.1 hi; omega)).2.2.1
end
/-- what is sent is within its kinds -/
structure SenWf (x : SenS) : Prop where
  kk : I64 x.kind
  kw : I64 x.what
  ka : I64 x.ask.kind
  kn : I64 x.ans.kind
  ke : I64 x.ans.err
  ko : I64 x.ans.out.err
  kt : I64 x.ans.out.at_
  u : U64 x.fr ∧ U64 x.tt ∧ U64 x.a ∧ U64 x.b
  ua : U64 x.ask.inc ∧ U64 x.ask.head ∧ U64 x.ask.boot ∧ U64 x.ask.id ∧ U64 x.ask.tb ∧ U64 x.ask.ts ∧ U64 x.ask.tq
  un : U64 x.ans.inc ∧ U64 x.ans.boot ∧ U64 x.ans.tb ∧ U64 x.ans.ts ∧ U64 x.ans.tq ∧ U64 x.ans.id ∧ U64 x.ans.at_
  ops : ∀ o ∈ x.ask.ops, I64 o.kind ∧ I64 o.most
/-- .. and no greater than what may come in -/
structure SenZ (x : SenS) : Prop where
  ops : opsZ x.ask.ops ≤ 1048576
  rep : x.ask.reply.length ≤ 1048576
  anm : x.ask.name.size ≤ 1048576
  rows : rowsZ x.ans.out.rows ≤ 1048576
  ws : wrsZ x.ans.out.ws ≤ 1048576
  nrep : x.ans.reply.length ≤ 1048576
  nm : x.name.size ≤ 1048576

section
variable {H : Type} {enc : TypeId × Value → H} {W : World}
theorem i64_wf {x : Int} (h : Lit.wf (.int .i64 x) = true) : I64 x := by simpa [I64, Lit.wf, IntKind.min, IntKind.max, IntKind.signed, IntKind.bits] using h
theorem u64_wf {x : Int} (h : Lit.wf (.int .u64 x) = true) : x = ((x.toNat : Nat) : Int) ∧ U64 x.toNat := by
  have h : 0 ≤ x ∧ x ≤ 18446744073709551615 := by simpa [Lit.wf, IntKind.min, IntKind.max, IntKind.signed, IntKind.bits] using h
  exact ⟨by omega, by show x.toNat < _; omega⟩

set_option maxRecDepth 100000 in
set_option maxHeartbeats 8000000 in
theorem openSen {base : Nat} {v : Value} {d : DataW H} {p : List MemPlace} (hv : Value.okWide Try.prog W .any base 36 v) (h : DataW.Trod enc Try.prog W 0 (fun _ => true) true 36 v d p) :
    ∃ (x : SenS) (a b c e f : Value), v = .agg (senA x a b c e f) ∧ SenWf x ∧ (Rows.uptoBulk d ≤ 1048576 → SenRd W (fun k => k < W.heap.size) x a b c e f ∧ SenZ x) := by
  obtain ⟨cs, rfl, hsz⟩ := okWide_struct Try.underlying36 hv
  obtain ⟨fuel, hf⟩ := h
  have hc34 : Try.prog.cellsOf 36 = 34 := by kernel_rfl
  obtain ⟨xs, k, rfl, hxy, hlen, hxl, hfs⟩ := DataW.trod_struct Try.underlying36 hf
  rw [hc34] at hsz hlen
  obtain ⟨l⟩ := cs
  simp only [Value.cells] at hlen hfs
  match xs, hxl, l, hlen with
  | [y0, y1, y2, y3, y4, y5, y6, y7, y8], _, cl0 :: cl1 :: cl2 :: cl3 :: cl4 :: cl5 :: cl6 :: cl7 :: cl8 :: cl9 :: cl10 :: cl11 :: cl12 :: cl13 :: cl14 :: cl15 :: cl16 :: cl17 :: cl18 :: cl19 :: cl20 :: cl21 :: cl22 :: cl23 :: cl24 :: cl25 :: cl26 :: cl27 :: cl28 :: cl29 :: cl30 :: cl31 :: cl32 :: cl33 :: [], _ =>
    have g0 := hfs 0 _ rfl
    have g1 := hfs 1 _ rfl
    have g2 := hfs 2 _ rfl
    have g3 := hfs 3 _ rfl
    have g4 := hfs 4 _ rfl
    have g5 := hfs 5 _ rfl
    have g6 := hfs 6 _ rfl
    have g7 := hfs 7 _ rfl
    have g8 := hfs 8 _ rfl
    have c0 : Try.prog.cellsOf 3 = 1 := by kernel_rfl
    have c1 : Try.prog.cellsOf 24 = 3 := by kernel_rfl
    have c2 : Try.prog.cellsOf 25 = 1 := by kernel_rfl
    have c3 : Try.prog.cellsOf 4 = 1 := by kernel_rfl
    have c4 : Try.prog.cellsOf 26 = 1 := by kernel_rfl
    have c5 : Try.prog.cellsOf 22 = 1 := by kernel_rfl
    have c6 : Try.prog.cellsOf 9 = 1 := by kernel_rfl
    have c7 : Try.prog.cellsOf 28 = 12 := by kernel_rfl
    have c8 : Try.prog.cellsOf 34 = 15 := by kernel_rfl
    have c9 : Try.prog.cellsOf 29 = 1 := by kernel_rfl
    have c10 : Try.prog.cellsOf 30 = 1 := by kernel_rfl
    have c11 : Try.prog.cellsOf 32 = 4 := by kernel_rfl
    simp [c0, c1, c2, c3, c4, c5, c6, c7, c8, c9, c10, c11] at g0 g1 g2 g3 g4 g5 g6 g7 g8
    obtain ⟨xa, qa, za, wa⟩ := DataW.trod_int Try.underlying3 g0
    have ma := i64_wf wa
    obtain ⟨xb, qb, zb, wb⟩ := DataW.trod_int Try.underlying22 g1
    obtain ⟨iqb, mb⟩ := u64_wf wb
    obtain ⟨xc, qc, zc, wc⟩ := DataW.trod_int Try.underlying22 g2
    obtain ⟨iqc, mc⟩ := u64_wf wc
    obtain ⟨xsA, kA, _, hxyA, _, hxlA, hfsA⟩ := DataW.trod_struct Try.underlying28 g3
    match xsA, hxlA with
    | [yA0, yA1, yA2, yA3, yA4, yA5, yA6, yA7, yA8, yA9], _ =>
    have gA0 := hfsA 0 _ rfl
    have gA1 := hfsA 1 _ rfl
    have gA2 := hfsA 2 _ rfl
    have gA3 := hfsA 3 _ rfl
    have gA4 := hfsA 4 _ rfl
    have gA5 := hfsA 5 _ rfl
    have gA6 := hfsA 6 _ rfl
    have gA7 := hfsA 7 _ rfl
    have gA8 := hfsA 8 _ rfl
    have gA9 := hfsA 9 _ rfl
    simp [c0, c1, c2, c3, c4, c5, c6, c7, c8, c9, c10, c11] at gA0 gA1 gA2 gA3 gA4 gA5 gA6 gA7 gA8 gA9
    obtain ⟨xA0, qA0, zA0, wA0⟩ := DataW.trod_int Try.underlying3 gA0
    have mA0 := i64_wf wA0
    obtain ⟨xA1, qA1, zA1, wA1⟩ := DataW.trod_int Try.underlying22 gA1
    obtain ⟨iqA1, mA1⟩ := u64_wf wA1
    obtain ⟨xA2, qA2, zA2, wA2⟩ := DataW.trod_int Try.underlying22 gA2
    obtain ⟨iqA2, mA2⟩ := u64_wf wA2
    obtain ⟨xA3, qA3, zA3, wA3⟩ := DataW.trod_int Try.underlying22 gA3
    obtain ⟨iqA3, mA3⟩ := u64_wf wA3
    obtain ⟨xsA4t, kA4t, _, hxyA4t, _, hxlA4t, hfsA4t⟩ := DataW.trod_struct Try.underlying24 gA4
    match xsA4t, hxlA4t with
    | [yA4t0, yA4t1, yA4t2], _ =>
    have gA4t0 := hfsA4t 0 _ rfl
    have gA4t1 := hfsA4t 1 _ rfl
    have gA4t2 := hfsA4t 2 _ rfl
    simp [c0, c1, c2, c3, c4, c5, c6, c7, c8, c9, c10, c11] at gA4t0 gA4t1 gA4t2
    obtain ⟨xA4t0, qA4t0, zA4t0, wA4t0⟩ := DataW.trod_int Try.underlying22 gA4t0
    obtain ⟨iqA4t0, mA4t0⟩ := u64_wf wA4t0
    obtain ⟨xA4t1, qA4t1, zA4t1, wA4t1⟩ := DataW.trod_int Try.underlying22 gA4t1
    obtain ⟨iqA4t1, mA4t1⟩ := u64_wf wA4t1
    obtain ⟨xA4t2, qA4t2, zA4t2, wA4t2⟩ := DataW.trod_int Try.underlying22 gA4t2
    obtain ⟨iqA4t2, mA4t2⟩ := u64_wf wA4t2
    obtain ⟨lA5, hA5, sA5, wA5⟩ := openOps gA5
    obtain ⟨xA6, qA6, _⟩ := DataW.trod_bool Try.underlying4 gA6
    obtain ⟨lA7, hA7, sA7⟩ := open_b gA7
    obtain ⟨xA8, qA8, zA8, wA8⟩ := DataW.trod_int Try.underlying22 gA8
    obtain ⟨iqA8, mA8⟩ := u64_wf wA8
    obtain ⟨xA9, qA9, zA9, _⟩ := DataW.trod_string Try.underlying9 gA9
    obtain ⟨xsN, kN, _, hxyN, _, hxlN, hfsN⟩ := DataW.trod_struct Try.underlying34 g4
    match xsN, hxlN with
    | [yN0, yN1, yN2, yN3, yN4, yN5, yN6, yN7, yN8, yN9], _ =>
    have gN0 := hfsN 0 _ rfl
    have gN1 := hfsN 1 _ rfl
    have gN2 := hfsN 2 _ rfl
    have gN3 := hfsN 3 _ rfl
    have gN4 := hfsN 4 _ rfl
    have gN5 := hfsN 5 _ rfl
    have gN6 := hfsN 6 _ rfl
    have gN7 := hfsN 7 _ rfl
    have gN8 := hfsN 8 _ rfl
    have gN9 := hfsN 9 _ rfl
    simp [c0, c1, c2, c3, c4, c5, c6, c7, c8, c9, c10, c11] at gN0 gN1 gN2 gN3 gN4 gN5 gN6 gN7 gN8 gN9
    obtain ⟨xN0, qN0, zN0, wN0⟩ := DataW.trod_int Try.underlying3 gN0
    have mN0 := i64_wf wN0
    obtain ⟨xN1, qN1, zN1, wN1⟩ := DataW.trod_int Try.underlying22 gN1
    obtain ⟨iqN1, mN1⟩ := u64_wf wN1
    obtain ⟨xN2, qN2, zN2, wN2⟩ := DataW.trod_int Try.underlying22 gN2
    obtain ⟨iqN2, mN2⟩ := u64_wf wN2
    obtain ⟨xsN3t, kN3t, _, hxyN3t, _, hxlN3t, hfsN3t⟩ := DataW.trod_struct Try.underlying24 gN3
    match xsN3t, hxlN3t with
    | [yN3t0, yN3t1, yN3t2], _ =>
    have gN3t0 := hfsN3t 0 _ rfl
    have gN3t1 := hfsN3t 1 _ rfl
    have gN3t2 := hfsN3t 2 _ rfl
    simp [c0, c1, c2, c3, c4, c5, c6, c7, c8, c9, c10, c11] at gN3t0 gN3t1 gN3t2
    obtain ⟨xN3t0, qN3t0, zN3t0, wN3t0⟩ := DataW.trod_int Try.underlying22 gN3t0
    obtain ⟨iqN3t0, mN3t0⟩ := u64_wf wN3t0
    obtain ⟨xN3t1, qN3t1, zN3t1, wN3t1⟩ := DataW.trod_int Try.underlying22 gN3t1
    obtain ⟨iqN3t1, mN3t1⟩ := u64_wf wN3t1
    obtain ⟨xN3t2, qN3t2, zN3t2, wN3t2⟩ := DataW.trod_int Try.underlying22 gN3t2
    obtain ⟨iqN3t2, mN3t2⟩ := u64_wf wN3t2
    obtain ⟨xN4, qN4, zN4, wN4⟩ := DataW.trod_int Try.underlying22 gN4
    obtain ⟨iqN4, mN4⟩ := u64_wf wN4
    obtain ⟨xN5, qN5, zN5, wN5⟩ := DataW.trod_int Try.underlying3 gN5
    have mN5 := i64_wf wN5
    obtain ⟨xsN6o, kN6o, _, hxyN6o, _, hxlN6o, hfsN6o⟩ := DataW.trod_struct Try.underlying32 gN6
    match xsN6o, hxlN6o with
    | [yN6o0, yN6o1, yN6o2, yN6o3], _ =>
    have gN6o0 := hfsN6o 0 _ rfl
    have gN6o1 := hfsN6o 1 _ rfl
    have gN6o2 := hfsN6o 2 _ rfl
    have gN6o3 := hfsN6o 3 _ rfl
    simp [c0, c1, c2, c3, c4, c5, c6, c7, c8, c9, c10, c11] at gN6o0 gN6o1 gN6o2 gN6o3
    obtain ⟨xN6o0, qN6o0, zN6o0, wN6o0⟩ := DataW.trod_int Try.underlying3 gN6o0
    have mN6o0 := i64_wf wN6o0
    obtain ⟨xN6o1, qN6o1, zN6o1, wN6o1⟩ := DataW.trod_int Try.underlying3 gN6o1
    have mN6o1 := i64_wf wN6o1
    obtain ⟨lN6o2, hN6o2, sN6o2, _⟩ := openRows gN6o2
    obtain ⟨lN6o3, hN6o3, sN6o3, _⟩ := openWrs gN6o3
    obtain ⟨xN7, qN7, _⟩ := DataW.trod_bool Try.underlying4 gN7
    obtain ⟨lN8, hN8, sN8⟩ := open_b gN8
    obtain ⟨xN9, qN9, zN9, wN9⟩ := DataW.trod_int Try.underlying22 gN9
    obtain ⟨iqN9, mN9⟩ := u64_wf wN9
    obtain ⟨xd, qd, zd, _⟩ := DataW.trod_string Try.underlying9 g5
    obtain ⟨xe, qe, ze, we⟩ := DataW.trod_int Try.underlying3 g6
    have me := i64_wf we
    obtain ⟨xf, qf, zf, wf⟩ := DataW.trod_int Try.underlying22 g7
    obtain ⟨iqf, mf⟩ := u64_wf wf
    obtain ⟨xg, qg, zg, wg⟩ := DataW.trod_int Try.underlying22 g8
    obtain ⟨iqg, mg⟩ := u64_wf wg
    simp only [List.cons.injEq, and_true] at qa qb qc qA0 qA1 qA2 qA3 qA4t0 qA4t1 qA4t2 qA6 qA8 qA9 qN0 qN1 qN2 qN3t0 qN3t1 qN3t2 qN4 qN5 qN6o0 qN6o1 qN7 qN9 qd qe qf qg
    simp only [Prod.mk.injEq] at hxy
    refine ⟨⟨xa, xb.toNat, xc.toNat, ⟨xA0, xA1.toNat, xA2.toNat, xA3.toNat, xA4t0.toNat, xA4t1.toNat, xA4t2.toNat, lA5, xA6, lA7, xA8.toNat, xA9⟩, ⟨xN0, xN1.toNat, xN2.toNat, xN3t0.toNat, xN3t1.toNat, xN3t2.toNat, xN4.toNat, xN5, ⟨xN6o0, xN6o1, lN6o2, lN6o3⟩, xN7, lN8, xN9.toNat⟩, xd, xe, xf.toNat, xg.toNat⟩, cl10, cl12, cl25, cl26, cl28, ?_, ?_, fun hd => ?_⟩
    · rw [qa, qb, qc, qA0, qA1, qA2, qA3, qA4t0, qA4t1, qA4t2, qA6, qA8, qA9, qN0, qN1, qN2, qN3t0, qN3t1, qN3t2, qN4, qN5, qN6o0, qN6o1, qN7, qN9, qd, qe, qf, qg, iqb, iqc, iqA1, iqA2, iqA3, iqA4t0, iqA4t1, iqA4t2, iqA8, iqN1, iqN2, iqN3t0, iqN3t1, iqN3t2, iqN4, iqN9, iqf, iqg]
      rfl
    · exact ⟨ma, me, mA0, mN0, mN5, mN6o0, mN6o1, ⟨mb, mc, mf, mg⟩, ⟨mA1, mA2, mA3, mA8, mA4t0, mA4t1, mA4t2⟩, ⟨mN1, mN2, mN3t0, mN3t1, mN3t2, mN4, mN9⟩, wA5⟩
    · have e1 := congrArg Prod.fst hxyA
      have e2 := congrArg Prod.fst hxyN
      have e3 := congrArg Prod.fst hxyN6o
      have n1 : xA9.size + 1 ≤ Rows.uptoBulk yA9.1 := by
        rw [zA9]
        simp only [Rows.uptoBulk]
        show xA9.data.size + 1 ≤ xA9.data.toList.length + 1
        rw [Array.length_toList]
        exact Nat.le_refl _
      have n2 : xd.size + 1 ≤ Rows.uptoBulk y5.1 := by
        rw [zd]
        simp only [Rows.uptoBulk]
        show xd.data.size + 1 ≤ xd.data.toList.length + 1
        rw [Array.length_toList]
        exact Nat.le_refl _
      rw [hxy.1] at hd
      simp only [List.map_cons, List.map_nil, Rows.uptoBulk, Rows.uptoBulkAll] at hd
      rw [e1, e2] at hd
      simp only [List.map_cons, List.map_nil, Rows.uptoBulk, Rows.uptoBulkAll] at hd
      rw [e3] at hd
      simp only [List.map_cons, List.map_nil, Rows.uptoBulk, Rows.uptoBulkAll] at hd
      have z1 := sA7.1
      have z2 := sN8.1
      clear e1 e2 e3 hxy hxyA hxyN hxyN6o hfs hfsA hfsN hfsN6o hfsA4t hfsN3t
      have b1 : opsZ lA5 ≤ 1048576 := by omega
      have b2 : rowsZ lN6o2 ≤ 1048576 := by omega
      have b3 : wrsZ lN6o3 ≤ 1048576 := by omega
      have b4 : lA7.length ≤ 1048576 := by omega
      have b5 : lN8.length ≤ 1048576 := by omega
      have b6 : xA9.size ≤ 1048576 := by omega
      have b7 : xd.size ≤ 1048576 := by omega
      clear hd
      refine ⟨⟨hA5, ?_, ?_, hA7, Nat.le_trans b4 (by omega), hN6o2, ?_, ?_, hN6o3, ?_, ?_, hN8, Nat.le_trans b5 (by omega)⟩, ⟨b1, b4, b6, b2, b3, b5, b7⟩⟩
      · exact Nat.le_trans (sumZ_len opZ (fun x => by unfold opZ; omega) lA5) (Nat.le_trans b1 (by omega))
      · intro o ho
        have h := sumZ_mem opZ lA5 o ho
        unfold opsZ at b1
        unfold opZ at h b1
        exact ⟨by omega, by omega⟩
      · exact Nat.le_trans (sumZ_len (fun r => rowZ r + 1) (fun x => by omega) lN6o2) (Nat.le_trans b2 (by omega))
      · intro r hr
        have h := sumZ_mem (fun r => rowZ r + 1) lN6o2 r hr
        unfold rowsZ at b2
        have h2 := sumZ_len pairZ (fun x => by unfold pairZ; omega) r
        refine ⟨by unfold rowZ at h b2; omega, fun o ho => ?_⟩
        have h3 := sumZ_mem pairZ r o ho
        unfold rowZ at h b2
        unfold pairZ at h b2 h3
        exact ⟨by omega, by omega⟩
      · exact Nat.le_trans (sumZ_len wrZ (fun x => by unfold wrZ; omega) lN6o3) (Nat.le_trans b3 (by omega))
      · intro o ho
        have h := sumZ_mem wrZ lN6o3 o ho
        unfold wrsZ at b3
        unfold wrZ at h b3
        exact ⟨by omega, by omega⟩
end
end Go.Proofs.Ytncchbcoldgpbaa
