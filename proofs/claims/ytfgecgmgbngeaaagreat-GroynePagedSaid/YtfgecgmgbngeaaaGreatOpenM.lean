/- How the arguments of a law are opened: what the form reads of them, in the walks' words. -/
import Derived.Test.YtfgecgmgbngeaaaGreatRows
import Derived.Test.YtfgecgmgbngeaaaGreatWords
import Derived.ProofKit
import Derived.OpenShut
import Derived.ShutString
import Derived.ChangeOld
import Derived.JoinedCond
import Derived.SizedLaws
import Derived.Deep.Slices
import Derived.Deep.Matrix
set_option linter.unusedSimpArgs false
set_option maxRecDepth 100000
namespace Go.Proofs.YtfgecgmgbngeaaaGreat
open Go.ChangeShapes Go.WideShapes Go.ChangeAt Go.RowKit Go.Deep
open Go.ChangeMaps (open_string shut_string)

theorem own : ownKnob Tryz.prog.godebug = none := by kernel_rfl
theorem laidOut : laidOutB Tryz.prog = true := by kernel_rfl

namespace Bulk
theorem one_le {H : Type} (d : DataW H) : 1 ≤ Rows.uptoBulk d := by
  cases d with
  | lit l => cases l <;> simp [Rows.uptoBulk]
  | nil => simp [Rows.uptoBulk]
  | ptr d => simp [Rows.uptoBulk]
  | slice elems spare => simp [Rows.uptoBulk]
  | agg parts => simp [Rows.uptoBulk]
  | iface t d => simp [Rows.uptoBulk]
  | map entries => simp [Rows.uptoBulk]
  | held h => simp [Rows.uptoBulk]
theorem length_le {H : Type} (l : List (DataW H)) : l.length ≤ Rows.uptoBulkAll l := by
  induction l with
  | nil => simp [Rows.uptoBulkAll]
  | cons x r ih => have := one_le x; simp only [Rows.uptoBulkAll, List.length_cons]; omega
theorem sum_le {H : Type} {α : Type} (f : α → Nat) (g : α → DataW H) : ∀ l : List α, (∀ a ∈ l, f a ≤ Rows.uptoBulk (g a)) → (l.map f).sum ≤ Rows.uptoBulkAll (l.map g)
  | [], _ => by simp [Rows.uptoBulkAll]
  | a :: l, h => by
    have h1 := h a (by simp)
    have h2 := sum_le f g l fun b hb => h b (by simp [hb])
    simp only [List.map_cons, List.sum_cons, Rows.uptoBulkAll]
    omega
end Bulk

section
variable {H : Type} {enc : TypeId × Value → H} {W : World} {v : Value} {d : DataW H} {p : List MemPlace}

/-- a number as a byte -/
def toB (n : Int) : UInt8 := UInt8.ofNat n.toNat
theorem bv_toB {n : Int} (h : (Lit.int .u8 n).wf = true) : bv (toB n) = .int .u8 n := by
  have hx : 0 ≤ n ∧ n ≤ 255 := by simpa [Lit.wf, IntKind.min, IntKind.max, IntKind.signed, IntKind.bits] using h
  unfold bv toB
  congr 1
  rw [UInt8.toNat_ofNat']
  omega

theorem toB_int {n : Int} (h : (Lit.int .u8 n).wf = true) : n = ((toB n).toNat : Int) := by
  have := bv_toB h
  unfold bv at this
  injection this with _ h
  exact h.symm
theorem rdB_of_cells {a : Addr} {len cap : Nat} {zs : List Int} (hl : len ≤ cap) (hm : cap ≤ maxLen) (hz : len ≤ zs.length)
    (hcell : ∀ i, i < zs.length → W.cell? (a.add i) = some (.int .u8 (zs.getD i 0))) (hw : ∀ n ∈ zs, (Lit.int .u8 n).wf = true) :
    RdB W (fun k => k < W.heap.size) (.slice (some a) len cap) ((zs.take len).map toB) := by
  have e : ((zs.take len).map toB).length = len := by simp; omega
  refine RdB.mono (F := fun k => True ∧ k < W.heap.size) (RdB.lt ?_) fun k hk => hk.2
  unfold RdB RdV
  rw [e]
  refine ⟨by rw [bvs_length, e]; omega, some a, cap, rfl, hl, hm, fun _ => ⟨a, rfl, trivial, fun j u hu => ?_⟩⟩
  rw [bvs_get] at hu
  obtain ⟨b, hb, rfl⟩ := Option.map_eq_some_iff.1 hu
  rw [List.getElem?_map] at hb
  obtain ⟨n, hn, rfl⟩ := Option.map_eq_some_iff.1 hb
  rw [List.getElem?_take] at hn
  split at hn
  · have hj : j < zs.length := by omega
    rw [hcell j hj, bv_toB (hw n (List.mem_of_getElem? hn)), List.getD_eq_getElem?_getD, hn]
    rfl
  · cases hn

theorem rdU_of_cells {a : Addr} {len cap : Nat} {zs : List Int} (hl : len ≤ cap) (hm : cap ≤ maxLen) (hz : len ≤ zs.length)
    (hcell : ∀ i, i < zs.length → W.cell? (a.add i) = some (.int .u64 (zs.getD i 0))) (hw : ∀ n ∈ zs, (Lit.int .u64 n).wf = true) :
    RdU W (fun k => k < W.heap.size) (.slice (some a) len cap) ((zs.take len).map Int.toNat) := by
  have hx : ∀ n ∈ zs, 0 ≤ n ∧ n ≤ 18446744073709551615 := fun n hn => by simpa [Lit.wf, IntKind.min, IntKind.max, IntKind.signed, IntKind.bits] using hw n hn
  have e : ((zs.take len).map Int.toNat).length = len := by simp; omega
  refine ⟨fun n hn => ?_, RdV.mono (F := fun k => True ∧ k < W.heap.size) (RdV.lt ?_ (by omega)) fun k hk => hk.2⟩
  · obtain ⟨z, hz', rfl⟩ := List.mem_map.1 hn
    have := hx z (List.mem_of_mem_take hz')
    unfold U64; omega
  · unfold RdV
    rw [e]
    refine ⟨by rw [List.length_map, e]; omega, some a, cap, rfl, hl, hm, fun _ => ⟨a, rfl, trivial, fun j u hu => ?_⟩⟩
    rw [List.getElem?_map, List.getElem?_map] at hu
    obtain ⟨b, hb, rfl⟩ := Option.map_eq_some_iff.1 hu
    obtain ⟨n, hn, rfl⟩ := Option.map_eq_some_iff.1 hb
    rw [List.getElem?_take] at hn
    split at hn
    · have hj : j < zs.length := by omega
      have h0 := hx n (List.mem_of_getElem? hn)
      rw [hcell j hj, List.getD_eq_getElem?_getD, hn]
      simp only [Option.getD_some, uv]
      congr 2
      omega
    · cases hn

/-- what the sizes of a reading give: through the bulk, and through the form's own reach -/
def Sizes (n : Nat) (d : DataW H) : Prop := n + 1 ≤ Rows.uptoBulk d ∧ ∀ m, (∀ e s, d = .slice e s → e.length + s.length ≤ m) → n ≤ m

/-- a slice of bytes, by its reading -/
theorem open_b {fuel : Nat} {x : DataW H × List MemPlace} (h : DataW.trod enc Tryz.prog W 0 (fun _ => true) true fuel 30 [v] = some x) :
    ∃ l : List UInt8, RdB W (fun k => k < W.heap.size) v l ∧ Sizes l.length x.1 := by
  rcases open_ints Tryz.underlying30 Tryz.underlying5 (by kernel_rfl) h with ⟨hcs, hx⟩ | ⟨a, l, c, zs, hcs, _, hl, hm, hz, hx, hcell, hwz⟩
  · simp only [List.cons.injEq, and_true] at hcs
    subst hcs; subst hx
    exact ⟨[], RdB.nil_ _ _, by simp [Rows.uptoBulk], fun _ _ => Nat.zero_le _⟩
  · simp only [List.cons.injEq, and_true] at hcs
    subst hcs; subst hx
    refine ⟨_, rdB_of_cells hl hm (by simp at hz; omega) hcell hwz, ?_, fun m hm => ?_⟩
    · simp only [Rows.uptoBulk, List.length_map, List.length_take]
      have h1 := Bulk.length_le (lits (H := H) .u8 (zs.take l))
      simp only [lits, List.length_map, List.length_take] at h1 ⊢
      omega
    · have := hm _ _ rfl
      simp only [lits, List.length_map, List.length_take, List.length_drop] at this ⊢
      omega

set_option maxRecDepth 100000 in
theorem openB {base : Nat} (hv : Value.okWide Tryz.prog W .any base 30 v) (h : DataW.Trod enc Tryz.prog W 0 (fun _ => true) true 30 v d p) :
    ∃ l : List UInt8, RdB W (fun k => k < W.heap.size) v l ∧ Sizes l.length d := by
  obtain ⟨a, n, c, rfl⟩ := okWide_slice Tryz.underlying30 hv
  obtain ⟨fuel, hf⟩ := h
  exact open_b (x := (d, p)) hf

set_option maxRecDepth 100000 in
theorem openU {base : Nat} (hv : Value.okWide Tryz.prog W .any base 158 v) (h : DataW.Trod enc Tryz.prog W 0 (fun _ => true) true 158 v d p) :
    ∃ l : List Nat, RdU W (fun k => k < W.heap.size) v l ∧ Sizes l.length d := by
  obtain ⟨a, n, c, rfl⟩ := okWide_slice Tryz.underlying158 hv
  obtain ⟨fuel, hf⟩ := h
  rcases open_ints Tryz.underlying158 Tryz.underlying101 (by kernel_rfl) hf with ⟨hcs, hx⟩ | ⟨a, l, c, zs, hcs, _, hl, hm, hz, hx, hcell, hwz⟩
  · simp only [Value.cells, List.cons.injEq, and_true] at hcs
    simp only [Prod.mk.injEq] at hx
    rw [hcs, hx.1]
    exact ⟨[], ⟨by simp, RdV.nil_ _ _ _⟩, by simp [Rows.uptoBulk], fun _ _ => Nat.zero_le _⟩
  · simp only [Value.cells, List.cons.injEq, and_true] at hcs
    simp only [Prod.mk.injEq] at hx
    rw [hcs, hx.1]
    have hz' : l ≤ zs.length := by simp at hz; omega
    refine ⟨(zs.take l).map Int.toNat, rdU_of_cells hl hm hz' hcell hwz, ?_, fun m hm => ?_⟩
    · simp only [Rows.uptoBulk, List.length_map, List.length_take]
      have h1 := Bulk.length_le (lits (H := H) .u64 (zs.take l))
      simp only [lits, List.length_map, List.length_take] at h1 ⊢
      omega
    · have := hm _ _ rfl
      simp only [lits, List.length_map, List.length_take, List.length_drop] at this ⊢
      omega
end
end Go.Proofs.YtfgecgmgbngeaaaGreat

set_option maxRecDepth 100000
namespace Go.Proofs.YtfgecgmgbngeaaaGreat
open Go.ChangeShapes Go.WideShapes Go.ChangeAt Go.RowKit Go.Deep
set_option linter.unusedVariables false

/-- what the sizes of a reading of lists give -/
def SizesBB {H : Type} (ll : List (List UInt8)) (d : DataW H) : Prop := (ll.map fun l => l.length + 1).sum + 1 ≤ Rows.uptoBulk d ∧ ∀ m, (∀ e s, d = .slice e s → e.length + s.length ≤ m) → ll.length ≤ m

section
variable {H : Type} {enc : TypeId × Value → H} {W : World} {v : Value} {d : DataW H} {p : List MemPlace}
theorem bulk_row (A : Option Addr) (L : Nat) (zs : List Int) (h : A = none → L = 0) (hl : L ≤ zs.length) : L + 1 ≤ Rows.uptoBulk (H := H) (intRow .u8 A L zs) := by
  cases A with
  | none => rw [h rfl]; simp [intRow, Rows.uptoBulk]
  | some a =>
    simp only [intRow, Rows.uptoBulk]
    have h1 := Bulk.length_le (lits (H := H) .u8 (zs.take L))
    simp only [lits, List.length_map, List.length_take] at h1 ⊢
    omega
theorem openBB {base : Nat} (hv : Value.okWide Tryz.prog W .any base 22 v) (h : DataW.Trod enc Tryz.prog W 0 (fun _ => true) true 22 v d p) :
    ∃ ll : List (List UInt8), RdBB W (fun k => k < W.heap.size) v ll ∧ SizesBB ll d := by
  obtain ⟨a, n, c, rfl⟩ := okWide_slice Tryz.underlying22 hv
  obtain ⟨fuel, hf⟩ := h
  rcases open_int_rows Tryz.underlying22 Tryz.underlying30 Tryz.underlying5 (by kernel_rfl) (by kernel_rfl) hf with ⟨hcs, hx⟩ | ⟨a, len, cap, A, L, C, Z, hcs, _, hl, hm, hx, hi⟩
  · simp only [Value.cells, List.cons.injEq, and_true] at hcs
    simp only [Prod.mk.injEq] at hx
    rw [hcs, hx.1]
    exact ⟨[], RdBB.nil_ _ _, by simp [Rows.uptoBulk], fun _ _ => Nat.zero_le _⟩
  · simp only [Value.cells, List.cons.injEq, and_true] at hcs
    simp only [Prod.mk.injEq] at hx
    rw [hcs, hx.1]
    have hrow : ∀ r, r < cap → RdB W (fun k => k < W.heap.size) (.slice (A r) (L r) (C r)) (((Z r).take (L r)).map toB) ∧ (((Z r).take (L r)).map toB).length = L r := fun r hr => by
      obtain ⟨_, h1, h2, h3, h4, h5, h6⟩ := hi r hr
      refine ⟨?_, by simp; omega⟩
      cases hA : A r with
      | none =>
        have := h5 hA
        have hz : L r = 0 := by omega
        rw [hz, this]
        simpa using RdB.nil_ W _
      | some a' => exact rdB_of_cells h1 h2 (by omega) (fun c hc => (h6 a' hA).2 c (by omega)) h4
    have el : ((List.range len).map fun r => ((Z r).take (L r)).map toB).length = len := by simp
    refine ⟨(List.range len).map fun r => ((Z r).take (L r)).map toB, ⟨(List.range len).map fun r => .slice (A r) (L r) (C r), by simp, ?_, fun k x l hx hl' => ?_⟩, ?_, fun m hm => ?_⟩
    · refine RdV.mono (F := fun k => True ∧ k < W.heap.size) (RdV.lt ?_ (by omega)) fun k hk => hk.2
      rw [el]
      refine ⟨by simp, some a, cap, rfl, hl, hm, fun _ => ⟨a, rfl, trivial, fun j u hu => ?_⟩⟩
      rw [List.getElem?_map] at hu
      obtain ⟨r, hr, rfl⟩ := Option.map_eq_some_iff.1 hu
      have hj := (List.getElem?_eq_some_iff.1 hr).1
      rw [List.length_range] at hj
      rw [List.getElem?_range hj] at hr
      injection hr with hr
      subst hr
      exact (hi j (by omega)).1
    · rw [List.getElem?_map] at hx hl'
      obtain ⟨r, hr, rfl⟩ := Option.map_eq_some_iff.1 hx
      rw [hr] at hl'
      simp only [Option.map_some, Option.some.injEq] at hl'
      subst hl'
      have hj := (List.getElem?_eq_some_iff.1 hr).1
      rw [List.length_range] at hj
      rw [List.getElem?_range hj] at hr
      injection hr with hr
      subst hr
      exact (hrow k (by omega)).1
    · simp only [Rows.uptoBulk]
      have h1 := Bulk.sum_le (fun r => L r + 1) (fun r => intRow (H := H) .u8 (A r) (L r) (Z r)) (List.range len) fun r hr => by
        have hr := List.mem_range.1 hr
        obtain ⟨_, h1, h2, h3, h4, h5, h6⟩ := hi r (by omega)
        exact bulk_row _ _ _ (fun h => by have := h5 h; omega) (by omega)
      have h2 : (((List.range len).map fun r => ((Z r).take (L r)).map toB).map fun l => l.length + 1) = (List.range len).map fun r => L r + 1 := by
        rw [List.map_map]
        refine List.map_congr_left fun r hr => ?_
        have hr := List.mem_range.1 hr
        simp only [Function.comp]
        rw [(hrow r (by omega)).2]
      rw [h2]
      omega
    · have := hm _ _ rfl
      simp only [List.length_map, List.length_range] at this ⊢
      omega
end
end Go.Proofs.YtfgecgmgbngeaaaGreat

set_option maxRecDepth 100000
namespace Go.Proofs.YtfgecgmgbngeaaaGreat
open Go.ChangeShapes Go.WideShapes Go.ChangeAt Go.RowKit Go.Deep
set_option linter.unusedVariables false

/-- the slice value v reads as the ints l -/
def RdI (w : World) (F : Nat → Prop) (v : Value) (l : List Int) : Prop := RdV w F 1 v l.length (l.map fun n => .int .i64 n)
section
variable {w w' : World} {F F' S : Nat → Prop} {v : Value} {l : List Int}
theorem RdI.chg (h : RdI w F v l) (hc : Chg S w w') (hF : ∀ k, F k → ¬ S k) : RdI w' F v l := RdV.chg h hc hF
theorem RdI.c0 (h : RdI w F v l) (hc : Chg Non w w') : RdI w' F v l := RdV.chg h hc fun _ _ h => h
theorem RdI.shape (h : RdI w F v l) : ∃ A c, v = .slice A l.length c ∧ l.length ≤ c ∧ c ≤ maxLen := RdV.shape h
theorem RdI.at_ {A : Option Addr} {n c : Nat} (h : RdI w F (.slice A n c) l) {k : Nat} (hk : k < l.length) :
    ∃ ad, A = some ad ∧ F ad.block ∧ w.cell? (ad.add k) = some (.int .i64 l[k]) := by
  obtain ⟨A', c', e, _, _⟩ := RdV.shape h
  injection e with e1 e2 e3
  subst e1; subst e2; subst e3
  obtain ⟨ad, u, hA, hf, hu, hc⟩ := RdV.at_ h hk (i := 0) (by omega)
  refine ⟨ad, hA, hf, ?_⟩
  simp only [Nat.mul_one, Nat.add_zero] at hu hc
  rw [List.getElem?_map, List.getElem?_eq_getElem hk] at hu
  rw [hc, ← hu]
  rfl
theorem RdI.front {A : Option Addr} {n c j : Nat} (h : RdI w F (.slice A n c) l) (hj : j ≤ l.length) : RdI w F (.slice A j c) (l.take j) := by
  obtain ⟨A', c', e, hc, hm⟩ := RdV.shape h
  injection e with e1 e2 e3
  subst e1; subst e2; subst e3
  obtain ⟨h1, A2, c2, e, _, _, h2⟩ := h
  injection e with e1 e2 e3
  subst e1; subst e3
  have el : (l.take j).length = j := by simp; omega
  unfold RdI RdV
  rw [el]
  refine ⟨by simp; omega, A, c, rfl, by omega, hm, fun hn => ?_⟩
  obtain ⟨ad, rfl, hf, hcell⟩ := h2 (by omega)
  refine ⟨ad, rfl, hf, fun i u hu => hcell i u ?_⟩
  rw [List.getElem?_map, List.getElem?_take] at hu
  rw [List.getElem?_map]
  split at hu
  · exact hu
  · cases hu
end

section
variable {H : Type} {enc : TypeId × Value → H} {W : World} {v : Value} {d : DataW H} {p : List MemPlace}
set_option maxRecDepth 100000 in
theorem openI {base : Nat} (hv : Value.okWide Tryz.prog W .any base 23 v) (h : DataW.Trod enc Tryz.prog W 0 (fun _ => true) true 23 v d p) :
    ∃ l : List Int, RdI W (fun k => k < W.heap.size) v l ∧ Sizes l.length d := by
  obtain ⟨a, n, c, rfl⟩ := okWide_slice Tryz.underlying23 hv
  obtain ⟨fuel, hf⟩ := h
  rcases open_ints Tryz.underlying23 Tryz.underlying3 (by kernel_rfl) hf with ⟨hcs, hx⟩ | ⟨a, l, c, zs, hcs, _, hl, hm, hz, hx, hcell, hwz⟩
  · simp only [Value.cells, List.cons.injEq, and_true] at hcs
    simp only [Prod.mk.injEq] at hx
    rw [hcs, hx.1]
    exact ⟨[], RdV.nil_ _ _ _, by simp [Rows.uptoBulk], fun _ _ => Nat.zero_le _⟩
  · simp only [Value.cells, List.cons.injEq, and_true] at hcs
    simp only [Prod.mk.injEq] at hx
    rw [hcs, hx.1]
    have hz' : l ≤ zs.length := by simp at hz; omega
    have e : (zs.take l).length = l := by simp; omega
    refine ⟨zs.take l, RdV.mono (F := fun k => True ∧ k < W.heap.size) (RdV.lt ?_ (by omega)) fun k hk => hk.2, ?_, fun m hm => ?_⟩
    · unfold RdV
      rw [e]
      refine ⟨by rw [List.length_map, e]; omega, some a, c, rfl, hl, hm, fun _ => ⟨a, rfl, trivial, fun j u hu => ?_⟩⟩
      rw [List.getElem?_map] at hu
      obtain ⟨n, hn, rfl⟩ := Option.map_eq_some_iff.1 hu
      rw [List.getElem?_take] at hn
      split at hn
      · have hj : j < zs.length := by omega
        rw [hcell j hj, List.getD_eq_getElem?_getD, hn]
        rfl
      · cases hn
    · simp only [Rows.uptoBulk, List.length_take]
      have h1 := Bulk.length_le (lits (H := H) .i64 (zs.take l))
      simp only [lits, List.length_map, List.length_take] at h1 ⊢
      omega
    · have := hm _ _ rfl
      simp only [lits, List.length_map, List.length_take, List.length_drop] at this ⊢
      omega
end
end Go.Proofs.YtfgecgmgbngeaaaGreat

set_option maxRecDepth 100000
namespace Go.Proofs.YtfgecgmgbngeaaaGreat
open Go.ChangeShapes Go.WideShapes Go.ChangeAt Go.RowKit Go.Deep
set_option linter.unusedVariables false
/-- a node that reads -/
def NdR (W : World) (v : Value) : Prop :=
  ∃ (lf : Bool) (KA : Option Addr) (kn kc : Nat) (VA : Option Addr) (vn vc : Nat) (NA : Option Addr) (nn nc : Nat) (ks vs : List (List UInt8)) (ns : List Int), v = .agg #[.bool lf, .slice KA kn kc, .slice VA vn vc, .slice NA nn nc] ∧ RdBB W (fun k => k < W.heap.size) (.slice KA kn kc) ks ∧ RdBB W (fun k => k < W.heap.size) (.slice VA vn vc) vs ∧ RdI W (fun k => k < W.heap.size) (.slice NA nn nc) ns
section
variable {H : Type} {enc : TypeId × Value → H} {W : World}
set_option maxRecDepth 100000 in
theorem openBBs {fuel : Nat} {u : Value} {y : DataW H × List MemPlace} (hf : DataW.trod enc Tryz.prog W 0 (fun _ => true) true fuel 22 [u] = some y) :
    ∃ ll : List (List UInt8), RdBB W (fun k => k < W.heap.size) u ll := by
  rcases open_int_rows Tryz.underlying22 Tryz.underlying30 Tryz.underlying5 (by kernel_rfl) (by kernel_rfl) hf with ⟨hcs, hx⟩ | ⟨a, len, cap, A, L, C, Z, hcs, _, hl, hm, hx, hi⟩
  · simp only [List.cons.injEq, and_true] at hcs
    rw [hcs]
    exact ⟨[], RdBB.nil_ _ _⟩
  · simp only [List.cons.injEq, and_true] at hcs
    rw [hcs]
    have hrow : ∀ r, r < cap → RdB W (fun k => k < W.heap.size) (.slice (A r) (L r) (C r)) (((Z r).take (L r)).map toB) := fun r hr => by
      obtain ⟨_, h1, h2, h3, h4, h5, h6⟩ := hi r hr
      cases hA : A r with
      | none =>
        have := h5 hA
        have hz : L r = 0 := by omega
        rw [hz, this]
        simpa using RdB.nil_ W _
      | some a' => exact rdB_of_cells h1 h2 (by omega) (fun c hc => (h6 a' hA).2 c (by omega)) h4
    have el : ((List.range len).map fun r => ((Z r).take (L r)).map toB).length = len := by simp
    refine ⟨(List.range len).map fun r => ((Z r).take (L r)).map toB, (List.range len).map fun r => .slice (A r) (L r) (C r), by simp, ?_, fun k x l hx hl' => ?_⟩
    · refine RdV.mono (F := fun k => True ∧ k < W.heap.size) (RdV.lt ?_ (by omega)) fun k hk => hk.2
      rw [el]
      refine ⟨by simp, some a, cap, rfl, hl, hm, fun _ => ⟨a, rfl, trivial, fun j u hu => ?_⟩⟩
      rw [List.getElem?_map] at hu
      obtain ⟨r, hr, rfl⟩ := Option.map_eq_some_iff.1 hu
      have hj := (List.getElem?_eq_some_iff.1 hr).1
      rw [List.length_range] at hj
      rw [List.getElem?_range hj] at hr
      injection hr with hr
      subst hr
      exact (hi j (by omega)).1
    · rw [List.getElem?_map] at hx hl'
      obtain ⟨r, hr, rfl⟩ := Option.map_eq_some_iff.1 hx
      rw [hr] at hl'
      simp only [Option.map_some, Option.some.injEq] at hl'
      subst hl'
      have hj := (List.getElem?_eq_some_iff.1 hr).1
      rw [List.length_range] at hj
      rw [List.getElem?_range hj] at hr
      injection hr with hr
      subst hr
      exact hrow k (by omega)
set_option maxRecDepth 100000 in
theorem openIz {fuel : Nat} {u : Value} {y : DataW H × List MemPlace} (hf : DataW.trod enc Tryz.prog W 0 (fun _ => true) true fuel 23 [u] = some y) :
    ∃ l : List Int, RdI W (fun k => k < W.heap.size) u l := by
  rcases open_ints Tryz.underlying23 Tryz.underlying3 (by kernel_rfl) hf with ⟨hcs, hx⟩ | ⟨a, l, c, zs, hcs, _, hl, hm, hz, hx, hcell, hwz⟩
  · simp only [List.cons.injEq, and_true] at hcs
    rw [hcs]
    exact ⟨[], RdV.nil_ _ _ _⟩
  · simp only [List.cons.injEq, and_true] at hcs
    rw [hcs]
    have hz' : l ≤ zs.length := by simp at hz; omega
    have e : (zs.take l).length = l := by simp; omega
    refine ⟨zs.take l, RdV.mono (F := fun k => True ∧ k < W.heap.size) (RdV.lt ?_ (by omega)) fun k hk => hk.2⟩
    unfold RdV
    rw [e]
    refine ⟨by rw [List.length_map, e]; omega, some a, c, rfl, hl, hm, fun _ => ⟨a, rfl, trivial, fun j u hu => ?_⟩⟩
    rw [List.getElem?_map] at hu
    obtain ⟨n, hn, rfl⟩ := Option.map_eq_some_iff.1 hu
    rw [List.getElem?_take] at hn
    split at hn
    · have hj : j < zs.length := by omega
      rw [hcell j hj, List.getD_eq_getElem?_getD, hn]
      rfl
    · cases hn
set_option maxRecDepth 100000 in
set_option maxHeartbeats 4000000 in
theorem openNd {base : Nat} {v : Value} {d : DataW H} {p : List MemPlace} (hv : Value.okWide Tryz.prog W .any base 25 v) (h : DataW.Trod enc Tryz.prog W 0 (fun _ => true) true 25 v d p) : NdR W v := by
  obtain ⟨cs, rfl, hsz⟩ := okWide_struct Tryz.underlying25 hv
  obtain ⟨fuel, hf⟩ := h
  have hc4 : Tryz.prog.cellsOf 25 = 4 := by kernel_rfl
  obtain ⟨xs, k, rfl, hxy, hlen, hxl, hfs⟩ := DataW.trod_struct Tryz.underlying25 hf
  rw [hc4] at hsz hlen
  obtain ⟨l⟩ := cs
  simp only [Value.cells] at hlen hfs
  match xs, hxl, l, hlen with
  | [y0, y1, y2, y3], _, [u0, u1, u2, u3], _ =>
    have g0 := hfs 0 _ rfl
    have g1 := hfs 1 _ rfl
    have g2 := hfs 2 _ rfl
    have g3 := hfs 3 _ rfl
    have c0 : Tryz.prog.cellsOf 4 = 1 := by kernel_rfl
    have c1 : Tryz.prog.cellsOf 22 = 1 := by kernel_rfl
    have c2 : Tryz.prog.cellsOf 23 = 1 := by kernel_rfl
    simp [c0, c1, c2] at g0 g1 g2 g3
    obtain ⟨lf, q0, _⟩ := DataW.trod_bool Tryz.underlying4 g0
    obtain ⟨ks, hk⟩ := openBBs g1
    obtain ⟨vs, hv1⟩ := openBBs g2
    obtain ⟨ns, hn⟩ := openIz g3
    simp only [List.cons.injEq, and_true] at q0
    obtain ⟨KA, kc, rfl, _⟩ := hk.shape
    obtain ⟨VA, vc, rfl, _⟩ := hv1.shape
    obtain ⟨NA, nc, rfl, _⟩ := hn.shape
    exact ⟨lf, KA, _, kc, VA, _, vc, NA, _, nc, ks, vs, ns, by rw [q0], hk, hv1, hn⟩
end
end Go.Proofs.YtfgecgmgbngeaaaGreat
