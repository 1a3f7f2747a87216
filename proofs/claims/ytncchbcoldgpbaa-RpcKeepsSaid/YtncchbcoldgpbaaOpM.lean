/- How the arguments of a law are opened: what the form reads of them, in the walks' words. -/
import Derived.Test.YtncchbcoldgpbaaRows
import Derived.Test.YtncchbcoldgpbaaWords
import Derived.ProofKit
import Derived.OpenShut
import Derived.ShutString
import Derived.ChangeOld
import Derived.JoinedCond
import Derived.SizedLaws
import Derived.Deep.Slices
namespace Go.Proofs.Ytncchbcoldgpbaa
open Go.ChangeShapes Go.WideShapes Go.ChangeAt Go.RowKit Go.Deep
open Go.ChangeMaps (open_string shut_string)

theorem own : ownKnob Try.prog.godebug = none := by kernel_rfl
theorem laidOut : laidOutB Try.prog = true := by kernel_rfl

namespace Bulk
theorem one_le {H : Type} (d : DataW H) : 1 ≤ Rows.uptoBulk d := by
  cases d with
  | lit l => cases l <;> simp [Rows.uptoBulk]
  | nil => simp [Rows.uptoBulk]
  | ptr d => simp [Rows.uptoBulk]
  | slice elems spare => simp [Rows.uptoBulk]
  | agg parts => simp [Rows.uptoBulk]
  | iface t d => simp [Rows.uptoBulk]
  | map entries => simp [Rows.uptoBulk]
  | held h => simp [Rows.uptoBulk]
theorem length_le {H : Type} (l : List (DataW H)) : l.length ≤ Rows.uptoBulkAll l := by
  induction l with
  | nil => simp [Rows.uptoBulkAll]
  | cons x r ih => have := one_le x; simp only [Rows.uptoBulkAll, List.length_cons]; omega
theorem sum_le {H : Type} {α : Type} (f : α → Nat) (g : α → DataW H) : ∀ l : List α, (∀ a ∈ l, f a ≤ Rows.uptoBulk (g a)) → (l.map f).sum ≤ Rows.uptoBulkAll (l.map g)
  | [], _ => by simp [Rows.uptoBulkAll]
  | a :: l, h => by
    have h1 := h a (by simp)
    have h2 := sum_le f g l fun b hb => h b (by simp [hb])
    simp only [List.map_cons, List.sum_cons, Rows.uptoBulkAll]
    omega
end Bulk

section
variable {H : Type} {enc : TypeId × Value → H} {W : World} {v : Value} {d : DataW H} {p : List MemPlace}

/-- a number as a byte -/
def toB (n : Int) : UInt8 := UInt8.ofNat n.toNat
theorem bv_toB {n : Int} (h : (Lit.int .u8 n).wf = true) : bv (toB n) = .int .u8 n := by
  have hx : 0 ≤ n ∧ n ≤ 255 := by simpa [Lit.wf, IntKind.min, IntKind.max, IntKind.signed, IntKind.bits] using h
  unfold bv toB
  congr 1
  rw [UInt8.toNat_ofNat']
  omega

theorem toB_int {n : Int} (h : (Lit.int .u8 n).wf = true) : n = ((toB n).toNat : Int) := by
  have := bv_toB h
  unfold bv at this
  injection this with _ h
  exact h.symm
theorem rdB_of_cells {a : Addr} {len cap : Nat} {zs : List Int} (hl : len ≤ cap) (hm : cap ≤ maxLen) (hz : len ≤ zs.length)
    (hcell : ∀ i, i < zs.length → W.cell? (a.add i) = some (.int .u8 (zs.getD i 0))) (hw : ∀ n ∈ zs, (Lit.int .u8 n).wf = true) :
    RdB W (fun k => k < W.heap.size) (.slice (some a) len cap) ((zs.take len).map toB) := by
  have e : ((zs.take len).map toB).length = len := by simp; omega
  refine RdB.mono (F := fun k => True ∧ k < W.heap.size) (RdB.lt ?_) fun k hk => hk.2
  unfold RdB RdV
  rw [e]
  refine ⟨by rw [bvs_length, e]; omega, some a, cap, rfl, hl, hm, fun _ => ⟨a, rfl, trivial, fun j u hu => ?_⟩⟩
  rw [bvs_get] at hu
  obtain ⟨b, hb, rfl⟩ := Option.map_eq_some_iff.1 hu
  rw [List.getElem?_map] at hb
  obtain ⟨n, hn, rfl⟩ := Option.map_eq_some_iff.1 hb
  rw [List.getElem?_take] at hn
  split at hn
  · have hj : j < zs.length := by omega
    rw [hcell j hj, bv_toB (hw n (List.mem_of_getElem? hn)), List.getD_eq_getElem?_getD, hn]
    rfl
  · cases hn

theorem rdU_of_cells {a : Addr} {len cap : Nat} {zs : List Int} (hl : len ≤ cap) (hm : cap ≤ maxLen) (hz : len ≤ zs.length)
    (hcell : ∀ i, i < zs.length → W.cell? (a.add i) = some (.int .u64 (zs.getD i 0))) (hw : ∀ n ∈ zs, (Lit.int .u64 n).wf = true) :
    RdU W (fun k => k < W.heap.size) (.slice (some a) len cap) ((zs.take len).map Int.toNat) := by
  have hx : ∀ n ∈ zs, 0 ≤ n ∧ n ≤ 18446744073709551615 := fun n hn => by simpa [Lit.wf, IntKind.min, IntKind.max, IntKind.signed, IntKind.bits] using hw n hn
  have e : ((zs.take len).map Int.toNat).length = len := by simp; omega
  refine ⟨fun n hn => ?_, RdV.mono (F := fun k => True ∧ k < W.heap.size) (RdV.lt ?_ (by omega)) fun k hk => hk.2⟩
  · obtain ⟨z, hz', rfl⟩ := List.mem_map.1 hn
    have := hx z (List.mem_of_mem_take hz')
    unfold U64; omega
  · unfold RdV
    rw [e]
    refine ⟨by rw [List.length_map, e]; omega, some a, cap, rfl, hl, hm, fun _ => ⟨a, rfl, trivial, fun j u hu => ?_⟩⟩
    rw [List.getElem?_map, List.getElem?_map] at hu
    obtain ⟨b, hb, rfl⟩ := Option.map_eq_some_iff.1 hu
    obtain ⟨n, hn, rfl⟩ := Option.map_eq_some_iff.1 hb
    rw [List.getElem?_take] at hn
    split at hn
    · have hj : j < zs.length := by omega
      have h0 := hx n (List.mem_of_getElem? hn)
      rw [hcell j hj, List.getD_eq_getElem?_getD, hn]
      simp only [Option.getD_some, uv]
      congr 2
      omega
    · cases hn

/-- what the sizes of a reading give: through the bulk, and through the form's own reach -/
def Sizes (n : Nat) (d : DataW H) : Prop := n + 1 ≤ Rows.uptoBulk d ∧ ∀ m, (∀ e s, d = .slice e s → e.length + s.length ≤ m) → n ≤ m

/-- a slice of bytes, by its reading -/
theorem open_b {fuel : Nat} {x : DataW H × List MemPlace} (h : DataW.trod enc Try.prog W 0 (fun _ => true) true fuel 26 [v] = some x) :
    ∃ l : List UInt8, RdB W (fun k => k < W.heap.size) v l ∧ Sizes l.length x.1 := by
  rcases open_ints Try.underlying26 Try.underlying5 (by kernel_rfl) h with ⟨hcs, hx⟩ | ⟨a, l, c, zs, hcs, _, hl, hm, hz, hx, hcell, hwz⟩
  · simp only [List.cons.injEq, and_true] at hcs
    subst hcs; subst hx
    exact ⟨[], RdB.nil_ _ _, by simp [Rows.uptoBulk], fun _ _ => Nat.zero_le _⟩
  · simp only [List.cons.injEq, and_true] at hcs
    subst hcs; subst hx
    refine ⟨_, rdB_of_cells hl hm (by simp at hz; omega) hcell hwz, ?_, fun m hm => ?_⟩
    · simp only [Rows.uptoBulk, List.length_map, List.length_take]
      have h1 := Bulk.length_le (lits (H := H) .u8 (zs.take l))
      simp only [lits, List.length_map, List.length_take] at h1 ⊢
      omega
    · have := hm _ _ rfl
      simp only [lits, List.length_map, List.length_take, List.length_drop] at this ⊢
      omega

set_option maxRecDepth 100000 in
theorem openB {base : Nat} (hv : Value.okWide Try.prog W .any base 26 v) (h : DataW.Trod enc Try.prog W 0 (fun _ => true) true 26 v d p) :
    ∃ l : List UInt8, RdB W (fun k => k < W.heap.size) v l ∧ Sizes l.length d := by
  obtain ⟨a, n, c, rfl⟩ := okWide_slice Try.underlying26 hv
  obtain ⟨fuel, hf⟩ := h
  exact open_b (x := (d, p)) hf

set_option maxRecDepth 100000 in
theorem openU {base : Nat} (hv : Value.okWide Try.prog W .any base 164 v) (h : DataW.Trod enc Try.prog W 0 (fun _ => true) true 164 v d p) :
    ∃ l : List Nat, RdU W (fun k => k < W.heap.size) v l ∧ Sizes l.length d := by
  obtain ⟨a, n, c, rfl⟩ := okWide_slice Try.underlying164 hv
  obtain ⟨fuel, hf⟩ := h
  rcases open_ints Try.underlying164 Try.underlying22 (by kernel_rfl) hf with ⟨hcs, hx⟩ | ⟨a, l, c, zs, hcs, _, hl, hm, hz, hx, hcell, hwz⟩
  · simp only [Value.cells, List.cons.injEq, and_true] at hcs
    simp only [Prod.mk.injEq] at hx
    rw [hcs, hx.1]
    exact ⟨[], ⟨by simp, RdV.nil_ _ _ _⟩, by simp [Rows.uptoBulk], fun _ _ => Nat.zero_le _⟩
  · simp only [Value.cells, List.cons.injEq, and_true] at hcs
    simp only [Prod.mk.injEq] at hx
    rw [hcs, hx.1]
    have hz' : l ≤ zs.length := by simp at hz; omega
    refine ⟨(zs.take l).map Int.toNat, rdU_of_cells hl hm hz' hcell hwz, ?_, fun m hm => ?_⟩
    · simp only [Rows.uptoBulk, List.length_map, List.length_take]
      have h1 := Bulk.length_le (lits (H := H) .u64 (zs.take l))
      simp only [lits, List.length_map, List.length_take] at h1 ⊢
      omega
    · have := hm _ _ rfl
      simp only [lits, List.length_map, List.length_take, List.length_drop] at this ⊢
      omega
end
end Go.Proofs.Ytncchbcoldgpbaa

namespace Go.Proofs.Ytncchbcoldgpbaa
open Go.ChangeShapes Go.WideShapes Go.ChangeAt Go.RowKit Go.Deep
set_option linter.unusedVariables false

/-- the slice value v reads as the ints l -/
def RdI (w : World) (F : Nat → Prop) (v : Value) (l : List Int) : Prop := RdV w F 1 v l.length (l.map fun n => .int .i64 n)
section
variable {w w' : World} {F F' S : Nat → Prop} {v : Value} {l : List Int}
theorem RdI.chg (h : RdI w F v l) (hc : Chg S w w') (hF : ∀ k, F k → ¬ S k) : RdI w' F v l := RdV.chg h hc hF
theorem RdI.c0 (h : RdI w F v l) (hc : Chg Non w w') : RdI w' F v l := RdV.chg h hc fun _ _ h => h
theorem RdI.shape (h : RdI w F v l) : ∃ A c, v = .slice A l.length c ∧ l.length ≤ c ∧ c ≤ maxLen := RdV.shape h
theorem RdI.at_ {A : Option Addr} {n c : Nat} (h : RdI w F (.slice A n c) l) {k : Nat} (hk : k < l.length) :
    ∃ ad, A = some ad ∧ F ad.block ∧ w.cell? (ad.add k) = some (.int .i64 l[k]) := by
  obtain ⟨A', c', e, _, _⟩ := RdV.shape h
  injection e with e1 e2 e3
  subst e1; subst e2; subst e3
  obtain ⟨ad, u, hA, hf, hu, hc⟩ := RdV.at_ h hk (i := 0) (by omega)
  refine ⟨ad, hA, hf, ?_⟩
  simp only [Nat.mul_one, Nat.add_zero] at hu hc
  rw [List.getElem?_map, List.getElem?_eq_getElem hk] at hu
  rw [hc, ← hu]
  rfl
theorem RdI.front {A : Option Addr} {n c j : Nat} (h : RdI w F (.slice A n c) l) (hj : j ≤ l.length) : RdI w F (.slice A j c) (l.take j) := by
  obtain ⟨A', c', e, hc, hm⟩ := RdV.shape h
  injection e with e1 e2 e3
  subst e1; subst e2; subst e3
  obtain ⟨h1, A2, c2, e, _, _, h2⟩ := h
  injection e with e1 e2 e3
  subst e1; subst e3
  have el : (l.take j).length = j := by simp; omega
  unfold RdI RdV
  rw [el]
  refine ⟨by simp; omega, A, c, rfl, by omega, hm, fun hn => ?_⟩
  obtain ⟨ad, rfl, hf, hcell⟩ := h2 (by omega)
  refine ⟨ad, rfl, hf, fun i u hu => hcell i u ?_⟩
  rw [List.getElem?_map, List.getElem?_take] at hu
  rw [List.getElem?_map]
  split at hu
  · exact hu
  · cases hu
end

section
variable {H : Type} {enc : TypeId × Value → H} {W : World} {v : Value} {d : DataW H} {p : List MemPlace}
set_option maxRecDepth 100000 in
theorem openI {base : Nat} (hv : Value.okWide Try.prog W .any base 127 v) (h : DataW.Trod enc Try.prog W 0 (fun _ => true) true 127 v d p) :
    ∃ l : List Int, RdI W (fun k => k < W.heap.size) v l ∧ Sizes l.length d := by
  obtain ⟨a, n, c, rfl⟩ := okWide_slice Try.underlying127 hv
  obtain ⟨fuel, hf⟩ := h
  rcases open_ints Try.underlying127 Try.underlying3 (by kernel_rfl) hf with ⟨hcs, hx⟩ | ⟨a, l, c, zs, hcs, _, hl, hm, hz, hx, hcell, hwz⟩
  · simp only [Value.cells, List.cons.injEq, and_true] at hcs
    simp only [Prod.mk.injEq] at hx
    rw [hcs, hx.1]
    exact ⟨[], RdV.nil_ _ _ _, by simp [Rows.uptoBulk], fun _ _ => Nat.zero_le _⟩
  · simp only [Value.cells, List.cons.injEq, and_true] at hcs
    simp only [Prod.mk.injEq] at hx
    rw [hcs, hx.1]
    have hz' : l ≤ zs.length := by simp at hz; omega
    have e : (zs.take l).length = l := by simp; omega
    refine ⟨zs.take l, RdV.mono (F := fun k => True ∧ k < W.heap.size) (RdV.lt ?_ (by omega)) fun k hk => hk.2, ?_, fun m hm => ?_⟩
    · unfold RdV
      rw [e]
      refine ⟨by rw [List.length_map, e]; omega, some a, c, rfl, hl, hm, fun _ => ⟨a, rfl, trivial, fun j u hu => ?_⟩⟩
      rw [List.getElem?_map] at hu
      obtain ⟨n, hn, rfl⟩ := Option.map_eq_some_iff.1 hu
      rw [List.getElem?_take] at hn
      split at hn
      · have hj : j < zs.length := by omega
        rw [hcell j hj, List.getD_eq_getElem?_getD, hn]
        rfl
      · cases hn
    · simp only [Rows.uptoBulk, List.length_take]
      have h1 := Bulk.length_le (lits (H := H) .i64 (zs.take l))
      simp only [lits, List.length_map, List.length_take] at h1 ⊢
      omega
    · have := hm _ _ rfl
      simp only [lits, List.length_map, List.length_take, List.length_drop] at this ⊢
      omega
end
end Go.Proofs.Ytncchbcoldgpbaa
