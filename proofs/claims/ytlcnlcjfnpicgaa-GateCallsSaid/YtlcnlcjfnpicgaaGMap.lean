/- A map from shard numbers to places, as a list of what stands there. Plain theorems, no walk. -/
import Derived.Test.YtlcnlcjfnpicgaaProg
import Derived.Test.YtlcnlcjfnpicgaaWords
import Derived.Maps.Own
import Derived.Maps.OwnSet
import Derived.Maps.Views
namespace Go.Proofs.Ytlcnlcjfnpicgaa
open Go.RowKit Go.Maps

theorem keyI : Keyed Try.prog 3 := int_keyed Try.underlying3
theorem zeroU (w : World) : (zeroValue 26).run Try.prog w = .ok (.int .u64 0) w := by kernel_rfl
def mh (ms : List (Option Nat)) (i : Nat) : Bool := ((ms[i]?).getD none).isSome
def mv (ms : List (Option Nat)) (i : Nat) : Nat := ((ms[i]?).getD none).getD 0
def cnt : List (Option Nat) → Nat
  | [] => 0
  | none :: r => cnt r
  | some _ :: r => cnt r + 1
theorem cnt_le : ∀ ms, cnt ms ≤ ms.length
  | [] => Nat.le_refl _
  | none :: r => by have := cnt_le r; simp only [cnt, List.length_cons]; omega
  | some _ :: r => by have := cnt_le r; simp only [cnt, List.length_cons]; omega
theorem cnt_set : ∀ (ms : List (Option Nat)) (i x : Nat), i < ms.length → mh ms i = false → cnt (ms.set i (some x)) = cnt ms + 1
  | [], i, x, h, _ => by simp at h
  | none :: r, 0, x, _, _ => rfl
  | some _ :: r, 0, x, _, h => by simp [mh] at h
  | none :: r, i + 1, x, h, hm => by
    rw [List.set_cons_succ]; exact cnt_set r i x (by simpa using h) (by simpa [mh] using hm)
  | some _ :: r, i + 1, x, h, hm => by
    rw [List.set_cons_succ, cnt, cnt, cnt_set r i x (by simpa using h) (by simpa [mh] using hm)]
theorem cnt_none (n : Nat) : cnt (List.replicate n none) = 0 := by
  induction n with
  | zero => rfl
  | succ n ih => rw [List.replicate_succ, cnt, ih]
theorem cnt_full : ∀ ms, cnt ms = ms.length ↔ ∀ i, i < ms.length → mh ms i = true
  | [] => by simp [cnt]
  | none :: r => by
    constructor
    · intro h; have := cnt_le r; simp only [cnt, List.length_cons] at h; omega
    · intro h; have h0 := h 0 (by simp); simp [mh] at h0
  | some x :: r => by
    rw [cnt, List.length_cons, Nat.add_right_cancel_iff, cnt_full r]
    constructor
    · intro h i hi
      cases i with
      | zero => rfl
      | succ i => have h1 := h i (by simpa using hi); simpa [mh] using h1
    · intro h i hi
      have h1 := h (i + 1) (by simpa using hi)
      simpa [mh] using h1
theorem mh_set_same (ms : List (Option Nat)) (i x : Nat) (h : i < ms.length) : mh (ms.set i (some x)) i = true := by simp [mh, h]
theorem mv_set_same (ms : List (Option Nat)) (i x : Nat) (h : i < ms.length) : mv (ms.set i (some x)) i = x := by simp [mv, h]
theorem mh_set_other (ms : List (Option Nat)) (i j x : Nat) (h : j ≠ i) : mh (ms.set i (some x)) j = mh ms j := by
  unfold mh; rw [List.getElem?_set_ne (Ne.symm h)]
theorem mv_set_other (ms : List (Option Nat)) (i j x : Nat) (h : j ≠ i) : mv (ms.set i (some x)) j = mv ms j := by
  unfold mv; rw [List.getElem?_set_ne (Ne.symm h)]

def kI (i : Nat) : Lit := .int .i64 (i : Int)
theorem wf_i {i : Nat} (h : i ≤ 1000000) : (Lit.int .i64 (i : Int)).wf = true := by
  have hmin : IntKind.i64.min = -9223372036854775808 := rfl
  have hmax : IntKind.i64.max = 9223372036854775807 := rfl
  simp [Lit.wf, hmin, hmax]; omega
theorem wf_u {n : Nat} (h : U64 n) : (Lit.int .u64 (n : Int)).wf = true := by
  unfold U64 at h
  have hmin : IntKind.u64.min = 0 := rfl
  have hmax : IntKind.u64.max = 18446744073709551615 := rfl
  simp [Lit.wf, hmin, hmax]; omega
theorem keyAt {i : Nat} (h : i ≤ 1000000) : keyOf Try.prog 3 (.int .i64 (i : Int)) = some (kI i) := keyOf_int_mk Try.underlying3 (wf_i h)
theorem kI_ne {i j : Nat} (h : j ≠ i) : kI j ≠ kI i := fun e => by
  unfold kI at e
  injection e with _ e
  omega

/-- block B is a map that holds, at each number, what ms has there -/
def GMap (w : World) (B : Nat) (ms : List (Option Nat)) : Prop :=
  ∃ D : DataW Unit, w.ownsMap Try.prog 3 (plainElem Try.prog 26) B (cnt ms) D ∧ Maps.size D = cnt ms ∧ Tidy D ∧
    ∀ i, i < ms.length → Maps.has D (kI i) = mh ms i ∧ D.atKey (kI i) (.lit (.int .u64 0)) = .lit (.int .u64 (mv ms i : Int))
section
variable {w w' : World} {S : Nat → Prop} {B : Nat} {ms : List (Option Nat)}
theorem GMap.chg (h : GMap w B ms) (hc : Chg S w w') (hB : ¬ S B) : GMap w' B ms := by
  obtain ⟨D, ⟨es, clock, hb, F, hs, hD⟩, h2⟩ := h
  exact ⟨D, ⟨es, clock, hc.heap hb hB, F, hs, hD⟩, h2⟩
theorem GMap.lt (h : GMap w B ms) : B < w.heap.size := by
  obtain ⟨D, h1, _⟩ := h
  exact h1.lt
theorem GMap.new (w : World) (n : Nat) : GMap (w.alloc (.map #[] 0)) w.heap.size (List.replicate n none) := by
  have h := World.ownsMap_made (H := Unit) w Try.prog 3 (plainElem Try.prog 26)
  refine ⟨.map [], by rw [cnt_none]; exact h, by rw [cnt_none]; rfl, tidy_empty, fun i hi => ?_⟩
  have e : (List.replicate n (none : Option Nat))[i]? = some none := by simp at hi; simp [hi]
  exact ⟨by rw [mh, e]; rfl, by rw [mv, e]; rfl⟩
theorem GMap.len (h : GMap w B ms) (ty : TypeId) : (Builtin.len_ #[61] ty #[.map (some B)]).run Try.prog w = .ok (.int .i64 (cnt ms : Int)) w := by
  obtain ⟨D, h1, h2, _⟩ := h
  rw [h1.len Try.underlying61 ty, h2]
theorem GMap.look (h : GMap w B ms) {i : Nat} (hi : i < ms.length) (hb : i ≤ 1000000) : (Instr.lookup 61 (.map (some B)) (.int .i64 (i : Int)) true).run Try.prog w = .ok (.tuple #[.int .u64 (mv ms i : Int), .bool (mh ms i)]) w := by
  obtain ⟨D, h1, _, _, h4⟩ := h
  obtain ⟨e1, e2⟩ := h4 i hi
  obtain ⟨v, ps, hr, hv⟩ := h1.look_ok keyI Try.underlying61 (zeroU w) (plainElem_int Try.underlying26 (by decide)) (keyAt hb)
  rw [e1] at hr
  rw [e2] at hv
  obtain ⟨a, rfl, hz, _⟩ := plainElem_int_inv Try.underlying26 hv
  injection hz with hz _
  injection hz with hz
  injection hz with _ hz
  rw [hr, hz]
theorem GMap.look0 (h : GMap w B ms) {i : Nat} (hi : i < ms.length) (hb : i ≤ 1000000) : (Instr.lookup 61 (.map (some B)) (.int .i64 (i : Int)) false).run Try.prog w = .ok (.int .u64 (mv ms i : Int)) w := by
  obtain ⟨D, h1, _, _, h4⟩ := h
  obtain ⟨e1, e2⟩ := h4 i hi
  obtain ⟨c, hr, hat, _⟩ := h1.lookup_int keyI Try.underlying61 Try.underlying26 (zeroU w) (keyAt hb)
  rw [hr]
  have hh := e2.symm.trans hat
  injection hh with hh
  injection hh with _ hh
  rw [hh]
theorem GMap.store (h : GMap w B ms) {i x : Nat} (hi : i < ms.length) (hb : i ≤ 1000000) (hl : ms.length ≤ 1000000) (hx : U64 x) (hn : mh ms i = false) :
    ∃ w', (Instr.mapUpdate 61 (.map (some B)) (.int .i64 (i : Int)) (.int .u64 (x : Int))).run Try.prog w = .ok () w' ∧ GMap w' B (ms.set i (some x)) ∧ Chg (fun k => k = B) w w' := by
  obtain ⟨D, h1, h2, h3, h4⟩ := h
  have hc := cnt_le ms
  obtain ⟨w', hr, ho, ht⟩ := h1.store keyI Try.underlying61 (by simp only [maxLen]; omega) (keyAt hb) (plainElem_int Try.underlying26 (wf_u hx))
  have hg := ht.grown
  have hk : WideAt.IsKeyLit (kI i) := trivial
  have hce := cnt_set ms i x hi hn
  refine ⟨w', hr, ⟨_, by rw [hce]; exact ho, ?_, h3.put hk _, fun j hj => ?_⟩, ⟨hg.os, hg.tape, hg.output, hg.size, fun k hk hn => hg.block k hk fun e => hn (by injection e)⟩⟩
  · rw [size_put h3, (h4 i hi).1, hn, h2, hce]; rfl
  · rw [List.length_set] at hj
    by_cases hji : j = i
    · subst hji
      rw [has_put_same h3.isMap hk, atKey_put_same h3.isMap hk, mh_set_same ms j x hi, mv_set_same ms j x hi]
      exact ⟨rfl, rfl⟩
    · rw [has_put_other (kI_ne hji), atKey_put_other (kI_ne hji), mh_set_other _ _ _ _ hji, mv_set_other _ _ _ _ hji]
      exact h4 j hj
end
end Go.Proofs.Ytlcnlcjfnpicgaa
