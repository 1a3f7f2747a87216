/- Changes that come in: a place and a byte each. -/
import Derived.Test.YtncchbcoldgpbaaOpM
import Derived.Test.YtncchbcoldgpbaaPyM
import Derived.Deep.SlicePairs
namespace Go.Proofs.Ytncchbcoldgpbaa
open Go.ChangeShapes Go.WideShapes Go.ChangeAt Go.RowKit Go.Deep
set_option linter.unusedVariables false
/-- the slice value v reads as changes: a place and what is added -/
def RdC (w : World) (F : Nat → Prop) (v : Value) (l : List (Int × UInt8)) : Prop := RdV w F 2 v l.length (l.flatMap fun x => [.int .i64 x.1, bv x.2])
theorem flatC_get {α : Type} (f g : α → Value) : ∀ (l : List α) (k : Nat) (h : k < l.length), (l.flatMap fun x => [f x, g x])[k * 2]? = some (f l[k]) ∧ (l.flatMap fun x => [f x, g x])[k * 2 + 1]? = some (g l[k])
  | x :: l, 0, _ => by simp
  | x :: l, k + 1, h => by
    have := flatC_get f g l k (by simpa using h)
    simp only [List.flatMap_cons, List.getElem_cons_succ]
    rw [show (k + 1) * 2 = k * 2 + 1 + 1 by omega]
    exact this
theorem flatC_take {α : Type} (f g : α → Value) : ∀ (l : List α) (j : Nat), ((l.take j).flatMap fun x => [f x, g x]) = (l.flatMap fun x => [f x, g x]).take (j * 2)
  | [], j => by simp
  | x :: l, 0 => by simp
  | x :: l, j + 1 => by
    rw [List.take_succ_cons, List.flatMap_cons, List.flatMap_cons, flatC_take f g l j, show (j + 1) * 2 = j * 2 + 1 + 1 by omega]; rfl
theorem RdC.at_ {w : World} {F : Nat → Prop} {A : Option Addr} {n c : Nat} {l : List (Int × UInt8)} (h : RdC w F (.slice A n c) l) {k : Nat} (hk : k < l.length) :
    ∃ ad, A = some ad ∧ F ad.block ∧ w.cell? (ad.add (k * 2)) = some (.int .i64 l[k].1) ∧ w.cell? (ad.add (k * 2 + 1)) = some (.int .u8 (l[k].2.toNat : Int)) := by
  obtain ⟨A', c', e, _, _⟩ := RdV.shape h
  injection e with e1 e2 e3
  subst e1; subst e2; subst e3
  obtain ⟨h1, h2⟩ := flatC_get (fun x : Int × UInt8 => Value.int .i64 x.1) (fun x => bv x.2) l k hk
  obtain ⟨ad, hA, hf, hc⟩ := RdV.cells h (by omega)
  exact ⟨ad, hA, hf, hc _ _ h1, hc _ _ h2⟩
theorem RdC.chg {w w' : World} {F S : Nat → Prop} {v : Value} {l : List (Int × UInt8)} (h : RdC w F v l) (hc : Chg S w w') (hF : ∀ k, F k → ¬ S k) : RdC w' F v l := RdV.chg h hc hF
theorem RdC.c0 {w w' : World} {F : Nat → Prop} {v : Value} {l : List (Int × UInt8)} (h : RdC w F v l) (hc : Chg Non w w') : RdC w' F v l := RdV.chg h hc fun _ _ h => h
theorem RdC.shape {w : World} {F : Nat → Prop} {v : Value} {l : List (Int × UInt8)} (h : RdC w F v l) : ∃ A c, v = .slice A l.length c ∧ l.length ≤ c ∧ c ≤ maxLen := RdV.shape h
theorem RdC.front {w : World} {F : Nat → Prop} {A : Option Addr} {n c j : Nat} {l : List (Int × UInt8)} (h : RdC w F (.slice A n c) l) (hj : j ≤ l.length) : RdC w F (.slice A j c) (l.take j) := by
  obtain ⟨A', c', e, hc, hm⟩ := RdV.shape h
  injection e with e1 e2 e3
  subst e1; subst e2; subst e3
  obtain ⟨h1, A2, c2, e, _, _, h2⟩ := h
  injection e with e1 e2 e3
  subst e1; subst e3
  have el : (l.take j).length = j := by simp; omega
  have ef := flatC_take (fun x : Int × UInt8 => Value.int .i64 x.1) (fun x => bv x.2) l j
  unfold RdC RdV
  rw [el, ef]
  refine ⟨by rw [List.length_take, h1]; omega, A, c, rfl, by omega, hm, fun hn => ?_⟩
  obtain ⟨ad, rfl, hf, hcell⟩ := h2 (by omega)
  refine ⟨ad, rfl, hf, fun i u hu => hcell i u ?_⟩
  rw [List.getElem?_take] at hu
  split at hu
  · exact hu
  · cases hu
theorem flatMap_ext {α β : Type} {f g : α → List β} : ∀ (l : List α), (∀ a ∈ l, f a = g a) → l.flatMap f = l.flatMap g
  | [], _ => rfl
  | a :: l, h => by rw [List.flatMap_cons, List.flatMap_cons, h a (by simp), flatMap_ext l fun b hb => h b (by simp [hb])]
theorem flatC_length {α : Type} (f g : α → Value) : ∀ l : List α, (l.flatMap fun x => [f x, g x]).length = l.length * 2
  | [] => rfl
  | a :: l => by rw [List.flatMap_cons, List.length_append, flatC_length f g l, List.length_cons]; simp; omega

section
variable {H : Type} {enc : TypeId × Value → H} {W : World} {v : Value} {d : DataW H} {p : List MemPlace}
set_option maxRecDepth 100000 in
theorem openCh {base : Nat} (hv : Value.okWide Try.prog W .any base 72 v) (h : DataW.Trod enc Try.prog W 0 (fun _ => true) true 72 v d p) :
    ∃ l : List (Int × UInt8), RdC W (fun k => k < W.heap.size) v l ∧ Sizes l.length d := by
  obtain ⟨a, n, c, rfl⟩ := okWide_slice Try.underlying72 hv
  obtain ⟨fuel, hf⟩ := h
  rcases open_slice_pairs Try.underlying72 Try.underlying74 (by kernel_rfl) rfl rfl (by kernel_rfl) (by kernel_rfl) hf with ⟨hcs, hx⟩ | ⟨a, len, cap, m, k, V0, V1, D0, D1, P0, P1, hcs, _, hl, hm, hmm, hx, hi⟩
  · simp only [Value.cells, List.cons.injEq, and_true] at hcs
    simp only [Prod.mk.injEq] at hx
    rw [hcs, hx.1]
    exact ⟨[], RdV.nil_ _ _ _, by simp [Rows.uptoBulk], fun _ _ => Nat.zero_le _⟩
  · simp only [Value.cells, List.cons.injEq, and_true] at hcs
    simp only [Prod.mk.injEq] at hx
    rw [hcs, hx.1]
    have hlm : len ≤ m := by rw [hmm]; split <;> omega
    have hV : ∀ i, i < m → V0 i = .int .i64 (intOf (V0 i)) ∧ V1 i = bv (toB (intOf (V1 i))) := fun i h => by
      obtain ⟨_, _, h0, h1⟩ := hi i h
      obtain ⟨x, e0, _, _⟩ := DataW.trod_int Try.underlying3 h0
      obtain ⟨y, e1, _, wy⟩ := DataW.trod_int Try.underlying5 h1
      simp only [List.cons.injEq, and_true] at e0 e1
      rw [e0, e1]
      exact ⟨rfl, (bv_toB wy).symm⟩
    refine ⟨(List.range len).map fun i => (intOf (V0 i), toB (intOf (V1 i))), ?_, ?_, fun q hq => ?_⟩
    · refine RdV.mono (F := fun k => True ∧ k < W.heap.size) (RdV.lt ?_ (by omega)) fun k hk => hk.2
      have el : ((List.range len).map fun i => (intOf (V0 i), toB (intOf (V1 i)))).length = len := by simp
      have hfl : ((List.range len).map fun i => (intOf (V0 i), toB (intOf (V1 i)))).flatMap (fun x => [Value.int .i64 x.1, bv x.2]) = (List.range len).flatMap fun i => [V0 i, V1 i] := by
        rw [List.flatMap_map]
        refine flatMap_ext _ fun i h => ?_
        obtain ⟨h0, h1⟩ := hV i (by have := List.mem_range.1 h; omega)
        rw [← h0, ← h1]
      unfold RdV
      rw [el, hfl]
      have hlen : ((List.range len).flatMap fun i => [V0 i, V1 i]).length = len * 2 := by rw [flatC_length, List.length_range]
      refine ⟨hlen, some a, cap, rfl, hl, hm, fun _ => ⟨a, rfl, trivial, fun j u hu => ?_⟩⟩
      have hj : j < len * 2 := by rw [← hlen]; exact (List.getElem?_eq_some_iff.1 hu).1
      obtain ⟨e1, e2⟩ := flatC_get V0 V1 (List.range len) (j / 2) (by simp; omega)
      obtain ⟨c0, c1, _, _⟩ := hi (j / 2) (by omega)
      simp only [List.getElem_range] at e1 e2
      rcases Nat.mod_two_eq_zero_or_one j with h | h
      · have e : j / 2 * 2 = j := by omega
        rw [e] at e1 c0
        rw [e1] at hu; injection hu with hu; rw [← hu]; exact c0
      · have e : j / 2 * 2 + 1 = j := by omega
        rw [e] at e2 c1
        rw [e2] at hu; injection hu with hu; rw [← hu]; exact c1
    · simp only [Rows.uptoBulk, List.length_map, List.length_range]
      have h1 := Bulk.length_le ((List.range len).map fun i => DataW.agg [D0 i, D1 i])
      simp only [List.length_map, List.length_range] at h1
      omega
    · have := hq _ _ rfl
      simp only [List.length_map, List.length_range] at this ⊢
      omega
end
end Go.Proofs.Ytncchbcoldgpbaa
