/- Two lists of lists that a call makes side by side. Plain theorems. -/
import Derived.Test.YtliimeoblffigaaGreatLfDG
import Derived.Test.YtliimeoblffigaaGreatPackAG
import Derived.Test.YtliimeoblffigaaGreatRows
import Derived.Test.YtliimeoblffigaaGreatDgAG
import Derived.ProofKit
import Derived.OpenShut
import Derived.ShutString
import Derived.ChangeOld
import Derived.JoinedCond
import Derived.SizedLaws
import Derived.Deep.Slices
import Derived.Lib.SlicesS
set_option linter.unusedVariables false
set_option linter.unusedSimpArgs false
set_option maxRecDepth 100000
namespace Go.Proofs.YtliimeoblffigaaGreat
open Go.RowKit
set_option linter.unusedVariables false

theorem sizeAl' (w : World) (o : Obj) : (w.alloc o).heap.size = w.heap.size + 1 := Array.size_push ..
theorem OwnBB.fit {w : World} {base : Nat} {F : Nat → Prop} {v : Value} {ll : List (List UInt8)} (h : OwnBB w base F v ll) : OwnBB w base (fun b => F b ∧ b < w.heap.size) v ll := by
 obtain ⟨vs, h1, h2, h3⟩ := h
 exact ⟨vs, h1, h2, fun k x l hx hl => (h3 k x l hx hl).mono fun b hb => ⟨⟨hb.1, hb.2.1⟩, hb.2⟩⟩
theorem OwnBB.shapeH {w : World} {base : Nat} {F : Nat → Prop} {v : Value} {ll : List (List UInt8)} (h : OwnBB w base F v ll) : ∃ A n c, v = .slice A n c := by
 obtain ⟨A, c, e, _⟩ := h.shape
 exact ⟨A, _, c, e⟩
/-- two lists of lists, each owned by the call, apart from each other -/
structure Two (w : World) (base : Nat) (kv vv : Value) (ks vs : List (List UInt8)) : Prop where
 k : OwnBB w base (fun b => base ≤ b ∧ vv.ownBlock ≠ some b) kv ks
 v : OwnBB w base (fun b => base ≤ b ∧ kv.ownBlock ≠ some b) vv vs
 ne : ∀ b, kv.ownBlock = some b → vv.ownBlock ≠ some b
section
variable {w w' : World} {base : Nat} {kv vv kv' vv' : Value} {ks vs : List (List UInt8)} {S : Nat → Prop} {l : List UInt8}
theorem Two.nil_ (w : World) (base : Nat) : Two w base (.slice none 0 0) (.slice none 0 0) [] [] := ⟨OwnBB.nil_ .., OwnBB.nil_ .., fun b e => by cases e⟩
theorem Two.chg (h : Two w base kv vv ks vs) (hc : Chg S w w') (hS : ∀ b, base ≤ b → ¬ S b) : Two w' base kv vv ks vs :=
 ⟨h.k.chg hc (fun b hb => hS b (h.k.lt b hb).1) fun b hb => hS b hb.1, h.v.chg hc (fun b hb => hS b (h.v.lt b hb).1) fun b hb => hS b hb.1, h.ne⟩
theorem Two.c0 (h : Two w base kv vv ks vs) (hc : Chg Non w w') : Two w' base kv vv ks vs := h.chg hc fun _ _ h => h
/-- a list of bytes just made may be put into either -/
theorem Two.fresh {u : Value} {w1 : World} (h : Two w1 base kv vv ks vs) (hu : OwnB w w1.heap.size u l) (hb : base ≤ w1.heap.size) :
  RdB w (fun b => (base ≤ b ∧ vv.ownBlock ≠ some b) ∧ b < w.heap.size ∧ kv.ownBlock ≠ some b) u l ∧ RdB w (fun b => (base ≤ b ∧ kv.ownBlock ≠ some b) ∧ b < w.heap.size ∧ vv.ownBlock ≠ some b) u l := by
 have h1 : ∀ b, u.ownBlock = some b → base ≤ b ∧ b < w.heap.size ∧ kv.ownBlock ≠ some b ∧ vv.ownBlock ≠ some b := fun b hb' => by
  have h2 := hu.lt b hb'
  exact ⟨by omega, h2.2, fun e => by have := h.k.lt b e; omega, fun e => by have := h.v.lt b e; omega⟩
 exact ⟨hu.rd.mono fun b hb' => ⟨⟨(h1 b hb').1, (h1 b hb').2.2.2⟩, (h1 b hb').2.1, (h1 b hb').2.2.1⟩, hu.rd.mono fun b hb' => ⟨⟨(h1 b hb').1, (h1 b hb').2.2.1⟩, (h1 b hb').2.1, (h1 b hb').2.2.2⟩⟩
theorem Two.putK (h : Two w base kv vv ks vs) (hk : OwnBB w' base (fun b => base ≤ b ∧ vv.ownBlock ≠ some b) kv' (ks ++ [l])) (hg : w.grownBy w' kv.ownBlock) (hat : kv'.ownBlock = kv.ownBlock ∨ kv'.ownBlock = some w.heap.size) : Two w' base kv' vv (ks ++ [l]) vs := by
 have hc := Chg.of_grown hg
 refine ⟨hk, ((h.v.fit.chg hc (fun b hb e => h.ne b e.symm hb) fun b hb e => hb.1.2 e.symm).mono fun b hb => ⟨hb.1.1, fun e => ?_⟩), fun b hb e => ?_⟩
 ·rcases hat with hat | hat
  ·exact hb.1.2 (hat ▸ e)
  ·rw [hat] at e; injection e with e; have := hb.2; omega
 ·rcases hat with hat | hat
  ·exact h.ne b (hat ▸ hb) e
  ·rw [hat] at hb; injection hb with hb; have := h.v.lt b e; omega
theorem Two.putV (h : Two w base kv vv ks vs) (hv : OwnBB w' base (fun b => base ≤ b ∧ kv.ownBlock ≠ some b) vv' (vs ++ [l])) (hg : w.grownBy w' vv.ownBlock) (hat : vv'.ownBlock = vv.ownBlock ∨ vv'.ownBlock = some w.heap.size) : Two w' base kv vv' ks (vs ++ [l]) := by
 have hc := Chg.of_grown hg
 refine ⟨((h.k.fit.chg hc (fun b hb e => h.ne b hb e.symm) fun b hb e => hb.1.2 e.symm).mono fun b hb => ⟨hb.1.1, fun e => ?_⟩), hv, fun b hb e => ?_⟩
 ·rcases hat with hat | hat
  ·exact hb.1.2 (hat ▸ e)
  ·rw [hat] at e; injection e with e; have := hb.2; omega
 ·rcases hat with hat | hat
  ·exact h.ne b hb (hat ▸ e)
  ·rw [hat] at e; injection e with e; have := h.k.lt b hb; omega
theorem Two.rdK (h : Two w base kv vv ks vs) : RdBB w (fun b => base ≤ b ∧ b < w.heap.size) kv ks := h.k.rd.mono fun b hb => ⟨by
 rcases hb.1 with h1 | h1
 ·exact h1.1
 ·exact (h.k.lt b h1).1, hb.2⟩
theorem Two.rdV (h : Two w base kv vv ks vs) : RdBB w (fun b => base ≤ b ∧ b < w.heap.size) vv vs := h.v.rd.mono fun b hb => ⟨by
 rcases hb.1 with h1 | h1
 ·exact h1.1
 ·exact (h.v.lt b h1).1, hb.2⟩
end
end Go.Proofs.YtliimeoblffigaaGreat

set_option maxRecDepth 100000
namespace Go.Proofs.YtliimeoblffigaaGreat
open Go.RowKit

theorem info_int : (Tryz.prog.info? 3).map (fun i => (i.zero, i.size, i.bytes)) = some (some (.int .i64 0), 1, 8) := by kernel_rfl
def ivs (l : List Int) : List Value := l.map fun n => .int .i64 n
/-- the slice value v, made by the call, owns the ints l -/
def OwnI (w : World) (base : Nat) (v : Value) (l : List Int) : Prop := w.ownsRow base 3 1 v l.length (ivs l)
section
variable {w w' : World} {S : Nat → Prop} {v : Value} {l : List Int} {base : Nat}
theorem OwnI.lt (h : OwnI w base v l) : ∀ k, v.ownBlock = some k → base ≤ k ∧ k < w.heap.size := World.ownsRow.lt h
theorem OwnI.chg (h : OwnI w base v l) (hc : Chg S w w') (hn : ∀ k, v.ownBlock = some k → ¬ S k) : OwnI w' base v l := by
 refine ⟨h.1, ?_⟩
 rcases h.2 with hn' | ⟨g, cap, cur, rfl, hb, hg, rest⟩
 ·exact .inl hn'
 ·exact .inr ⟨g, cap, cur, rfl, hb, hc.heap hg (hn g rfl), rest⟩
theorem OwnI.c0 (h : OwnI w base v l) (hc : Chg Non w w') : OwnI w' base v l := h.chg hc fun _ _ h => h
theorem OwnI.shape (h : OwnI w base v l) : ∃ A c, v = .slice A l.length c ∧ l.length ≤ c ∧ c ≤ maxLen := (RdV.of_own h).shape
theorem OwnI.at_ (h : OwnI w base v l) {k : Nat} (hk : k < l.length) : ∃ g c, v = .slice (some ⟨g, 0, none⟩) l.length c ∧ base ≤ g ∧ w.cell? ⟨g, k, none⟩ = some (.int .i64 l[k]) := by
 rcases h.2 with ⟨rfl, e⟩ | ⟨g, cap, cur, rfl, hb, hg, rest⟩
 ·omega
 ·refine ⟨g, cap, rfl, hb, ?_⟩
  have hx : (ivs l)[k]? = some (.int .i64 l[k]) := by simp [ivs, hk]
  have h2 := World.ownsRow.cellAt h k (by omega)
  rw [h2, hx]
end
end Go.Proofs.YtliimeoblffigaaGreat

set_option maxRecDepth 100000
namespace Go.Proofs.YtliimeoblffigaaGreat
open Go.ChangeShapes Go.WideShapes Go.ChangeAt Go.RowKit Go.Deep
open Go.ChangeMaps (open_string shut_string)

theorem own : ownKnob Tryz.prog.godebug = none := by kernel_rfl
theorem laidOut : laidOutB Tryz.prog = true := by kernel_rfl

namespace Bulk
theorem one_le {H : Type} (d : DataW H) : 1 ≤ Rows.uptoBulk d := by
 cases d with
 | lit l => cases l <;> simp [Rows.uptoBulk]
 | nil => simp [Rows.uptoBulk]
 | ptr d => simp [Rows.uptoBulk]
 | slice elems spare => simp [Rows.uptoBulk]
 | agg parts => simp [Rows.uptoBulk]
 | iface t d => simp [Rows.uptoBulk]
 | map entries => simp [Rows.uptoBulk]
 | held h => simp [Rows.uptoBulk]
theorem length_le {H : Type} (l : List (DataW H)) : l.length ≤ Rows.uptoBulkAll l := by
 induction l with
 | nil => simp [Rows.uptoBulkAll]
 | cons x r ih => have := one_le x; simp only [Rows.uptoBulkAll, List.length_cons]; omega
theorem sum_le {H : Type} {α : Type} (f : α → Nat) (g : α → DataW H) : ∀ l : List α, (∀ a ∈ l, f a ≤ Rows.uptoBulk (g a)) → (l.map f).sum ≤ Rows.uptoBulkAll (l.map g)
 | [], _ => by simp [Rows.uptoBulkAll]
 | a :: l, h => by
  have h1 := h a (by simp)
  have h2 := sum_le f g l fun b hb => h b (by simp [hb])
  simp only [List.map_cons, List.sum_cons, Rows.uptoBulkAll]
  omega
end Bulk

section
variable {H : Type} {enc : TypeId × Value → H} {W : World} {v : Value} {d : DataW H} {p : List MemPlace}

/-- a number as a byte -/
def toB (n : Int) : UInt8 := UInt8.ofNat n.toNat
theorem bv_toB {n : Int} (h : (Lit.int .u8 n).wf = true) : bv (toB n) = .int .u8 n := by
 have hx : 0 ≤ n ∧ n ≤ 255 := by simpa [Lit.wf, IntKind.min, IntKind.max, IntKind.signed, IntKind.bits] using h
 unfold bv toB
 congr 1
 rw [UInt8.toNat_ofNat']
 omega

theorem rdB_of_cells {a : Addr} {len cap : Nat} {zs : List Int} (hl : len ≤ cap) (hm : cap ≤ maxLen) (hz : len ≤ zs.length)
  (hcell : ∀ i, i < zs.length → W.cell? (a.add i) = some (.int .u8 (zs.getD i 0))) (hw : ∀ n ∈ zs, (Lit.int .u8 n).wf = true) :
  RdB W (fun k => k < W.heap.size) (.slice (some a) len cap) ((zs.take len).map toB) := by
 have e : ((zs.take len).map toB).length = len := by simp; omega
 refine RdB.mono (F := fun k => True ∧ k < W.heap.size) (RdB.lt ?_) fun k hk => hk.2
 unfold RdB RdV
 rw [e]
 refine ⟨by rw [bvs_length, e]; omega, some a, cap, rfl, hl, hm, fun _ => ⟨a, rfl, trivial, fun j u hu => ?_⟩⟩
 rw [bvs_get] at hu
 obtain ⟨b, hb, rfl⟩ := Option.map_eq_some_iff.1 hu
 rw [List.getElem?_map] at hb
 obtain ⟨n, hn, rfl⟩ := Option.map_eq_some_iff.1 hb
 rw [List.getElem?_take] at hn
 split at hn
 ·have hj : j < zs.length := by omega
  rw [hcell j hj, bv_toB (hw n (List.mem_of_getElem? hn)), List.getD_eq_getElem?_getD, hn]
  rfl
 ·cases hn

/-- what the sizes of a reading give: through the bulk, and through the form's own reach -/
def Sizes (n : Nat) (d : DataW H) : Prop := n + 1 ≤ Rows.uptoBulk d ∧ ∀ m, (∀ e s, d = .slice e s → e.length + s.length ≤ m) → n ≤ m

/-- a slice of bytes, by its reading -/
theorem open_b {fuel : Nat} {x : DataW H × List MemPlace} (h : DataW.trod enc Tryz.prog W 0 (fun _ => true) true fuel 30 [v] = some x) :
  ∃ l : List UInt8, RdB W (fun k => k < W.heap.size) v l ∧ Sizes l.length x.1 := by
 rcases open_ints Tryz.underlying30 Tryz.underlying5 (by kernel_rfl) h with ⟨hcs, hx⟩ | ⟨a, l, c, zs, hcs, _, hl, hm, hz, hx, hcell, hwz⟩
 ·simp only [List.cons.injEq, and_true] at hcs
  subst hcs; subst hx
  exact ⟨[], RdB.nil_ _ _, by simp [Rows.uptoBulk], fun _ _ => Nat.zero_le _⟩
 ·simp only [List.cons.injEq, and_true] at hcs
  subst hcs; subst hx
  refine ⟨_, rdB_of_cells hl hm (by simp at hz; omega) hcell hwz, ?_, fun m hm => ?_⟩
  ·simp only [Rows.uptoBulk, List.length_map, List.length_take]
   have h1 := Bulk.length_le (lits (H := H) .u8 (zs.take l))
   simp only [lits, List.length_map, List.length_take] at h1 ⊢
   omega
  ·have := hm _ _ rfl
   simp only [lits, List.length_map, List.length_take, List.length_drop] at this ⊢
   omega

end
end Go.Proofs.YtliimeoblffigaaGreat

set_option maxRecDepth 100000
namespace Go.Proofs.YtliimeoblffigaaGreat
open Go.ChangeShapes Go.WideShapes Go.ChangeAt Go.RowKit Go.Deep
set_option linter.unusedVariables false

/-- the slice value v reads as the ints l -/
def RdI (w : World) (F : Nat → Prop) (v : Value) (l : List Int) : Prop := RdV w F 1 v l.length (l.map fun n => .int .i64 n)
section
variable {w w' : World} {F F' S : Nat → Prop} {v : Value} {l : List Int}
theorem RdI.chg (h : RdI w F v l) (hc : Chg S w w') (hF : ∀ k, F k → ¬ S k) : RdI w' F v l := RdV.chg h hc hF
theorem RdI.c0 (h : RdI w F v l) (hc : Chg Non w w') : RdI w' F v l := RdV.chg h hc fun _ _ h => h
theorem RdI.shape (h : RdI w F v l) : ∃ A c, v = .slice A l.length c ∧ l.length ≤ c ∧ c ≤ maxLen := RdV.shape h
theorem RdI.at_ {A : Option Addr} {n c : Nat} (h : RdI w F (.slice A n c) l) {k : Nat} (hk : k < l.length) :
  ∃ ad, A = some ad ∧ F ad.block ∧ w.cell? (ad.add k) = some (.int .i64 l[k]) := by
 obtain ⟨A', c', e, _, _⟩ := RdV.shape h
 injection e with e1 e2 e3
 subst e1; subst e2; subst e3
 obtain ⟨ad, u, hA, hf, hu, hc⟩ := RdV.at_ h hk (i := 0) (by omega)
 refine ⟨ad, hA, hf, ?_⟩
 simp only [Nat.mul_one, Nat.add_zero] at hu hc
 rw [List.getElem?_map, List.getElem?_eq_getElem hk] at hu
 rw [hc, ← hu]
 rfl
end

section
variable {H : Type} {enc : TypeId × Value → H} {W : World} {v : Value} {d : DataW H} {p : List MemPlace}
end
end Go.Proofs.YtliimeoblffigaaGreat

set_option maxRecDepth 100000
namespace Go.Proofs.YtliimeoblffigaaGreat
open Go.RowKit
set_option linter.unusedVariables false
set_option linter.unusedSimpArgs false

theorem own_zBB (w : World) : (w.alloc (.cells #[] 30)).ownsRow w.heap.size 30 1 (.slice (some ⟨w.heap.size, 0, none⟩) 0 0) 0 [] :=
 World.ownsRow_lit (size := 1) w #[] 0 (Nat.le_refl _) (by simp [maxLen]) rfl
set_option maxHeartbeats 1000000 in
theorem cloneBB {v : Value} {ll : List (List UInt8)} {F : Nat → Prop} {w : World} (hr : RdBB w F v ll) (hF : ∀ b, F b → b < w.heap.size) (hl : ll.length ≤ 1000000000) :
  Calls Tryz.prog 186 #[v] w fun e w' => ∃ u, e = .returned u ∧ OwnBB w' w.heap.size F u ll ∧ Chg Non w w' := by
 obtain ⟨vs, h1, h2, h3⟩ := hr
 have h1c : ∀ y ∈ vs, y.oneCell' = true := fun y hy => by
  obtain ⟨k, hk, rfl⟩ := List.getElem_of_mem hy
  obtain ⟨A, c, e, _, _⟩ := (h3 k vs[k] ll[k] (List.getElem?_eq_getElem hk) (List.getElem?_eq_getElem (by omega))).shape
  rw [e]; rfl
 obtain ⟨A, c, rfl, hc, hm⟩ := RdV.shape h2
 rcases A with _ | ad
 ·have hn0 : ll.length = 0 := by
   by_cases h0 : 0 < ll.length
   ·obtain ⟨_, A', c', e, _, _, h4⟩ := h2
    obtain ⟨ad, e2, _⟩ := h4 h0
    injection e with e _ _
    rw [e2] at e; cases e
   ·omega
  have hll : ll = [] := List.eq_nil_of_length_eq_zero hn0
  subst hll
  have h0 := Lib.run_eql_slice_nil (P := Tryz.prog)
  go_enter Tryz.func186, Tryz.ntmps186
  go_wp2
  go_ret
  exact ⟨_, rfl, OwnBB.nil_ _ _ _, Chg.refl _ _⟩
 ·have h0 := fun w => Lib.run_eql_slice_nil (P := Tryz.prog) w 122 30 (some ad) ll.length c 0 0 Tryz.underlying122
  obtain ⟨i, hi, hz, hs1, hs2⟩ := info_parts info_bb
  obtain ⟨n, hn⟩ : ∃ n, n = ll.length := ⟨_, rfl⟩
  rw [← hn] at h2 h0 hl ⊢
  have HN := hide hn
  clear hn hc hm
  go_enter Tryz.func186, Tryz.ntmps186
  go_wp2_with (at_builtin; refine wpList_append_rd _ rfl _ _ _ rfl w.heap.size 30 i _ 1 24 Tryz.underlying122 hi hz hs1 hs2 rfl (by omega) (.slice (some ⟨w.heap.size, 0, none⟩) 0 0) rfl _ _ (own_zBB w) _ _ rfl _ _ (h2.chg ((Chg.refl Non w).alloc _) (fun _ _ h => h)) h1c (by simp only [maxLen]; omega) (by omega) (by simp) ?_; intro v1 w1 hown1 hg1 _ hat1)
  go_ret
  simp only [Nat.zero_add, List.nil_append] at hown1
  have hc : Chg Non w w1 := ((Chg.refl Non w).alloc _).own hg1 (by simp [Value.ownBlock])
  refine ⟨v1, rfl, ⟨vs, h1, by rw [← HN.out]; exact hown1, fun k x l hx hl => ((h3 k x l hx hl).chg hc fun _ _ h => h).mono fun b hb => ⟨hb, Nat.lt_of_lt_of_le (hF b hb) hc.size, fun e => ?_⟩⟩, hc⟩
  have := (World.ownsRow.lt hown1 b e).1
  have := hF b hb
  omega
theorem OwnBB.at_ {w : World} {base : Nat} {F : Nat → Prop} {v : Value} {ll : List (List UInt8)} (h : OwnBB w base F v ll) {i : Nat} (hi : i < ll.length) :
  ∃ g c x, v = .slice (some ⟨g, 0, none⟩) ll.length c ∧ base ≤ g ∧ g < w.heap.size ∧ w.cell? ⟨g, i, none⟩ = some x ∧ w.frozen? ⟨g, i, none⟩ = false ∧ RdB w (fun b => F b ∧ b < w.heap.size ∧ v.ownBlock ≠ some b) x ll[i] := by
 obtain ⟨vs, h1, h2, h3⟩ := h
 rcases h2.2 with ⟨_, hz⟩ | ⟨g, cap, cur, rfl, hb, hg, r1, r2, r3, r4⟩
 ·omega
 ·have hx := World.ownsRow.cellAt h2 i (by omega)
  rw [List.getElem?_eq_getElem (by omega)] at hx
  exact ⟨g, cap, vs[i], rfl, hb, (Array.getElem?_eq_some_iff.1 hg).1, hx, (show Blk w g 30 cur from hg).frozen i, h3 i _ _ (List.getElem?_eq_getElem (by omega)) (List.getElem?_eq_getElem hi)⟩
theorem OwnBB.atG {w : World} {base g n c : Nat} {F : Nat → Prop} {ll : List (List UInt8)} (h : OwnBB w base F (.slice (some ⟨g, 0, none⟩) n c) ll) {i : Nat} (hi : i < ll.length) :
  ∃ x, w.cell? ⟨g, i, none⟩ = some x ∧ w.frozen? ⟨g, i, none⟩ = false := by
 obtain ⟨g', c', x, ev, _, _, hx, hfz, _⟩ := h.at_ hi
 injection ev with ev1 _ _
 injection ev1 with ev1
 injection ev1 with ev1 _ _
 subst ev1
 exact ⟨x, hx, hfz⟩
/-- an element is replaced by another that reads alike -/
theorem OwnBB.put {w : World} {base g n c i : Nat} {F : Nat → Prop} {ll : List (List UInt8)} (h : OwnBB w base F (.slice (some ⟨g, 0, none⟩) n c) ll) (hi : i < ll.length) {u : Value} (hu : RdB w (fun b => F b ∧ b < w.heap.size ∧ b ≠ g) u ll[i]) :
  OwnBB (w.setCell ⟨g, i, none⟩ u) base F (.slice (some ⟨g, 0, none⟩) n c) ll ∧ Chg (fun k => k = g) w (w.setCell ⟨g, i, none⟩ u) := by
 have hc : Chg (fun k => k = g) w (w.setCell ⟨g, i, none⟩ u) := Chg.setCell (p := ⟨g, i, none⟩) (Chg.refl (fun k => k = g) w) (fun _ => rfl) _
 obtain ⟨vs, h1, h2, h3⟩ := h
 have en : n = ll.length := by obtain ⟨A', c', e, _, _⟩ := (RdV.of_own h2).shape; injection e
 subst en
 refine ⟨⟨vs.set i u, by rw [List.length_set]; exact h1, (World.ownsRow.stored h2 i u).1, fun k x l hx hl => ?_⟩, hc⟩
 have key : ∀ {y : Value} {m : List UInt8}, RdB w (fun b => F b ∧ b < w.heap.size ∧ b ≠ g) y m → RdB (w.setCell ⟨g, i, none⟩ u) (fun b => F b ∧ b < (w.setCell ⟨g, i, none⟩ u).heap.size ∧ (Value.slice (some ⟨g, 0, none⟩) ll.length c).ownBlock ≠ some b) y m := fun hy =>
  (hy.chg hc fun b hb e => hb.2.2 e).mono fun b hb => ⟨hb.1, Nat.lt_of_lt_of_le hb.2.1 hc.size, fun e => hb.2.2 (by simp [Value.ownBlock] at e; exact e.symm)⟩
 rw [List.getElem?_set] at hx
 by_cases e : i = k
 ·subst e
  rw [if_pos rfl] at hx
  split at hx
  ·injection hx with hx
   subst hx
   rw [List.getElem?_eq_getElem hi] at hl
   injection hl with hl
   subst hl
   exact key hu
  ·cases hx
 ·rw [if_neg e] at hx
  exact key ((h3 k x l hx hl).mono fun b hb => ⟨hb.1, hb.2.1, fun e => hb.2.2 (by simp [Value.ownBlock, e])⟩)
theorem RdI.lt {w : World} {F : Nat → Prop} {v : Value} {l : List Int} (h : RdI w F v l) : RdI w (fun b => F b ∧ b < w.heap.size) v l := RdV.lt h (by omega)
theorem RdI.mono {w : World} {F F' : Nat → Prop} {v : Value} {l : List Int} (h : RdI w F v l) (hF : ∀ b, F b → F' b) : RdI w F' v l := RdV.mono h hF
theorem rdV_nil {w : World} {F : Nat → Prop} {sz n c : Nat} {xs : List Value} (h : RdV w F sz (.slice none n c) n xs) : n = 0 := by
 obtain ⟨_, A', c', e, _, _, h3⟩ := h
 injection e with e1 e2 e3
 subst e1
 rcases Nat.eq_zero_or_pos n with hz | hp
 ·exact hz
 ·obtain ⟨ad, h, _⟩ := h3 hp; cases h
theorem own_zI (w : World) : (w.alloc (.cells #[] 3)).ownsRow w.heap.size 3 1 (.slice (some ⟨w.heap.size, 0, none⟩) 0 0) 0 [] :=
 World.ownsRow_lit (size := 1) w #[] 0 (Nat.le_refl _) (by simp [maxLen]) rfl
set_option maxHeartbeats 400000 in
theorem cloneN {v : Value} {l : List Int} {F : Nat → Prop} {w : World} (hr0 : RdI w F v l) (hl : l.length ≤ 1000000000000) :
  Calls Tryz.prog 187 #[v] w fun e w' => ∃ u, e = .returned u ∧ OwnI w' w.heap.size u l ∧ Chg Non w w' := by
 obtain ⟨n, hn⟩ : ∃ n, n = l.length := ⟨_, rfl⟩
 obtain ⟨xs, hxs⟩ : ∃ xs, xs = ivs l := ⟨_, rfl⟩
 have hr : RdV w F 1 v n xs := by rw [hn, hxs]; exact hr0
 have h1 : ∀ u ∈ xs, u.oneCell' = true := fun u hu => by
  rw [hxs] at hu
  obtain ⟨a, _, rfl⟩ := List.mem_map.1 hu
  rfl
 unfold OwnI
 rw [← hn] at hl ⊢
 rw [← hxs]
 clear hn hxs hr0
 obtain ⟨A, c, rfl, _, _⟩ := hr.shape
 rcases A with _ | ad
 ·have hn0 := rdV_nil hr
  subst hn0
  have hx0 : xs = [] := List.eq_nil_of_length_eq_zero (by have := hr.1; omega)
  subst hx0
  have h0 := Lib.run_eql_slice_nil (P := Tryz.prog)
  go_enter Tryz.func187, Tryz.ntmps187
  go_wp2
  go_ret
  exact ⟨_, rfl, World.ownsRow_nil _ _ _ _, Chg.refl _ _⟩
 ·have h0 := fun w => Lib.run_eql_slice_nil (P := Tryz.prog) w 123 3 (some ad) n c 0 0 Tryz.underlying123
  obtain ⟨i, hi, hz, hs1, hs2⟩ := info_parts info_int
  go_enter Tryz.func187, Tryz.ntmps187
  go_wp2_with (at_builtin; refine wpList_append_rd _ rfl _ _ _ rfl w.heap.size 3 i _ 1 8 Tryz.underlying123 hi hz hs1 hs2 rfl (by omega) (.slice (some ⟨w.heap.size, 0, none⟩) 0 0) rfl _ _ (own_zI w) _ _ rfl _ _ (hr.chg ((Chg.refl Non w).alloc _) (fun _ _ h => h)) h1 (by simp only [maxLen]; omega) (by omega) (by simp) ?_; intro v1 w1 hown1 hg1 _ hat1)
  go_ret
  simp only [Nat.zero_add, List.nil_append] at hown1
  exact ⟨v1, rfl, hown1, ((Chg.refl Non w).alloc _).own hg1 (by simp [Value.ownBlock])⟩
theorem OwnI.low {w : World} {base b' : Nat} {v : Value} {l : List Int} (h : OwnI w base v l) (hb : b' ≤ base) : OwnI w b' v l := by
 refine ⟨h.1, ?_⟩
 rcases h.2 with hn | ⟨g, cap, cur, rfl, hg, rest⟩
 ·exact .inl hn
 ·exact .inr ⟨g, cap, cur, rfl, by omega, rest⟩
theorem OwnI.rd {w : World} {base : Nat} {v : Value} {l : List Int} (h : OwnI w base v l) : RdI w (fun b => v.ownBlock = some b ∧ b < w.heap.size) v l := (RdV.of_own h).mono fun b hb => ⟨hb, (h.lt b hb).2⟩
/-- a node's lists: what the keys and the values read lies in P -/
structure Th3 (w : World) (P : Nat → Prop) (base : Nat) (kv vv iv : Value) (ks vs : List (List UInt8)) (ni : List Int) : Prop where
 k : OwnBB w base (fun b => P b ∧ vv.ownBlock ≠ some b ∧ iv.ownBlock ≠ some b) kv ks
 v : OwnBB w base (fun b => P b ∧ kv.ownBlock ≠ some b ∧ iv.ownBlock ≠ some b) vv vs
 i : OwnI w base iv ni
 nkv : ∀ b, kv.ownBlock = some b → vv.ownBlock ≠ some b
 nki : ∀ b, kv.ownBlock = some b → iv.ownBlock ≠ some b
 nvi : ∀ b, vv.ownBlock = some b → iv.ownBlock ≠ some b
section
variable {w w' : World} {P P' : Nat → Prop} {base : Nat} {kv vv iv kv' vv' iv' : Value} {ks vs ks' vs' : List (List UInt8)} {ni ni' : List Int} {S : Nat → Prop}
theorem Th3.chg (h : Th3 w P base kv vv iv ks vs ni) (hc : Chg S w w') (hb : ∀ b, base ≤ b → ¬ S b) (hP : ∀ b, P b → ¬ S b) : Th3 w' P base kv vv iv ks vs ni :=
 ⟨h.k.chg hc (fun b e => hb b (h.k.lt b e).1) fun b hb => hP b hb.1, h.v.chg hc (fun b e => hb b (h.v.lt b e).1) fun b hb => hP b hb.1, h.i.chg hc fun b e => hb b (h.i.lt b e).1, h.nkv, h.nki, h.nvi⟩
theorem Th3.chgO (h : Th3 w P base kv vv iv ks vs ni) (hc : Chg S w w') (h1 : ∀ b, kv.ownBlock = some b → ¬ S b) (h2 : ∀ b, vv.ownBlock = some b → ¬ S b) (h3 : ∀ b, iv.ownBlock = some b → ¬ S b) (hP : ∀ b, P b → ¬ S b) : Th3 w' P base kv vv iv ks vs ni :=
 ⟨h.k.chg hc h1 fun b hb => hP b hb.1, h.v.chg hc h2 fun b hb => hP b hb.1, h.i.chg hc h3, h.nkv, h.nki, h.nvi⟩
theorem Th3.fit (h : Th3 w P base kv vv iv ks vs ni) : Th3 w (fun b => P b ∧ b < w.heap.size) base kv vv iv ks vs ni :=
 ⟨h.k.fit.mono fun b hb => ⟨⟨hb.1.1, hb.2⟩, hb.1.2⟩, h.v.fit.mono fun b hb => ⟨⟨hb.1.1, hb.2⟩, hb.1.2⟩, h.i, h.nkv, h.nki, h.nvi⟩
theorem Th3.c0 (h : Th3 w P base kv vv iv ks vs ni) (hc : Chg Non w w') : Th3 w' P base kv vv iv ks vs ni := h.chg hc (fun _ _ h => h) fun _ _ h => h
theorem Th3.mono (h : Th3 w P base kv vv iv ks vs ni) (hP : ∀ b, P b → P' b) : Th3 w P' base kv vv iv ks vs ni :=
 ⟨h.k.mono fun b hb => ⟨hP b hb.1, hb.2⟩, h.v.mono fun b hb => ⟨hP b hb.1, hb.2⟩, h.i, h.nkv, h.nki, h.nvi⟩
theorem Th3.low {b' : Nat} (h : Th3 w P base kv vv iv ks vs ni) (hb : b' ≤ base) : Th3 w P b' kv vv iv ks vs ni := ⟨h.k.low hb, h.v.low hb, h.i.low hb, h.nkv, h.nki, h.nvi⟩
theorem Th3.rdK (h : Th3 w P base kv vv iv ks vs ni) : RdBB w (fun b => (P b ∨ base ≤ b) ∧ b < w.heap.size) kv ks := h.k.rd.mono fun b hb => ⟨by
 rcases hb.1 with h1 | h1
 ·exact .inl h1.1
 ·exact .inr (h.k.lt b h1).1, hb.2⟩
theorem Th3.rdV (h : Th3 w P base kv vv iv ks vs ni) : RdBB w (fun b => (P b ∨ base ≤ b) ∧ b < w.heap.size) vv vs := h.v.rd.mono fun b hb => ⟨by
 rcases hb.1 with h1 | h1
 ·exact .inl h1.1
 ·exact .inr (h.v.lt b h1).1, hb.2⟩
theorem Th3.rdI (h : Th3 w P base kv vv iv ks vs ni) : RdI w (fun b => (P b ∨ base ≤ b) ∧ b < w.heap.size) iv ni := h.i.rd.mono fun b hb => ⟨.inr (h.i.lt b hb.1).1, hb.2⟩
theorem Th3.setK {g n c i : Nat} (h : Th3 w P base (.slice (some ⟨g, 0, none⟩) n c) vv iv ks vs ni) (hi : i < ks.length) {w1 : World} (hn : Th3 w1 P base (.slice (some ⟨g, 0, none⟩) n c) vv iv ks vs ni) {u : Value} (hu : OwnB w w1.heap.size u ks[i]) (hP : ∀ b, w1.heap.size ≤ b → P b) :
  Th3 (w.setCell ⟨g, i, none⟩ u) P base (.slice (some ⟨g, 0, none⟩) n c) vv iv ks vs ni ∧ Chg (fun k => k = g) w (w.setCell ⟨g, i, none⟩ u) := by
 have hgl := (hn.k.lt g rfl).2
 obtain ⟨h1, h2⟩ := h.k.put hi (hu.rd.mono fun b hb => by
  have h3 := hu.lt b hb
  exact ⟨⟨hP b h3.1, fun e => by have := (hn.v.lt b e).2; omega, fun e => by have := (hn.i.lt b e).2; omega⟩, h3.2, by omega⟩)
 refine ⟨⟨h1, h.v.chg h2 (fun b e e2 => ?_) fun b hb e2 => hb.2.1 (by simp [Value.ownBlock, e2]), h.i.chg h2 fun b e e2 => ?_, h.nkv, h.nki, h.nvi⟩, h2⟩
 ·have e2 : b = g := e2
  subst e2
  exact h.nkv b rfl e
 ·have e2 : b = g := e2
  subst e2
  exact h.nki b rfl e
theorem Th3.setV {g n c i : Nat} (h : Th3 w P base kv (.slice (some ⟨g, 0, none⟩) n c) iv ks vs ni) (hi : i < vs.length) {w1 : World} (hn : Th3 w1 P base kv (.slice (some ⟨g, 0, none⟩) n c) iv ks vs ni) {u : Value} (hu : OwnB w w1.heap.size u vs[i]) (hP : ∀ b, w1.heap.size ≤ b → P b) :
  Th3 (w.setCell ⟨g, i, none⟩ u) P base kv (.slice (some ⟨g, 0, none⟩) n c) iv ks vs ni ∧ Chg (fun k => k = g) w (w.setCell ⟨g, i, none⟩ u) := by
 have hgl := (hn.v.lt g rfl).2
 obtain ⟨h1, h2⟩ := h.v.put hi (hu.rd.mono fun b hb => by
  have h3 := hu.lt b hb
  exact ⟨⟨hP b h3.1, fun e => by have := (hn.k.lt b e).2; omega, fun e => by have := (hn.i.lt b e).2; omega⟩, h3.2, by omega⟩)
 refine ⟨⟨h.k.chg h2 (fun b e e2 => ?_) fun b hb e2 => hb.2.1 (by simp [Value.ownBlock, e2]), h1, h.i.chg h2 fun b e e2 => ?_, h.nkv, h.nki, h.nvi⟩, h2⟩
 ·have e2 : b = g := e2
  subst e2
  exact h.nkv b e rfl
 ·have e2 : b = g := e2
  subst e2
  exact h.nvi b rfl e
end
end Go.Proofs.YtliimeoblffigaaGreat

