/- The walks of leaf's cursor: take, one, two. -/
import Derived.Test.YtfgecgmgbngeaaaGreatLfC
import Derived.Test.YtfgecgmgbngeaaaGreatSealM
import Derived.BigQuiet
import Derived.Test.YtfgecgmgbngeaaaGreatBBM
set_option maxRecDepth 100000
namespace Go.Proofs.YtfgecgmgbngeaaaGreat
open Go.RowKit
set_option linter.unusedVariables false
set_option linter.unusedSimpArgs false

/-- the cursor at block g has l left; what it reads lies below N -/
structure Cur (w : World) (N g : Nat) (l : List UInt8) : Prop where
  ex : ∃ v, Blk w g 129 #[v, .bool false] ∧ RdB w (fun b => b < N) v l
  le : N ≤ g
section
variable {w w' : World} {N g : Nat} {l : List UInt8} {S : Nat → Prop}
theorem Cur.chg (h : Cur w N g l) (hc : Chg S w w') (hg : ¬ S g) (hN : ∀ b, b < N → ¬ S b) : Cur w' N g l := by
  obtain ⟨v, h1, h2⟩ := h.ex
  exact ⟨⟨v, h1.chg hc hg, h2.chg hc hN⟩, h.le⟩
theorem Cur.c0 (h : Cur w N g l) (hc : Chg Non w w') : Cur w' N g l := h.chg hc (fun h => h) fun _ _ h => h
theorem Cur.lt (h : Cur w N g l) : g < w.heap.size := by obtain ⟨v, h1, _⟩ := h.ex; exact h1.lt
end
set_option maxHeartbeats 1000000 in
theorem crTake {w : World} {N g n : Nat} {l : List UInt8} (h : Cur w N g l) (hn : n ≤ l.length) (hl : l.length ≤ 100000000) :
    Calls Tryz.prog 72 #[.pointer (some ⟨g, 0, none⟩), .int .i64 (n : Int)] w fun e w' => ∃ u, e = .returned u ∧ OwnB w' w.heap.size u (l.take n) ∧ Cur w' N g (l.drop n) ∧ Chg (fun k => k = g) w w' := by
  obtain ⟨v, hb, hr⟩ := h.ex
  have hle := h.le
  have k0 : w.cell? ⟨g, 0, none⟩ = some v := hb.cell 0
  have f0 := hb.frozen 0
  obtain ⟨s1, hs1, hc1⟩ := run_cut_h hr (j := n) (y := (n : Int)) rfl hn
  obtain ⟨s2, hs2, hc2⟩ := run_cut_l hr (i := n) (x := (n : Int)) rfl hn
  obtain ⟨B1, m1, rfl, _, _⟩ := hs1.shape
  obtain ⟨B2, m2, rfl, _, _⟩ := hs2.shape
  have hlen := fun w' ty => run_len8 hr w' ty
  obtain ⟨L, hL⟩ : ∃ L, L = l.length := ⟨_, rfl⟩
  rw [← hL] at hlen hn hl
  have hd : decide ((L : Int) < (n : Int)) = false := decide_eq_false (by omega)
  have hd2 : ¬ L < n := by omega
  have hsl : (l.drop n).length = l.length - n := List.length_drop
  obtain ⟨DL, hDL⟩ : ∃ DL, DL = (l.drop n).length := ⟨_, rfl⟩
  obtain ⟨TL, hTL⟩ : ∃ TL, TL = (l.take n).length := ⟨_, rfl⟩
  rw [← hDL] at hs2 hc2
  rw [← hTL] at hs1 hc1
  have hb2 := hb.set_ 0 (.slice B2 DL m2)
  simp at hb2
  have hcs : Chg (fun k => k = g) w (w.setCell ⟨g, 0, none⟩ (.slice B2 DL m2)) := Chg.setCell (p := ⟨g, 0, none⟩) (Chg.refl (fun k => k = g) w) (fun _ => rfl) _
  have hs1' := hs1.chg hcs (fun b hb e => by have e : b = g := e; omega)
  have hs2' := hs2.chg hcs (fun b hb e => by have e : b = g := e; omega)
  have hcl := bytesClone hs1' (by rw [List.length_take]; omega)
  have HB2 := hide hb2
  have HS2 := hide hs2'
  have HC := hide hcs
  clear h hb hr hs1 hs2 hL hDL hTL hsl hb2 hcs hs1' hs2'
  go_enter Tryz.func72, Tryz.ntmps72
  go_wp2_with fail
  refine hcl.mono ?_
  rintro e w3 ⟨u, rfl, hu, hc3⟩
  clear hcl
  go_wp2_with fail
  go_ret
  have n1 := HC.out.size
  exact ⟨u, rfl, hu.low n1, ⟨⟨_, HB2.out.c0 hc3, HS2.out.c0 hc3⟩, hle⟩, HC.out.trans0 hc3⟩
theorem crOne {w : World} {N g : Nat} {x : UInt8} {l : List UInt8} (h : Cur w N g (x :: l)) (hl : l.length ≤ 10000000) :
    Calls Tryz.prog 70 #[.pointer (some ⟨g, 0, none⟩)] w fun e w' => e = .returned (.int .i64 (x.toNat : Int)) ∧ Cur w' N g l ∧ Chg (fun k => k = g) w w' := by
  have ht := crTake (n := 1) h (by simp) (by simp; omega)
  have hw : IntKind.i64.wrap (x.toNat : Int) = (x.toNat : Int) := IntWalk.i64_in _ (by have := x.toNat_lt; omega)
  clear h
  go_enter Tryz.func70, Tryz.ntmps70
  go_wp2_with fail
  refine ht.mono ?_
  rintro e w1 ⟨u, rfl, hu, hc, hc1⟩
  have hu : OwnB w1 w.heap.size u [x] := hu
  obtain ⟨A, n, c, rfl⟩ := hu.shapeH
  obtain ⟨g1, rfl, _, _⟩ := hu.head (by simp)
  have hx := hu.cell (i := 0) (by simp)
  have hx : w1.cell? ⟨g1, 0, none⟩ = some (.int .u8 (x.toNat : Int)) := hx.1
  have en : n = 1 := by obtain ⟨_, _, e, _⟩ := hu.shape; injection e
  subst en
  clear ht hu
  go_wp2_with fail
  go_ret
  exact ⟨rfl, hc, hc1⟩
theorem crTwo {w : World} {N g : Nat} {x y : UInt8} {l : List UInt8} (h : Cur w N g (x :: y :: l)) (hl : l.length ≤ 10000000) :
    Calls Tryz.prog 71 #[.pointer (some ⟨g, 0, none⟩)] w fun e w' => e = .returned (.int .i64 ((x.toNat * 256 + y.toNat : Nat) : Int)) ∧ Cur w' N g l ∧ Chg (fun k => k = g) w w' := by
  have ht := crTake (n := 2) h (by simp) (by simp; omega)
  have hxl := x.toNat_lt
  have hyl := y.toNat_lt
  have hw : IntKind.i64.wrap (x.toNat : Int) = (x.toNat : Int) := IntWalk.i64_in _ (by omega)
  have hw2 : IntKind.i64.wrap (y.toNat : Int) = (y.toNat : Int) := IntWalk.i64_in _ (by omega)
  have hw3 : IntKind.i64.wrap ((x.toNat : Int) * 256) = (x.toNat : Int) * 256 := IntWalk.i64_in _ (by omega)
  clear h
  go_enter Tryz.func71, Tryz.ntmps71
  go_wp2_with fail
  refine ht.mono ?_
  rintro e w1 ⟨u, rfl, hu, hc, hc1⟩
  have hu : OwnB w1 w.heap.size u [x, y] := hu
  obtain ⟨A, n, c, rfl⟩ := hu.shapeH
  obtain ⟨g1, rfl, _, _⟩ := hu.head (by simp)
  have hx := hu.cell (i := 0) (by simp)
  have hx : w1.cell? ⟨g1, 0, none⟩ = some (.int .u8 (x.toNat : Int)) := hx.1
  have hy := hu.cell (i := 1) (by simp)
  have hy : w1.cell? ⟨g1, 1, none⟩ = some (.int .u8 (y.toNat : Int)) := hy.1
  have en : n = 2 := by obtain ⟨_, _, e, _⟩ := hu.shape; injection e
  subst en
  clear ht hu
  have HCC := hide (And.intro hc hc1)
  clear hc hc1
  go_upto_region 2 with fail
  go_quiet (fail)
  go_wp2_with fail
  go_ret
  rw [or_byte64 _ _ (by omega)]
  exact ⟨rfl, HCC.out.1.c0 ((Chg.refl Non w1).drewN _), HCC.out.2.drewN _⟩
end Go.Proofs.YtfgecgmgbngeaaaGreat

set_option maxRecDepth 100000
namespace Go.Proofs.YtfgecgmgbngeaaaGreat
open Go.RowKit
set_option linter.unusedVariables false

theorem sizeAl' (w : World) (o : Obj) : (w.alloc o).heap.size = w.heap.size + 1 := Array.size_push ..
theorem OwnBB.fit {w : World} {base : Nat} {F : Nat → Prop} {v : Value} {ll : List (List UInt8)} (h : OwnBB w base F v ll) : OwnBB w base (fun b => F b ∧ b < w.heap.size) v ll := by
  obtain ⟨vs, h1, h2, h3⟩ := h
  exact ⟨vs, h1, h2, fun k x l hx hl => (h3 k x l hx hl).mono fun b hb => ⟨⟨hb.1, hb.2.1⟩, hb.2⟩⟩
theorem OwnBB.shapeH {w : World} {base : Nat} {F : Nat → Prop} {v : Value} {ll : List (List UInt8)} (h : OwnBB w base F v ll) : ∃ A n c, v = .slice A n c := by
  obtain ⟨A, c, e, _⟩ := h.shape
  exact ⟨A, _, c, e⟩
/-- two lists of lists, each owned by the call, apart from each other -/
structure Two (w : World) (base : Nat) (kv vv : Value) (ks vs : List (List UInt8)) : Prop where
  k : OwnBB w base (fun b => base ≤ b ∧ vv.ownBlock ≠ some b) kv ks
  v : OwnBB w base (fun b => base ≤ b ∧ kv.ownBlock ≠ some b) vv vs
  ne : ∀ b, kv.ownBlock = some b → vv.ownBlock ≠ some b
section
variable {w w' : World} {base : Nat} {kv vv kv' vv' : Value} {ks vs : List (List UInt8)} {S : Nat → Prop} {l : List UInt8}
theorem Two.nil_ (w : World) (base : Nat) : Two w base (.slice none 0 0) (.slice none 0 0) [] [] := ⟨OwnBB.nil_ .., OwnBB.nil_ .., fun b e => by cases e⟩
theorem Two.chg (h : Two w base kv vv ks vs) (hc : Chg S w w') (hS : ∀ b, base ≤ b → ¬ S b) : Two w' base kv vv ks vs :=
  ⟨h.k.chg hc (fun b hb => hS b (h.k.lt b hb).1) fun b hb => hS b hb.1, h.v.chg hc (fun b hb => hS b (h.v.lt b hb).1) fun b hb => hS b hb.1, h.ne⟩
theorem Two.c0 (h : Two w base kv vv ks vs) (hc : Chg Non w w') : Two w' base kv vv ks vs := h.chg hc fun _ _ h => h
/-- a list of bytes just made may be put into either -/
theorem Two.fresh {u : Value} {w1 : World} (h : Two w1 base kv vv ks vs) (hu : OwnB w w1.heap.size u l) (hb : base ≤ w1.heap.size) :
    RdB w (fun b => (base ≤ b ∧ vv.ownBlock ≠ some b) ∧ b < w.heap.size ∧ kv.ownBlock ≠ some b) u l ∧ RdB w (fun b => (base ≤ b ∧ kv.ownBlock ≠ some b) ∧ b < w.heap.size ∧ vv.ownBlock ≠ some b) u l := by
  have h1 : ∀ b, u.ownBlock = some b → base ≤ b ∧ b < w.heap.size ∧ kv.ownBlock ≠ some b ∧ vv.ownBlock ≠ some b := fun b hb' => by
    have h2 := hu.lt b hb'
    exact ⟨by omega, h2.2, fun e => by have := h.k.lt b e; omega, fun e => by have := h.v.lt b e; omega⟩
  exact ⟨hu.rd.mono fun b hb' => ⟨⟨(h1 b hb').1, (h1 b hb').2.2.2⟩, (h1 b hb').2.1, (h1 b hb').2.2.1⟩, hu.rd.mono fun b hb' => ⟨⟨(h1 b hb').1, (h1 b hb').2.2.1⟩, (h1 b hb').2.1, (h1 b hb').2.2.2⟩⟩
theorem Two.putK (h : Two w base kv vv ks vs) (hk : OwnBB w' base (fun b => base ≤ b ∧ vv.ownBlock ≠ some b) kv' (ks ++ [l])) (hg : w.grownBy w' kv.ownBlock) (hat : kv'.ownBlock = kv.ownBlock ∨ kv'.ownBlock = some w.heap.size) : Two w' base kv' vv (ks ++ [l]) vs := by
  have hc := Chg.of_grown hg
  refine ⟨hk, ((h.v.fit.chg hc (fun b hb e => h.ne b e.symm hb) fun b hb e => hb.1.2 e.symm).mono fun b hb => ⟨hb.1.1, fun e => ?_⟩), fun b hb e => ?_⟩
  · rcases hat with hat | hat
    · exact hb.1.2 (hat ▸ e)
    · rw [hat] at e; injection e with e; have := hb.2; omega
  · rcases hat with hat | hat
    · exact h.ne b (hat ▸ hb) e
    · rw [hat] at hb; injection hb with hb; have := h.v.lt b e; omega
theorem Two.putV (h : Two w base kv vv ks vs) (hv : OwnBB w' base (fun b => base ≤ b ∧ kv.ownBlock ≠ some b) vv' (vs ++ [l])) (hg : w.grownBy w' vv.ownBlock) (hat : vv'.ownBlock = vv.ownBlock ∨ vv'.ownBlock = some w.heap.size) : Two w' base kv vv' ks (vs ++ [l]) := by
  have hc := Chg.of_grown hg
  refine ⟨((h.k.fit.chg hc (fun b hb e => h.ne b hb e.symm) fun b hb e => hb.1.2 e.symm).mono fun b hb => ⟨hb.1.1, fun e => ?_⟩), hv, fun b hb e => ?_⟩
  · rcases hat with hat | hat
    · exact hb.1.2 (hat ▸ e)
    · rw [hat] at e; injection e with e; have := hb.2; omega
  · rcases hat with hat | hat
    · exact h.ne b hb (hat ▸ e)
    · rw [hat] at e; injection e with e; have := h.k.lt b hb; omega
theorem Two.rdK (h : Two w base kv vv ks vs) : RdBB w (fun b => base ≤ b ∧ b < w.heap.size) kv ks := h.k.rd.mono fun b hb => ⟨by
  rcases hb.1 with h1 | h1
  · exact h1.1
  · exact (h.k.lt b h1).1, hb.2⟩
theorem Two.rdV (h : Two w base kv vv ks vs) : RdBB w (fun b => base ≤ b ∧ b < w.heap.size) vv vs := h.v.rd.mono fun b hb => ⟨by
  rcases hb.1 with h1 | h1
  · exact h1.1
  · exact (h.v.lt b h1).1, hb.2⟩
end
end Go.Proofs.YtfgecgmgbngeaaaGreat
