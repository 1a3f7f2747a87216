/- The walks of btree's one at too deep a tree, and of Apply. -/
import Derived.Test.YtliimeoblffigaaGreatTsX
import Derived.Test.YtliimeoblffigaaGreatRfA
import Derived.Test.YtliimeoblffigaaGreatPlUG
import Derived.Lib.MinMax
open List renaming getElem_toArray → lz1, getElem_cons_succ → lz2, getElem_cons_zero → lz3, setIfInBounds_toArray → lz4, set_cons_zero → lz5, set_cons_succ → lz6
set_option linter.unusedVariables false
set_option linter.unusedSimpArgs false
set_option maxRecDepth 100000
namespace Go.Proofs.YtliimeoblffigaaGreat
open Go.RowKit Go.Maps
set_option linter.unusedVariables false
set_option linter.unusedSimpArgs false

section
variable {w : World} {T G : Nat → Prop} {g hand q n gt h : Nat} {pre : ByteArray} {l : List KV} {k v : List UInt8} {XA YA : Option Addr} {xn xc yn yc : Nat}
set_option maxHeartbeats 16000000 in
theorem tOnePutD (hT : Tree w T g hand pre q n gt h l) (hh : 64 ≤ h) (hq : q + 70 ≤ 900000) (hx : RdB w G (.slice XA xn xc) k) (hy : RdB w G (.slice YA yn yc) v) (hG : ∀ b, G b → ¬ T b) :
  Calls Tryz.prog 58 #[.pointer (some ⟨gt, 0, none⟩), .agg #[.slice XA xn xc, .slice YA yn yc, .bool false]] w fun e w' => e = .returned (.int .i64 3) ∧ ∃ (T' : Nat → Prop), Tree w' T' g hand pre (q + 65) n gt h l ∧ (∀ b, T' b → Ext T w w' b) ∧ Chg (fun b => T b ∨ b = gt) w w' := by
 obtain ⟨ids, ct, r, ps, hS, hgt, hb, hTR, hnd, hin, hlen⟩ := hT
 have hr := Blk.new w 86 #[.slice XA xn xc, .slice YA yn yc, .bool false]
 have hcr := (Chg.refl Non w).alloc (.cells #[.slice XA xn xc, .slice YA yn yc, .bool false] 86)
 have hTl := hS.lt
 go_enter Tryz.func58, Tryz.ntmps58
 go_upto_region 1 with fail
 have hS1 := hS.c0 hcr
 have hb1 := hb.c0 hcr
 have hx1 := hx.c0 hcr
 have hy1 := hy.c0 hcr
 obtain ⟨N, hN⟩ : ∃ N, N = w.heap.size := ⟨_, rfl⟩
 rw [← hN] at hr ⊢
 generalize World.alloc w _ = w1 at hr hcr hS1 hb1 hx1 hy1 ⊢
 obtain ⟨r0, r1, r2⟩ := blk3 hr
 have HW := hide (And.intro hr (And.intro hS1 (And.intro hb1 (And.intro hx1 hy1))))
 have HC := hide hcr
 have HTL := hide hTl
 clear hr hcr hS1 hb1 hx1 hy1 hS hb hx hy hTl hN
 go_upto_region 6 with fail
 clear r0 r1 r2
 refine wp_region_T (Chg Non w1) 6 (by kernel_rfl) ?_
 have HW0 := hide ((Chg.refl Non w1).drew)
 generalize World.drew w1 = x0 at HW0 ⊢
 refine AnyT.takeM (i := 0) (v := ?_) rfl (by kernel_rfl) (by kernel_rfl) (fun _ _ _ h => h) (by kernel_rfl) (by kernel_rfl) (Or.inl ⟨by rfl, ?_⟩) HW0.out ?_
 rotate_left
 ·(intro w9 h9; go_simp; try with_reducible rfl)
 try simp only [lz1, lz2, lz3, Act.put, lz4, lz5, lz6]
 refine AnyT.takeM (i := 1) (v := ?_) rfl (by kernel_rfl) (by kernel_rfl) (fun _ _ _ h => h) (by kernel_rfl) (by kernel_rfl) (Or.inl ⟨by rfl, ?_⟩) HW0.out ?_
 rotate_left
 ·(intro w9 h9; go_simp; try with_reducible rfl)
 try simp only [lz1, lz2, lz3, Act.put, lz4, lz5, lz6]
 refine AnyT.takeM (i := 2) (v := ?_) rfl (by kernel_rfl) (by kernel_rfl) (fun _ _ _ h => h) (by kernel_rfl) (by kernel_rfl) (Or.inl ⟨by rfl, ?_⟩) HW0.out ?_
 rotate_left
 ·(intro w9 h9; go_simp; try with_reducible rfl)
 try simp only [lz1, lz2, lz3, Act.put, lz4, lz5, lz6]
 refine AnyT.takeM (i := 3) (v := ?_) rfl (by kernel_rfl) (by kernel_rfl) (fun _ _ _ h => h) (by kernel_rfl) (by kernel_rfl) (Or.inl ⟨by rfl, ?_⟩) HW0.out ?_
 rotate_left
 ·(intro w9 h9; go_simp; try with_reducible rfl)
 try simp only [lz1, lz2, lz3, Act.put, lz4, lz5, lz6]
 refine AnyT.takeM (i := 4) (v := ?_) rfl (by kernel_rfl) (by kernel_rfl) (fun _ _ _ h => h) (by kernel_rfl) (by kernel_rfl) (Or.inl ⟨by rfl, ?_⟩) HW0.out ?_
 rotate_left
 ·(intro w9 h9; obtain ⟨y0, y1⟩ := blk2 (HW.out.2.2.1.c0 h9); go_simp; try with_reducible rfl)
 try simp only [lz1, lz2, lz3, Act.put, lz4, lz5, lz6]
 refine AnyT.takeM (i := 5) (v := ?_) rfl (by kernel_rfl) (by kernel_rfl) (fun _ _ _ h => h) (by kernel_rfl) (by kernel_rfl) (Or.inl ⟨by rfl, ?_⟩) HW0.out ?_
 rotate_left
 ·(intro w9 h9; obtain ⟨y0, y1, y2⟩ := blk3 (HW.out.1.c0 h9); go_simp; try with_reducible rfl)
 try simp only [lz1, lz2, lz3, Act.put, lz4, lz5, lz6]
 refine AnyT.one (i := 6) (by kernel_rfl) rfl (fun K hK => ?_)
 rw [if_pos (by rfl)]
 try simp only [lz1, lz2, lz3, Act.put, lz4, lz5, lz6]
 have hcc := tPutDeep 64 (d := 1) (HW.out.2.1.c0 HW0.out) (HW.out.2.2.1.c0 HW0.out) hgt hTR hnd hin (by omega) (by omega) (by omega) (HW.out.2.2.2.1.c0 HW0.out) (HW.out.2.2.2.2.c0 HW0.out) hG
 go_wp2_with (go_at_call 90; refine hcc.mono ?_; rintro e x1 ⟨rfl, T6, hS6, hsub6, hc6⟩)
 refine hK.out _ _ (fun h => absurd h (by decide)) ?_
 have HS6 := hide hS6
 have HSB6 := hide hsub6
 have HC6 := hide hc6
 clear hcc hS6 hsub6 hc6
 clear hK K
 try simp only [lz1, lz2, lz3, Act.put, lz4, lz5, lz6]
 refine AnyT.takeL (i := 7) (v := ?_) rfl (by kernel_rfl) (by kernel_rfl) (fun _ _ _ h => h) (by kernel_rfl) (by kernel_rfl) (Or.inl ⟨by rfl, ?_⟩) ?_
 rotate_left
 ·(intro w9; go_simp; try with_reducible rfl)
 try simp only [lz1, lz2, lz3, Act.put, lz4, lz5, lz6]
 refine AnyT.takeL (i := 8) (v := ?_) rfl (by kernel_rfl) (by kernel_rfl) (fun _ _ _ h => h) (by kernel_rfl) (by kernel_rfl) (Or.inl ⟨by rfl, ?_⟩) ?_
 rotate_left
 ·(intro w9; go_simp; try with_reducible rfl)
 try simp only [lz1, lz2, lz3, Act.put, lz4, lz5, lz6]
 refine AnyT.takeL (i := 11) (v := ?_) rfl (by kernel_rfl) (by kernel_rfl) (fun _ _ _ h => h) (by kernel_rfl) (by kernel_rfl) (Or.inl ⟨by rfl, ?_⟩) ?_
 rotate_left
 ·(intro w9; go_simp; try with_reducible rfl)
 try simp only [lz1, lz2, lz3, Act.put, lz4, lz5, lz6]
 refine AnyT.takeL (i := 9) (v := ?_) rfl (by kernel_rfl) (by kernel_rfl) (fun _ _ _ h => h) (by kernel_rfl) (by kernel_rfl) (Or.inl ⟨by rfl, ?_⟩) ?_
 rotate_left
 ·(intro w9; go_simp; try with_reducible rfl)
 try simp only [lz1, lz2, lz3, Act.put, lz4, lz5, lz6]
 refine AnyT.takeL (i := 12) (v := ?_) rfl (by kernel_rfl) (by kernel_rfl) (fun _ _ _ h => h) (by kernel_rfl) (by kernel_rfl) (Or.inl ⟨by rfl, ?_⟩) ?_
 rotate_left
 ·(intro w9; go_simp; try with_reducible rfl)
 try simp only [lz1, lz2, lz3, Act.put, lz4, lz5, lz6]
 refine AnyT.takeL (i := 10) (v := ?_) rfl (by kernel_rfl) (by kernel_rfl) (fun _ _ _ h => h) (by kernel_rfl) (by kernel_rfl) (Or.inl ⟨by rfl, ?_⟩) ?_
 rotate_left
 ·(intro w9; go_simp; try with_reducible rfl)
 try simp only [lz1, lz2, lz3, Act.put, lz4, lz5, lz6]
 refine AnyT.takeL (i := 13) (v := ?_) rfl (by kernel_rfl) (by kernel_rfl) (fun _ _ _ h => h) (by kernel_rfl) (by kernel_rfl) (Or.inl ⟨by rfl, ?_⟩) ?_
 rotate_left
 ·(intro w9; go_simp; try with_reducible rfl)
 try simp only [lz1, lz2, lz3, Act.put, lz4, lz5, lz6]
 refine AnyT.nil (by kernel_rfl) ?_
 have hb1 := (HW.out.2.2.1.c0 HW0.out).chg HC6.out hgt
 have hgt6 : ¬ T6 gt := fun h => (HSB6.out gt h).elim hgt fun h => by have := (HW.out.2.2.1.c0 HW0.out).lt; omega
 have hcw := (HC.out.trans0 HW0.out)
 have nw := hcw.size
 have hcT : Chg T w x1 := (hcw.mono fun _ _ h => (h : False).elim).trans HC6.out fun _ _ h => h
 have hsub : ∀ b, T6 b → Ext T w x1 b := fun b hb => (HSB6.out b hb).back nw
 have HF := hide (And.intro hb1 (And.intro hgt6 (And.intro hcT hsub)))
 clear hb1 hgt6 hcw nw hcT hsub
 go_wp2_with fail
 go_ret
 exact ⟨rfl, T6, ⟨ids, ct, r, ps, HS6.out, HF.out.2.1, HF.out.1, hTR, hnd, hin, hlen⟩, HF.out.2.2.2, HF.out.2.2.1.mono fun b _ h => .inl h⟩
set_option maxHeartbeats 16000000 in
theorem tOneGoneD (hT : Tree w T g hand pre q n gt h l) (hh : 64 ≤ h) (hq : q + 70 ≤ 900000) (hx : RdB w G (.slice XA xn xc) k) (hG : ∀ b, G b → ¬ T b) :
  Calls Tryz.prog 58 #[.pointer (some ⟨gt, 0, none⟩), .agg #[.slice XA xn xc, .slice YA yn yc, .bool true]] w fun e w' => e = .returned (.int .i64 3) ∧ ∃ (T' : Nat → Prop), Tree w' T' g hand pre (q + 65) n gt h l ∧ (∀ b, T' b → Ext T w w' b) ∧ Chg (fun b => T b ∨ b = gt) w w' := by
 obtain ⟨ids, ct, r, ps, hS, hgt, hb, hTR, hnd, hin, hlen⟩ := hT
 have hr := Blk.new w 86 #[.slice XA xn xc, .slice YA yn yc, .bool true]
 have hcr := (Chg.refl Non w).alloc (.cells #[.slice XA xn xc, .slice YA yn yc, .bool true] 86)
 have hTl := hS.lt
 go_enter Tryz.func58, Tryz.ntmps58
 go_upto_region 1 with fail
 have hS1 := hS.c0 hcr
 have hb1 := hb.c0 hcr
 have hx1 := hx.c0 hcr
 obtain ⟨N, hN⟩ : ∃ N, N = w.heap.size := ⟨_, rfl⟩
 rw [← hN] at hr ⊢
 generalize World.alloc w _ = w1 at hr hcr hS1 hb1 hx1 ⊢
 obtain ⟨r0, r1, r2⟩ := blk3 hr
 have HW := hide (And.intro hr (And.intro hS1 (And.intro hb1 hx1)))
 have HC := hide hcr
 have HTL := hide hTl
 clear hr hcr hS1 hb1 hx1 hS hb hx hTl hN
 go_upto_region 2 with fail
 clear r0 r1 r2
 refine wp_region_T (Chg Non w1) 7 (by kernel_rfl) ?_
 have HW0 := hide ((Chg.refl Non w1).drew)
 generalize World.drew w1 = x0 at HW0 ⊢
 refine AnyT.takeM (i := 0) (v := ?_) rfl (by kernel_rfl) (by kernel_rfl) (fun _ _ _ h => h) (by kernel_rfl) (by kernel_rfl) (Or.inl ⟨by rfl, ?_⟩) HW0.out ?_
 rotate_left
 ·(intro w9 h9; go_simp; try with_reducible rfl)
 try simp only [lz1, lz2, lz3, Act.put, lz4, lz5, lz6]
 refine AnyT.takeM (i := 1) (v := ?_) rfl (by kernel_rfl) (by kernel_rfl) (fun _ _ _ h => h) (by kernel_rfl) (by kernel_rfl) (Or.inl ⟨by rfl, ?_⟩) HW0.out ?_
 rotate_left
 ·(intro w9 h9; go_simp; try with_reducible rfl)
 try simp only [lz1, lz2, lz3, Act.put, lz4, lz5, lz6]
 refine AnyT.takeM (i := 2) (v := ?_) rfl (by kernel_rfl) (by kernel_rfl) (fun _ _ _ h => h) (by kernel_rfl) (by kernel_rfl) (Or.inl ⟨by rfl, ?_⟩) HW0.out ?_
 rotate_left
 ·(intro w9 h9; go_simp; try with_reducible rfl)
 try simp only [lz1, lz2, lz3, Act.put, lz4, lz5, lz6]
 refine AnyT.takeM (i := 3) (v := ?_) rfl (by kernel_rfl) (by kernel_rfl) (fun _ _ _ h => h) (by kernel_rfl) (by kernel_rfl) (Or.inl ⟨by rfl, ?_⟩) HW0.out ?_
 rotate_left
 ·(intro w9 h9; go_simp; try with_reducible rfl)
 try simp only [lz1, lz2, lz3, Act.put, lz4, lz5, lz6]
 refine AnyT.takeM (i := 4) (v := ?_) rfl (by kernel_rfl) (by kernel_rfl) (fun _ _ _ h => h) (by kernel_rfl) (by kernel_rfl) (Or.inl ⟨by rfl, ?_⟩) HW0.out ?_
 rotate_left
 ·(intro w9 h9; obtain ⟨y0, y1⟩ := blk2 (HW.out.2.2.1.c0 h9); go_simp; try with_reducible rfl)
 try simp only [lz1, lz2, lz3, Act.put, lz4, lz5, lz6]
 refine AnyT.takeM (i := 5) (v := ?_) rfl (by kernel_rfl) (by kernel_rfl) (fun _ _ _ h => h) (by kernel_rfl) (by kernel_rfl) (Or.inl ⟨by rfl, ?_⟩) HW0.out ?_
 rotate_left
 ·(intro w9 h9; go_simp; try with_reducible rfl)
 try simp only [lz1, lz2, lz3, Act.put, lz4, lz5, lz6]
 refine AnyT.takeM (i := 6) (v := ?_) rfl (by kernel_rfl) (by kernel_rfl) (fun _ _ _ h => h) (by kernel_rfl) (by kernel_rfl) (Or.inl ⟨by rfl, ?_⟩) HW0.out ?_
 rotate_left
 ·(intro w9 h9; obtain ⟨y0, y1, y2⟩ := blk3 (HW.out.1.c0 h9); go_simp; try with_reducible rfl)
 try simp only [lz1, lz2, lz3, Act.put, lz4, lz5, lz6]
 refine AnyT.one (i := 7) (by kernel_rfl) rfl (fun K hK => ?_)
 rw [if_pos (by rfl)]
 try simp only [lz1, lz2, lz3, Act.put, lz4, lz5, lz6]
 have hcc := tDropDeep 64 (d := 1) (HW.out.2.1.c0 HW0.out) (HW.out.2.2.1.c0 HW0.out) hgt hTR hnd hin (by omega) (by omega) (by omega) (HW.out.2.2.2.c0 HW0.out) hG
 go_wp2_with (go_at_call 88; refine hcc.mono ?_; rintro e x1 ⟨rfl, T6, hS6, hsub6, hc6⟩)
 refine hK.out _ _ (fun h => absurd h (by decide)) ?_
 have HS6 := hide hS6
 have HSB6 := hide hsub6
 have HC6 := hide hc6
 clear hcc hS6 hsub6 hc6
 clear hK K
 try simp only [lz1, lz2, lz3, Act.put, lz4, lz5, lz6]
 refine AnyT.takeL (i := 8) (v := ?_) rfl (by kernel_rfl) (by kernel_rfl) (fun _ _ _ h => h) (by kernel_rfl) (by kernel_rfl) (Or.inl ⟨by rfl, ?_⟩) ?_
 rotate_left
 ·(intro w9; go_simp; try with_reducible rfl)
 try simp only [lz1, lz2, lz3, Act.put, lz4, lz5, lz6]
 refine AnyT.takeL (i := 9) (v := ?_) rfl (by kernel_rfl) (by kernel_rfl) (fun _ _ _ h => h) (by kernel_rfl) (by kernel_rfl) (Or.inl ⟨by rfl, ?_⟩) ?_
 rotate_left
 ·(intro w9; go_simp; try with_reducible rfl)
 try simp only [lz1, lz2, lz3, Act.put, lz4, lz5, lz6]
 refine AnyT.takeL (i := 11) (v := ?_) rfl (by kernel_rfl) (by kernel_rfl) (fun _ _ _ h => h) (by kernel_rfl) (by kernel_rfl) (Or.inl ⟨by rfl, ?_⟩) ?_
 rotate_left
 ·(intro w9; go_simp; try with_reducible rfl)
 try simp only [lz1, lz2, lz3, Act.put, lz4, lz5, lz6]
 refine AnyT.takeL (i := 10) (v := ?_) rfl (by kernel_rfl) (by kernel_rfl) (fun _ _ _ h => h) (by kernel_rfl) (by kernel_rfl) (Or.inl ⟨by rfl, ?_⟩) ?_
 rotate_left
 ·(intro w9; go_simp; try with_reducible rfl)
 try simp only [lz1, lz2, lz3, Act.put, lz4, lz5, lz6]
 refine AnyT.takeL (i := 12) (v := ?_) rfl (by kernel_rfl) (by kernel_rfl) (fun _ _ _ h => h) (by kernel_rfl) (by kernel_rfl) (Or.inl ⟨by rfl, ?_⟩) ?_
 rotate_left
 ·(intro w9; go_simp; try with_reducible rfl)
 try simp only [lz1, lz2, lz3, Act.put, lz4, lz5, lz6]
 refine AnyT.nil (by kernel_rfl) ?_
 have hb1 := (HW.out.2.2.1.c0 HW0.out).chg HC6.out hgt
 have hgt6 : ¬ T6 gt := fun h => (HSB6.out gt h).elim hgt fun h => by have := (HW.out.2.2.1.c0 HW0.out).lt; omega
 have hcw := (HC.out.trans0 HW0.out)
 have nw := hcw.size
 have hcT : Chg T w x1 := (hcw.mono fun _ _ h => (h : False).elim).trans HC6.out fun _ _ h => h
 have hsub : ∀ b, T6 b → Ext T w x1 b := fun b hb => (HSB6.out b hb).back nw
 have HF := hide (And.intro hb1 (And.intro hgt6 (And.intro hcT hsub)))
 clear hb1 hgt6 hcw nw hcT hsub
 go_wp2_with fail
 go_ret
 exact ⟨rfl, T6, ⟨ids, ct, r, ps, HS6.out, HF.out.2.1, HF.out.1, hTR, hnd, hin, hlen⟩, HF.out.2.2.2, HF.out.2.2.1.mono fun b _ h => .inl h⟩
/-- a tree with at most so many deeds, pages and levels -/
theorem Tree.le {q' n' : Nat} (hT : Tree w T g hand pre q n gt h l) (hq : q ≤ q') (hn : n ≤ n') : Tree w T g hand pre q' n' gt h l := by
 obtain ⟨ids, ct, r, ps, hS, h1, h2, h3, h4, h5, h6⟩ := hT
 exact ⟨ids, ct, r, ps, hS.le_q hq, h1, h2, h3, h4, h5, Nat.le_trans h6 hn⟩
theorem Tree.c0 {w' : World} (hT : Tree w T g hand pre q n gt h l) (hc : Chg Non w w') : Tree w' T g hand pre q n gt h l := by
 obtain ⟨ids, ct, r, ps, hS, h1, h2, h3, h4, h5, h6⟩ := hT
 exact ⟨ids, ct, r, ps, hS.c0 hc, h1, h2.c0 hc, h3, h4, h5, h6⟩
theorem Tree.chg {w' : World} {S : Nat → Prop} (hT : Tree w T g hand pre q n gt h l) (hc : Chg S w w') (hS : ∀ b, T b → ¬ S b) (hg : ¬ S gt) : Tree w' T g hand pre q n gt h l := by
 obtain ⟨ids, ct, r, ps, hS0, h1, h2, h3, h4, h5, h6⟩ := hT
 exact ⟨ids, ct, r, ps, hS0.chg hc hS, h1, h2.chg hc hg, h3, h4, h5, h6⟩
theorem Tree.upL (hT : Tree w T g hand pre q n gt h l) : UpL l := by
 obtain ⟨ids, ct, r, ps, hS, h1, h2, h3, h4, h5, h6⟩ := hT
 exact h3.upL
theorem Tree.lt (hT : Tree w T g hand pre q n gt h l) : (∀ b, T b → b < w.heap.size) ∧ gt < w.heap.size ∧ ¬ T gt := by
 obtain ⟨ids, ct, r, ps, hS, h1, h2, h3, h4, h5, h6⟩ := hT
 exact ⟨hS.lt, h2.lt, h1⟩
end
/-- what Apply answers -/
def ApPost (w : World) (T : Nat → Prop) (g hand : Nat) (pre : ByteArray) (q n gt h B C : Nat) (l : List KV) (ws : List WrS) (e : Ending) (w' : World) : Prop :=
 ∃ (z : Int) (T' : Nat → Prop) (h' : Nat) (l' : List KV), e = .returned (.int .i64 z) ∧ z ≠ 9 ∧ (h + ws.length ≤ 64 → l' = (appR l ws).1 ∧ z = (appR l ws).2) ∧ h' ≤ h + ws.length ∧ Tree w' T' g hand pre (q + ws.length * B + 100) (n + ws.length * C) gt h' l' ∧ (∀ b, T' b → Ext T w w' b) ∧ Chg (fun b => T b ∨ b = gt) w w'
/-- how far Apply's second loop has come: k writes of ws are done -/
def ApSt (w : World) (T : Nat → Prop) (g hand : Nat) (pre : ByteArray) (q n gt h B C : Nat) (l : List KV) (ws : List WrS) (k : Nat) (w' : World) : Prop :=
 ∃ (T' : Nat → Prop) (h' : Nat), h' ≤ h + k ∧ Tree w' T' g hand pre (q + k * B) (n + k * C) gt h' (apWs l (ws.take k)) ∧ (∀ b, T' b → Ext T w w' b) ∧ Chg (fun b => T b ∨ b = gt) w w'
section
variable {w : World} {T G : Nat → Prop} {g hand q n gt h B C : Nat} {pre : ByteArray} {l : List KV} {ws : List WrS} {u : Value}
theorem ApSt.step {k : Nat} {wr w2 : World} {T1 T2 : Nat → Prop} {h2 : Nat} (hk : k < ws.length) (hc1 : Chg (fun b => T b ∨ b = gt) w wr) (hs1 : ∀ b, T1 b → Ext T w wr b) (hh : h2 ≤ h + (k + 1)) (hT : Tree w2 T2 g hand pre (q + k * B + B) (n + k * C + C) gt h2 (apW (apWs l (ws.take k)) ws[k])) (hs2 : ∀ b, T2 b → Ext T1 wr w2 b) (hc2 : Chg (fun b => T1 b ∨ b = gt) wr w2) : ApSt w T g hand pre q n gt h B C l ws (k + 1) w2 := by
 have n1 := hc1.size
 have n2 := hc2.size
 refine ⟨T2, h2, hh, by rw [apWs_take hk, Nat.succ_mul, Nat.succ_mul, ← Nat.add_assoc, ← Nat.add_assoc]; exact hT, fun b hb => ?_, hc1.trans hc2 fun b hb h => ?_⟩
 ·rcases hs2 b hb with h | h
  ·exact (hs1 b h).up n2
  ·exact .inr ⟨by omega, h.2⟩
 ·rcases h with h | h
  ·rcases hs1 b h with h | h
   ·exact .inl h
   ·omega
  ·exact .inr h
set_option maxHeartbeats 16000000 in
theorem tApply (hT : Tree w T g hand pre q n gt h l) (hw : RdW w G u ws) (hG : ∀ b, G b → ¬ T b ∧ b ≠ gt) (hB : 4 * (h + ws.length) + 8 ≤ B) (hC : h + ws.length + 2 ≤ C) (hq : q + ws.length * B + 100 ≤ 900000) (hn : n + ws.length * C + C < 65536) (hlen : ws.length ≤ 100000) :
  Calls Tryz.prog 18 #[.pointer (some ⟨gt, 0, none⟩), u] w (ApPost w T g hand pre q n gt h B C l ws) := by
 obtain ⟨U, uc, rfl, huc, hum⟩ := hw.shape
 unfold maxLen at hum
 have HW := hide (RdE.toW (RdE.lt (RdW.toE hw)))
 have HT := hide hT
 have HB := hide (And.intro hB (And.intro hq (And.intro hn (And.intro hC hlen))))
 have HG := hide hG
 clear hw hT hB hC hq hn hG
 go_enter Tryz.func18, Tryz.ntmps18
 go_wp2_with fail
 go_loopw [12] (fun i wr => ∃ k : Nat, k ≤ ws.length ∧ i = .int .i64 (k : Int) ∧ Hid (∀ x ∈ ws.take k, bigW x = false) ∧ Hid (Chg Non w wr)) (fun i _ => ws.length - (intOf i).toNat)
 case atStart => exact ⟨0, Nat.zero_le _, rfl, hide (by simp), hide (Chg.refl _ _)⟩
 case round =>
  obtain ⟨k, hk, rfl, hb, hc⟩ := hrel
  by_cases hlt : k < ws.length
  ·obtain ⟨ad, a, b, rfl, hf, c0, c1, c2, ra, rb⟩ := (HW.out.c0 hc.out).at_ hlt
   obtain ⟨⟨xa, xb, xf⟩, hx⟩ : ∃ x, x = ws[k] := ⟨_, rfl⟩
   rw [← hx] at ra rb c2
   obtain ⟨AA, ac, rfl, _, _⟩ := ra.shape
   obtain ⟨BA, bc, rfl, _, _⟩ := rb.shape
   have HX := hide hx
   have HLT := hide hlt
   clear hx ra rb
   dsimp only at c2 c0 c1
   by_cases h1 : 64 < xa.length
   ·cases xf with
    | true =>
     have e1 : decide ((xa.length : Int) > 64) = true := decide_eq_true (by omega)
     have e2 : decide (64 < (xa.length : Int)) = true := decide_eq_true (by omega)
     have e3 : decide (64 < xa.length) = true := decide_eq_true (by omega)
     go_wp2_with fail
     go_ret
     have hcX := (hc.out.alloc (.cells #[.slice AA xa.length ac, .slice BA xb.length bc, .bool true] 86))
     have hapr := appR_big (l := l) HLT.out (by rw [← HX.out]; simp [bigW, h1])
     exact ⟨2, T, h, l, rfl, by decide, fun _ => by rw [hapr]; exact ⟨rfl, rfl⟩, by omega, (HT.out.c0 hcX).le (by omega) (by omega), fun b hb => .inl hb, hcX.mono fun _ _ h => (h : False).elim⟩
    | false =>
     have e1 : decide ((xa.length : Int) > 64) = true := decide_eq_true (by omega)
     have e2 : decide (64 < (xa.length : Int)) = true := decide_eq_true (by omega)
     have e3 : decide (64 < xa.length) = true := decide_eq_true (by omega)
     go_wp2_with fail
     go_ret
     have hcX := (hc.out.alloc (.cells #[.slice AA xa.length ac, .slice BA xb.length bc, .bool false] 86))
     have hapr := appR_big (l := l) HLT.out (by rw [← HX.out]; simp [bigW, h1])
     exact ⟨2, T, h, l, rfl, by decide, fun _ => by rw [hapr]; exact ⟨rfl, rfl⟩, by omega, (HT.out.c0 hcX).le (by omega) (by omega), fun b hb => .inl hb, hcX.mono fun _ _ h => (h : False).elim⟩
   ·cases xf with
    | true =>
     have e1 : decide ((xa.length : Int) > 64) = false := decide_eq_false (by omega)
     have e2 : decide (64 < (xa.length : Int)) = false := decide_eq_false (by omega)
     have e3 : decide (64 < xa.length) = false := decide_eq_false (by omega)
     go_wp2_with fail
     go_roundw
     case rel => exact ⟨k + 1, HLT.out, by go_num, hide (big_take HLT.out hb.out (by rw [← HX.out]; simp [bigW, h1])), hide (hc.out.alloc _)⟩
     case measure => (have := HLT.out; simp [intOf]; omega)
    | false =>
     by_cases h2 : 128 < xb.length
     ·have e1 : decide ((xa.length : Int) > 64) = false := decide_eq_false (by omega)
      have e2 : decide (64 < (xa.length : Int)) = false := decide_eq_false (by omega)
      have e3 : decide (64 < xa.length) = false := decide_eq_false (by omega)
      have g1 : decide ((xb.length : Int) > 128) = true := decide_eq_true (by omega)
      have g2 : decide (128 < (xb.length : Int)) = true := decide_eq_true (by omega)
      have g3 : decide (128 < xb.length) = true := decide_eq_true (by omega)
      go_wp2_with fail
      go_ret
      have hcX := (hc.out.alloc (.cells #[.slice AA xa.length ac, .slice BA xb.length bc, .bool false] 86))
      have hapr := appR_big (l := l) HLT.out (by rw [← HX.out]; simp [bigW, h2])
      exact ⟨2, T, h, l, rfl, by decide, fun _ => by rw [hapr]; exact ⟨rfl, rfl⟩, by omega, (HT.out.c0 hcX).le (by omega) (by omega), fun b hb => .inl hb, hcX.mono fun _ _ h => (h : False).elim⟩
     ·have e1 : decide ((xa.length : Int) > 64) = false := decide_eq_false (by omega)
      have e2 : decide (64 < (xa.length : Int)) = false := decide_eq_false (by omega)
      have e3 : decide (64 < xa.length) = false := decide_eq_false (by omega)
      have g1 : decide ((xb.length : Int) > 128) = false := decide_eq_false (by omega)
      have g2 : decide (128 < (xb.length : Int)) = false := decide_eq_false (by omega)
      have g3 : decide (128 < xb.length) = false := decide_eq_false (by omega)
      go_wp2_with fail
      go_roundw
      case rel => exact ⟨k + 1, HLT.out, by go_num, hide (big_take HLT.out hb.out (by rw [← HX.out]; simp [bigW, h1, h2])), hide (hc.out.alloc _)⟩
      case measure => (have := HLT.out; simp [intOf]; omega)
  ·have e : k = ws.length := by omega
   subst e
   have HBG := hide (show ∀ x ∈ ws, bigW x = false from by rw [← List.take_length (l := ws)]; exact hb.out)
   have HC0 := hc
   obtain ⟨w1, hw1⟩ : ∃ w1, w1 = wr := ⟨_, rfl⟩
   rw [← hw1] at HC0 ⊢
   have hn0 := HC0.out.size
   have HST := hide (show ApSt w T g hand pre q n gt h B C l ws 0 w1 from ⟨T, h, Nat.le_refl _, by rw [Nat.zero_mul, Nat.zero_mul, Nat.add_zero, Nat.add_zero]; exact HT.out.c0 HC0.out, fun b hb => .inl hb, HC0.out.mono fun _ _ h => (h : False).elim⟩)
   clear hb hk hc hw1 HT hn0
   go_wp2_with fail
   go_loopw [34] (fun i wr => ∃ k : Nat, k ≤ ws.length ∧ i = .int .i64 (k : Int) ∧ Hid (ApSt w T g hand pre q n gt h B C l ws k wr)) (fun i _ => ws.length - (intOf i).toNat)
   case atStart => exact ⟨0, Nat.zero_le _, rfl, HST⟩
   case round =>
    obtain ⟨k, hk, rfl, hst⟩ := hrel
    obtain ⟨T1, h1, hh1, hT1, hs1, hc1⟩ := hst.out
    by_cases hlt : k < ws.length
    ·have hkB : k * B + B ≤ ws.length * B ∧ k * C + C ≤ ws.length * C := ⟨by rw [← Nat.succ_mul]; exact Nat.mul_le_mul_right _ hlt, by rw [← Nat.succ_mul]; exact Nat.mul_le_mul_right _ hlt⟩
     have hWr := HW.out.chg hc1 fun b hb h => by
      rcases h with h | h
      ·exact (HG.out b hb.1).1 h
      ·exact (HG.out b hb.1).2 h
     obtain ⟨ad, a, b, rfl, hf, c0, c1, c2, ra, rb⟩ := hWr.at_ hlt
     obtain ⟨AA, ac, rfl, _, _⟩ := ra.shape
     obtain ⟨BA, bc, rfl, _, _⟩ := rb.shape
     have hsm := HBG.out _ (List.getElem_mem hlt)
     have n1 := hc1.size
     have hG1 : ∀ b, (G b ∧ b < w.heap.size) → ¬ T1 b := fun b hb h => by
      rcases hs1 b h with h | h
      ·exact (HG.out b hb.1).1 h
      ·omega
     obtain ⟨⟨xa, xb, xf⟩, hx⟩ : ∃ x, x = ws[k] := ⟨_, rfl⟩
     rw [← hx] at ra rb c0 c1 c2 hsm
     dsimp only at ra rb c0 c1 c2
     have hbg : xa.length ≤ 64 ∧ (xf = false → xb.length ≤ 128) := by
      unfold bigW at hsm
      simp only [Bool.or_eq_false_iff, decide_eq_false_iff_not, Bool.and_eq_false_iff] at hsm
      refine ⟨by omega, fun hf => ?_⟩
      rcases hsm.2 with h | h
      ·rw [hf] at h; cases h
      ·omega
     have HX := hide (show ∀ (h' : k < ws.length), ws[k] = ⟨xa, xb, xf⟩ from fun _ => hx.symm)
     have HLT := hide hlt
     obtain ⟨al, hal⟩ : ∃ n, n = xa.length := ⟨_, rfl⟩
     obtain ⟨bl, hbl⟩ : ∃ n, n = xb.length := ⟨_, rfl⟩
     rw [← hal] at c0 ra
     rw [← hbl] at c1 rb
     have HR := hide (And.intro ra rb)
     have HT1 := hide hT1
     have HBG2 := hide hbg
     have HKB := hide hkB
     have HH1 := hide hh1
     have HS1 := hide (And.intro hs1 hc1)
     have HG1 := hide hG1
     clear hx hsm ra rb hT1 hs1 hc1 hG1 hWr n1 hal hbl hbg hkB hh1 hst hk
     go_upto_region 10 with fail
     have hcA := (Chg.refl Non wr).alloc (.cells #[.slice AA al ac, .slice BA bl bc, .bool xf] 86)
     have hbA := Blk.new wr 86 #[.slice AA al ac, .slice BA bl bc, .bool xf]
     generalize hww : World.alloc wr _ = w3
     rw [show wr.alloc (.cells #[.slice AA al ac, .slice BA bl bc, .bool xf] 86) = w3 from hww] at hcA hbA
     obtain ⟨r0, r1, r2⟩ := blk3 hbA
     have HT3 := hide (HT1.out.c0 hcA)
     have HR3 := hide (And.intro (HR.out.1.c0 hcA) (HR.out.2.c0 hcA))
     have HS3 := hide (And.intro HS1.out.1 (And.intro (HS1.out.2.trans0 hcA) hcA.size))
     clear hww hcA hbA c0 c1 c2 HT1 HR
     by_cases hd : h1 ≤ 63
     ·cases xf with
      | true =>
       have hcc := tOneGone (YA := BA) (yn := bl) (yc := bc) HT3.out hd (by have := HH1.out; have := HKB.out; have := HB.out; omega) HR3.out.1 HG1.out
       skip
       go_wp2_with (go_at_call 58; refine hcc.mono ?_; rintro e w4 ⟨rfl, T2, h2, hh2, hT2, hs2, hc2⟩)
       have hT4 : Tree w4 T2 g hand pre (q + k * B + B) (n + k * C + C) gt h2 (apW (apWs l (ws.take k)) (ws[k]'HLT.out)) := by rw [HX.out HLT.out]; exact hT2.le (by have := HH1.out; have := HB.out; omega) (by have := HH1.out; have := HB.out; omega)
       have HST4 : Hid (ApSt w T g hand pre q n gt h B C l ws (k + 1) w4) := hide (ApSt.step HLT.out HS3.out.2.1 (fun b hb => (HS3.out.1 b hb).up HS3.out.2.2) (by have := HH1.out; omega) hT4 (fun b hb => hs2 b hb) hc2)
       go_roundw
       case rel => exact ⟨k + 1, HLT.out, by go_num, HST4⟩
       case measure => (have := HLT.out; simp [intOf]; omega)
      | false =>
       have hcc := tOnePut HT3.out hd (by have := HH1.out; have := HKB.out; have := HB.out; omega) (by have := HH1.out; have := HKB.out; have := HB.out; omega) HR3.out.1 HR3.out.2 HG1.out HBG2.out.1 (HBG2.out.2 rfl)
       skip
       go_wp2_with (go_at_call 58; refine hcc.mono ?_; rintro e w4 ⟨rfl, T2, h2, hh2, hT2, hs2, hc2⟩)
       have hT4 : Tree w4 T2 g hand pre (q + k * B + B) (n + k * C + C) gt h2 (apW (apWs l (ws.take k)) (ws[k]'HLT.out)) := by rw [HX.out HLT.out]; exact hT2.le (by have := HH1.out; have := HB.out; omega) (by have := HH1.out; have := HB.out; omega)
       have HST4 : Hid (ApSt w T g hand pre q n gt h B C l ws (k + 1) w4) := hide (ApSt.step HLT.out HS3.out.2.1 (fun b hb => (HS3.out.1 b hb).up HS3.out.2.2) (by have := HH1.out; omega) hT4 (fun b hb => hs2 b hb) hc2)
       go_roundw
       case rel => exact ⟨k + 1, HLT.out, by go_num, HST4⟩
       case measure => (have := HLT.out; simp [intOf]; omega)
     ·cases xf with
      | true =>
       have hcc := tOneGoneD (YA := BA) (yn := bl) (yc := bc) HT3.out (by omega) (by have := HKB.out; have := HB.out; omega) HR3.out.1 HG1.out
       go_wp2_with (go_at_call 58; refine hcc.mono ?_; rintro e w4 ⟨rfl, T2, hT2, hs2, hc2⟩)
       go_ret
       have n3 := HS3.out.2.1.size
       have n4 := hc2.size
       have hkb := HKB.out
       have hh := HH1.out
       have hlt := HLT.out
       refine ⟨3, T2, h1, _, rfl, by decide, fun h => by omega, by omega, hT2.le (by omega) (by omega), fun b hb => ?_, HS3.out.2.1.trans hc2 fun b hb h => ?_⟩
       ·rcases hs2 b hb with h | h
        ·exact ((HS3.out.1 b h).up HS3.out.2.2).up n4
        ·exact .inr ⟨by omega, h.2⟩
       ·rcases h with h | h
        ·rcases (HS3.out.1 b h) with h | h
         ·exact .inl h
         ·omega
        ·exact .inr h
      | false =>
       have hcc := tOnePutD HT3.out (by omega) (by have := HKB.out; have := HB.out; omega) HR3.out.1 HR3.out.2 HG1.out
       go_wp2_with (go_at_call 58; refine hcc.mono ?_; rintro e w4 ⟨rfl, T2, hT2, hs2, hc2⟩)
       go_ret
       have n3 := HS3.out.2.1.size
       have n4 := hc2.size
       have hkb := HKB.out
       have hh := HH1.out
       have hlt := HLT.out
       refine ⟨3, T2, h1, _, rfl, by decide, fun h => by omega, by omega, hT2.le (by omega) (by omega), fun b hb => ?_, HS3.out.2.1.trans hc2 fun b hb h => ?_⟩
       ·rcases hs2 b hb with h | h
        ·exact ((HS3.out.1 b h).up HS3.out.2.2).up n4
        ·exact .inr ⟨by omega, h.2⟩
       ·rcases h with h | h
        ·rcases (HS3.out.1 b h) with h | h
         ·exact .inl h
         ·omega
        ·exact .inr h
    ·have e : k = ws.length := by omega
     subst e
     rw [List.take_length] at hT1
     go_wp2_with fail
     go_ret
     refine ⟨0, T1, h1, _, rfl, by decide, fun _ => ?_, hh1, hT1.le (by omega) (Nat.le_refl _), hs1, hc1⟩
     rw [appR_ok HBG.out]
     exact ⟨rfl, rfl⟩
end
end Go.Proofs.YtliimeoblffigaaGreat

set_option maxRecDepth 100000
namespace Go.Proofs.YtliimeoblffigaaGreat
open Go.RowKit Go.Maps
set_option linter.unusedVariables false
set_option linter.unusedSimpArgs false

/-- a pool just made -/
theorem poolNew {w : World} {T : Nat → Prop} {gd hand : Nat} {pre : ByteArray} {S : DSt} (h : DrvAt w (supP pre) T gd S) (hp : pre.size ≤ 500) {w4 : World}
  (hw : w4 = (((w.alloc (.map #[] 0)).alloc (.map #[] 0)).alloc (.map #[] 0)).alloc (.cells #[.pointer (some ⟨gd, 0, none⟩), .string pre, .int .i64 (hand : Int), .map (some w.heap.size), .map (some (w.heap.size + 1)), .map (some (w.heap.size + 2)), .int .i64 0, .int .i64 0, .int .i64 0, .int .i64 0] 171)) :
  PoolM w4 T (fun b => w.heap.size ≤ b ∧ b < w.heap.size + 4) Non gd (w.heap.size + 3) pre hand S [] [] [] w.heap.size (w.heap.size + 1) (w.heap.size + 2) 0 0 0 0 ∧ Chg Non w w4 ∧ w4.heap.size = w.heap.size + 4 := by
 have s1 : (w.alloc (.map #[] 0)).heap.size = w.heap.size + 1 := Array.size_push ..
 have s2 : ((w.alloc (.map #[] 0)).alloc (.map #[] 0)).heap.size = w.heap.size + 2 := by show (Array.push _ _).size = _; rw [Array.size_push, s1]
 have s3 : (((w.alloc (.map #[] 0)).alloc (.map #[] 0)).alloc (.map #[] 0)).heap.size = w.heap.size + 3 := by show (Array.push _ _).size = _; rw [Array.size_push, s2]
 have s4 : w4.heap.size = w.heap.size + 4 := by rw [hw]; show (Array.push _ _).size = _; rw [Array.size_push, s3]
 have c1 := (Chg.refl Non w).alloc (.map #[] 0)
 have c2 := (Chg.refl Non (w.alloc (.map #[] 0))).alloc (.map #[] 0)
 have c3 := (Chg.refl Non ((w.alloc (.map #[] 0)).alloc (.map #[] 0))).alloc (.map #[] 0)
 have c4 : Chg Non (((w.alloc (.map #[] 0)).alloc (.map #[] 0)).alloc (.map #[] 0)) w4 := by rw [hw]; exact (Chg.refl Non _).alloc _
 have m1 : (w.alloc (.map #[] 0)).ownsMap Tryz.prog 3 RI w.heap.size 0 (dat klI eZ []) := World.ownsMap_made w Tryz.prog 3 RI
 have m2 := World.ownsMap_made (w.alloc (.map #[] 0)) Tryz.prog 3 RI
 rw [s1] at m2
 have m3 := World.ownsMap_made ((w.alloc (.map #[] 0)).alloc (.map #[] 0)) Tryz.prog 3 heldR
 rw [s2] at m3
 have hb := Blk.new (((w.alloc (.map #[] 0)).alloc (.map #[] 0)).alloc (.map #[] 0)) 171 #[.pointer (some ⟨gd, 0, none⟩), .string pre, .int .i64 (hand : Int), .map (some w.heap.size), .map (some (w.heap.size + 1)), .map (some (w.heap.size + 2)), .int .i64 0, .int .i64 0, .int .i64 0, .int .i64 0]
 rw [s3, ← hw] at hb
 have hc := ((c1.trans0 c2).trans0 c3).trans0 c4
 have hTl := h.lt'
 refine ⟨⟨h.c0 hc, hb, ownsMap_chg m1 ((c2.trans0 c3).trans0 c4) (fun h => h), ownsMap_chg m2 (c3.trans0 c4) (fun h => h), ownsMap_chg m3 c4 (fun h => h), fun p hp => by simp at hp, ⟨by omega, by omega, by omega, by omega⟩, fun p hp => by simp at hp, fun p hp => by simp at hp, ⟨by omega, by omega, by omega⟩, fun b hb => hb.elim, fun b hb => by omega, fun b hb e => by have := hTl b e; omega, hp⟩, hc, s4⟩

set_option maxHeartbeats 8000000 in
theorem plOpen0 {w : World} {T : Nat → Prop} {gd hand : Nat} {pre : ByteArray} {S : DSt} (h : DrvAt w (supP pre) T gd S) (hd : S.dead = false) (hp : pre.size ≤ 500) (hh : 1 ≤ hand) (hh2 : hand ≤ 1000000) (hm : S.seen (nm pre) = none) :
  Calls Tryz.prog 55 #[.pointer (some ⟨gd, 0, none⟩), .string pre, .int .i64 (hand : Int)] w fun e w' => ∃ g nv TP bs bf ba, e = .returned (.tuple #[.pointer (some ⟨g, 0, none⟩), nv, .int .i64 0]) ∧ PoolM w' T TP Non gd g pre hand S [] [] [] bs bf ba 0 0 0 0 ∧ (∀ b, TP b → w.heap.size ≤ b ∧ b < w'.heap.size) ∧ Chg Non w w' := by
 obtain ⟨w4, hw4⟩ : ∃ w4, w4 = (((w.alloc (.map #[] 0)).alloc (.map #[] 0)).alloc (.map #[] 0)).alloc (.cells #[.pointer (some ⟨gd, 0, none⟩), .string pre, .int .i64 (hand : Int), .map (some w.heap.size), .map (some (w.heap.size + 1)), .map (some (w.heap.size + 2)), .int .i64 0, .int .i64 0, .int .i64 0, .int .i64 0] 171) := ⟨_, rfl⟩
 obtain ⟨hP, hc4, hs4⟩ := poolNew h hp hw4
 have hmeta := plMeta hP
 have hmk := @run_makeMap Tryz.prog
 have hmax : max (1 : Int) (hand : Int) = (hand : Int) := by omega
 have s1 : (w.alloc (.map #[] 0)).heap.size = w.heap.size + 1 := Array.size_push ..
 have s2 : ((w.alloc (.map #[] 0)).alloc (.map #[] 0)).heap.size = w.heap.size + 2 := by show (Array.push _ _).size = _; rw [Array.size_push, s1]
 have s3 : (((w.alloc (.map #[] 0)).alloc (.map #[] 0)).alloc (.map #[] 0)).heap.size = w.heap.size + 3 := by show (Array.push _ _).size = _; rw [Array.size_push, s2]
 have HP := hide hP
 have HM := hide hm
 have HD := hide hd
 have HC4 := hide hc4
 have HS4 := hide hs4
 have HW4 := hide hw4
 clear hP hm hd hc4 hs4 hw4 h
 go_enter Tryz.func55, Tryz.ntmps55
 go_upto_region 2 with fail
 rw [← HW4.out]
 clear hmk hmax s1 s2 s3
 obtain ⟨s0, hs0⟩ : ∃ s0, s0 = w.heap.size := ⟨_, rfl⟩
 rw [← hs0] at hmeta HP HS4 ⊢
 have HS0 := hide hs0
 have n4 := HC4.out.size
 have hs4' := HS4.out
 clear hs0 HW4
 have hm1' : S.seen (nmB pre).data.toList = none := HM.out
 have hbm : ((S.seen (nmB pre).data.toList).getD []).length ≤ 1000000000 := by rw [hm1']; simp
 have hrd := fun {wx : World} (hc : Chg Non w4 wx) => dgRead (HP.out.drv.c0 hc) HD.out (nmB pre) (by unfold nmB; rw [ByteArray.size_append, show (⟨#[109, 101, 116, 97]⟩ : ByteArray).size = 4 from rfl]; unfold maxLen; omega) hbm
 simp only [hm1'] at hrd
 clear hm1'
 go_wp2_with fail
 refine hmeta.mono ?_
 rintro e w5 ⟨rfl, hc5⟩
 have hrd5 := hrd hc5
 clear hmeta hrd hbm
 go_wp2_with fail
 refine hrd5.mono ?_
 rintro e w6 ⟨hc6, rfl⟩
 clear hrd5
 go_wp2_with fail
 go_ret3
 exact ⟨_, _, _, _, _, _, rfl, (HP.out.c0 hc5).c0 hc6, fun b hb => by have h1 := HS0.out; have h2 := hc5.size; have h3 := hc6.size; omega, (HC4.out.trans0 hc5).trans0 hc6⟩
end Go.Proofs.YtliimeoblffigaaGreat

set_option maxRecDepth 100000
namespace Go.Proofs.YtliimeoblffigaaGreat
open Go.RowKit Go.Maps
set_option linter.unusedVariables false
set_option linter.unusedSimpArgs false

theorem pg_new {pre : ByteArray} {sf : List (Int × Int)} (hs : SafeM sf []) : PG pre ⟨noF, noF, [], none, false⟩ [] sf [] [] none :=
 ⟨PInv.new, hs, rfl, fun x hx => by simp at hx, rfl, fun _ => rfl, by simp [noF], fun k => by simp [noF], fun x e => by cases e⟩
section
variable {w : World} {T : Nat → Prop} {g hand q : Nat} {pre : ByteArray} {ids : List Nat} {ct : Nat → List UInt8}
set_option maxHeartbeats 8000000 in
theorem btNew (hS : TS w T g hand pre q ids ct) (hn : ids.length < 65536) (hq : q ≤ 900000) (hg : g < w.heap.size) :
  Calls Tryz.prog 57 #[.pointer (some ⟨g, 0, none⟩)] w fun e w' => ∃ gt T', e = .returned (.tuple #[.pointer (some ⟨gt, 0, none⟩), .int .i64 0]) ∧ Tree w' T' g hand pre (q + 1) (ids.length + 1) gt 0 [] ∧ (∀ b, T' b → Ext T w w' b) ∧ w.heap.size ≤ gt ∧ Chg T w w' := by
 have hal := tAlloc hS hn
 have HTL := hide hS.lt
 clear hS
 go_enter Tryz.func57, Tryz.ntmps57
 go_wp2_with fail
 refine hal.mono ?_
 rintro e w2 ⟨i, ids2, rfl, hi1, hi2, hi3, hi4, hS2, hc2⟩
 have HI := hide (And.intro hi1 (And.intro hi2 (And.intro hi3 hi4)))
 have HS2 := hide hS2
 have HC2 := hide hc2
 clear hal hi1 hi2 hi3 hi4 hS2 hc2
 go_upto_region 5 with fail
 have hb := Blk.new w2 121 #[.pointer (some ⟨g, 0, none⟩), .int .i64 (i : Int)]
 have hc := (Chg.refl Non w2).alloc (.cells #[.pointer (some ⟨g, 0, none⟩), .int .i64 (i : Int)] 121)
 obtain ⟨gt, hgt⟩ : ∃ x, x = w2.heap.size := ⟨_, rfl⟩
 rw [← hgt] at hb ⊢
 generalize World.alloc w2 _ = w3 at hb hc ⊢
 have hS3 := HS2.out.c0 hc
 have n2 := HC2.out.size
 have hgT : ¬ T gt := fun h => by have := HTL.out gt h; omega
 have hsv := tSaveL (l := []) hS3 hb hgT ((HI.out.2.2.1 i).2 (.inl rfl)) hq (RdBB.nil_ w3 (fun _ => False)) (RdBB.nil_ w3 (fun _ => False)) (NA := none) (nn := 0) (nc := 0) (H := fun _ => False) (RdV.nil_ w3 (fun _ => False) 1) ⟨fun p hp => by simp at hp, fun i p q hp => by simp at hp⟩ (by decide)
 have HB := hide hb
 have HC := hide hc
 have HG := hide (And.intro hgT (And.intro hgt n2))
 clear hb hc hS3 hgT hgt n2
 go_wp2_with fail
 refine hsv.mono ?_
 rintro e w4 ⟨rfl, hS4, hc4⟩
 have HS4 := hide hS4
 have HC4 := hide hc4
 clear hsv hS4 hc4
 go_wp2_with fail
 go_ret2
 have hh := HG.out
 have n3 := HC.out.size
 have n4 := HC4.out.size
 have hU := (putL_one (ct := upd ct i zeros) (l := []) (ids := ids2) ((HI.out.2.2.1 i).2 (.inl rfl)) HI.out.2.1 ⟨fun p hp => by simp at hp, fun i p q hp => by simp at hp⟩ (by decide)).2
 refine ⟨gt, _, rfl, ⟨ids2, _, i, [i], HS4.out, fun h => ?_, HB.out.chg HC4.out hh.1, hU, by simp, fun j hj => by rw [List.mem_singleton.1 hj]; exact (HI.out.2.2.1 i).2 (.inl rfl), by rw [HI.out.2.2.2]; exact Nat.le_refl _⟩, fun b hb => ?_, by omega, (HC2.out.trans0 HC.out).trans HC4.out fun b _ h => h⟩
 ·rcases h with h | h
  ·exact hh.1 h
  ·have := HB.out.lt; omega
 ·rcases hb with h | h
  ·exact .inl h
  ·exact .inr ⟨by omega, h.2⟩
end
set_option maxHeartbeats 8000000 in
theorem lawPlant (w : World) (hand : Nat) (h1 : 1 ≤ hand) (h2 : hand ≤ 1000000) :
  Calls Tryz.prog 17 #[.int .i64 (hand : Int)] w fun e w' => ∃ gt g T', e = .returned (.tuple #[.pointer (some ⟨gt, 0, none⟩), .bool true]) ∧ Tree w' T' g hand ⟨#[116, 47]⟩ 1 1 gt 0 [] ∧ (∀ b, T' b → w.heap.size ≤ b) ∧ w.heap.size ≤ gt ∧ Chg Non w w' := by
 have hnew := dgNew w (supP ⟨#[116, 47]⟩)
 go_enter Tryz.func17, Tryz.ntmps17
 go_wp2_with fail
 refine hnew.mono ?_
 rintro e w2 ⟨gd, rfl, hgd, hD, hc⟩
 have hop := plOpen0 hD rfl (by decide) h1 h2 rfl
 have HC := hide hc
 have HD := hide (And.intro hgd hD.lt')
 clear hnew hc hD hgd
 go_wp2_with fail
 refine hop.mono ?_
 rintro e w3 ⟨g, nv, TP, bs, bf, ba, rfl, hP, hlo, hc3⟩
 have hS : TS w3 (fun b => Ext Non w w2 b ∨ TP b) g hand ⟨#[116, 47]⟩ 0 [] (fun i => cont (((⟨noF, noF, [], none, false⟩ : DSt).seen (nf ⟨#[116, 47]⟩)).getD []) [] [] i) :=
  ⟨⟨_, _, _, _, _, _, _, _, _, _, _, _, _, _, _, hP, pg_new ⟨Once.nil_, fun s => ⟨fun ⟨c, h, _⟩ => by simp at h, fun ⟨p, h, _⟩ => by simp at h⟩, fun p hp => by simp at hp, by simp⟩, rfl, Nat.le_refl _, Nat.zero_le _, rfl, fun _ => rfl, fun b h => .inl h, fun b h => .inr h⟩, fun b h => by
   rcases h with h | h
   ·have := HD.out.2 b h; have := hc3.size; omega
   ·exact (hlo b h).2, h1, h2⟩
 have hbt := btNew hS (by decide) (by decide) hP.blk.lt
 have HS := hide (And.intro hc3 hlo)
 clear hop hP hlo hc3 hS
 go_wp2_with fail
 refine hbt.mono ?_
 rintro e w4 ⟨gt, T', rfl, hT, hs, hgt, hc4⟩
 have HT := hide (And.intro hT (And.intro hs (And.intro hgt hc4)))
 clear hbt hT hs hgt hc4
 go_wp2_with fail
 go_ret2
 have n2 := HC.out.size
 have n3 := HS.out.1.size
 refine ⟨gt, g, T', rfl, HT.out.1, fun b hb => ?_, by have := HT.out.2.2.1; omega, (HC.out.trans0 HS.out.1).trans HT.out.2.2.2 fun b hb h => ?_⟩
 ·rcases HT.out.2.1 b hb with (h | h) | h
  ·rcases h with h | h
   ·exact h.elim
   ·exact h.1
  ·have := (HS.out.2 b h).1; omega
  ·omega
 ·rcases h with (h | h) | h
  ·exact h
  ·omega
  ·have := (HS.out.2 b h).1; omega
end Go.Proofs.YtliimeoblffigaaGreat

