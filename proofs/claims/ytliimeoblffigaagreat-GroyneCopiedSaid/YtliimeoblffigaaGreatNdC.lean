/- The walks of leaf.With and leaf.Without, of a leaf. -/
import Derived.Test.YtliimeoblffigaaGreatNdB
import Derived.Test.YtliimeoblffigaaGreatNdPG
import Derived.Test.YtliimeoblffigaaGreatDgEG
import Derived.Deep.CutRange
open List renaming getElem_toArray → lz1, getElem_cons_succ → lz2, getElem_cons_zero → lz3, setIfInBounds_toArray → lz4, set_cons_zero → lz5, set_cons_succ → lz6
set_option linter.unusedVariables false
set_option linter.unusedSimpArgs false
set_option maxRecDepth 100000
namespace Go.Proofs.YtliimeoblffigaaGreat
open Go.RowKit
set_option linter.unusedVariables false
set_option linter.unusedSimpArgs false

theorem blk4 {w : World} {g : Nat} {t : TypeId} {a b c d : Value} (h : Blk w g t #[a, b, c, d]) : (w.cell? ⟨g, 0, none⟩ = some a ∧ w.cell? ⟨g, 1, none⟩ = some b ∧ w.cell? ⟨g, 2, none⟩ = some c ∧ w.cell? ⟨g, 3, none⟩ = some d) ∧ w.frozen? ⟨g, 0, none⟩ = false ∧ w.frozen? ⟨g, 1, none⟩ = false ∧ w.frozen? ⟨g, 2, none⟩ = false ∧ w.frozen? ⟨g, 3, none⟩ = false :=
 ⟨⟨h.cell 0, h.cell 1, h.cell 2, h.cell 3⟩, h.frozen 0, h.frozen 1, h.frozen 2, h.frozen 3⟩
theorem put4 {w : World} {g : Nat} {t : TypeId} {a b c d : Value} (h : Blk w g t #[a, b, c, d]) (a' b' c' d' : Value) :
  Blk ((((w.setCell ⟨g, 0, none⟩ a').setCell ⟨g, 1, none⟩ b').setCell ⟨g, 2, none⟩ c').setCell ⟨g, 3, none⟩ d') g t #[a', b', c', d'] ∧ Chg (fun k => k = g) w ((((w.setCell ⟨g, 0, none⟩ a').setCell ⟨g, 1, none⟩ b').setCell ⟨g, 2, none⟩ c').setCell ⟨g, 3, none⟩ d') := by
 have hr8 := (((h.set_ 0 a').set_ 1 b').set_ 2 c').set_ 3 d'
 simp at hr8
 exact ⟨hr8, Chg.setCell (p := ⟨g, 3, none⟩) (Chg.setCell (p := ⟨g, 2, none⟩) (Chg.setCell (p := ⟨g, 1, none⟩) (Chg.setCell (p := ⟨g, 0, none⟩) (Chg.refl (fun k => k = g) w) (fun _ => rfl) _) (fun _ => rfl) _) (fun _ => rfl) _) (fun _ => rfl) _⟩
set_option maxHeartbeats 8000000 in
theorem lfWith {w : World} {F G : Nat → Prop} {KA VA NA : Option Addr} {kn kc vn vc nn nc i : Nat} {ks vs : List (List UInt8)} {ni : List Int} {xv yv : Value} {x y : List UInt8} (hk0 : RdBB w F (.slice KA kn kc) ks) (hv0 : RdBB w F (.slice VA vn vc) vs) (hn0 : RdI w F (.slice NA nn nc) ni) (hx0 : RdB w G xv x) (hy0 : RdB w G yv y) (hi : i ≤ ks.length) (hiv : i ≤ vs.length) (hkl : ks.length ≤ 10000) (hvl : vs.length ≤ 10000) (hnl : ni.length ≤ 10000) (hxl : x.length ≤ 10000) (hyl : y.length ≤ 10000) (hel : (∀ x ∈ ks, x.length ≤ 1000000) ∧ ∀ x ∈ vs, x.length ≤ 1000000) :
  Calls Tryz.prog 131 #[.agg #[.bool true, .slice KA kn kc, .slice VA vn vc, .slice NA nn nc], .int .i64 (i : Int), xv, yv] w fun e w' => ∃ kA kn' kc' vA vn' vc' nA nn' nc', e = .returned (.agg #[.bool true, .slice kA kn' kc', .slice vA vn' vc', .slice nA nn' nc']) ∧ Th3 w' (fun b => (F b ∧ b < w.heap.size) ∨ w.heap.size ≤ b) w.heap.size (.slice kA kn' kc') (.slice vA vn' vc') (.slice nA nn' nc') (ks.take i ++ x :: ks.drop i) (vs.take i ++ y :: vs.drop i) ni ∧ Chg Non w w' := by
 have HX : Hid (RdB w (fun b => b < w.heap.size) xv x) := hide (hx0.lt.mono fun b h => h.2)
 have HY : Hid (RdB w (fun b => b < w.heap.size) yv y) := hide (hy0.lt.mono fun b h => h.2)
 obtain ⟨XA, xc, rfl, _, _⟩ := hx0.shape
 obtain ⟨YA, yc, rfl, _, _⟩ := hy0.shape
 clear hx0 hy0
 have hk : RdBB w (fun b => F b ∧ b < w.heap.size) (.slice KA kn kc) ks := hk0.lt
 have hv : RdBB w (fun b => F b ∧ b < w.heap.size) (.slice VA vn vc) vs := hv0.lt
 have hn : RdI w (fun b => F b ∧ b < w.heap.size) (.slice NA nn nc) ni := hn0.lt
 have ekn : kn = ks.length := by obtain ⟨_, _, e, _, _⟩ := hk.shape; injection e
 have evn : vn = vs.length := by obtain ⟨_, _, e, _, _⟩ := hv.shape; injection e
 have hb := Blk.new w 125 #[.bool true, .slice KA kn kc, .slice VA vn vc, .slice NA nn nc]
 have hcb := (Chg.refl Non w).alloc (.cells #[.bool true, .slice KA kn kc, .slice VA vn vc, .slice NA nn nc] 125)
 have hna : (w.alloc (.cells #[.bool true, .slice KA kn kc, .slice VA vn vc, .slice NA nn nc] 125)).heap.size = w.heap.size + 1 := Array.size_push ..
 have hr := Blk.new (w.alloc (.cells #[.bool true, .slice KA kn kc, .slice VA vn vc, .slice NA nn nc] 125)) 125 #[.bool false, .slice none 0 0, .slice none 0 0, .slice none 0 0]
 have hcr := (Chg.refl Non (w.alloc (.cells #[.bool true, .slice KA kn kc, .slice VA vn vc, .slice NA nn nc] 125))).alloc (.cells #[.bool false, .slice none 0 0, .slice none 0 0, .slice none 0 0] 125)
 have hnr : ((w.alloc (.cells #[.bool true, .slice KA kn kc, .slice VA vn vc, .slice NA nn nc] 125)).alloc (.cells #[.bool false, .slice none 0 0, .slice none 0 0, .slice none 0 0] 125)).heap.size = (w.alloc (.cells #[.bool true, .slice KA kn kc, .slice VA vn vc, .slice NA nn nc] 125)).heap.size + 1 := Array.size_push ..
 rw [hna] at hr hnr
 have HEK := hide (And.intro ekn evn)
 clear hk0 hv0 hn0 ekn evn
 go_enter Tryz.func131, Tryz.ntmps131
 go_upto_region 1 with fail
 obtain ⟨N, hN⟩ : ∃ N, N = w.heap.size := ⟨_, rfl⟩
 have hc02 := hcb.trans0 hcr
 have hb2 := hb.c0 hcr
 have hk2 := hk.c0 hc02
 have hv2 := hv.c0 hc02
 have hn2 := hn.c0 hc02
 rw [← hN] at hb2 hr hnr hk2 hv2 hn2 ⊢
 have HNN := hide hN
 clear hb hcb hna hcr hN hk hv hn
 generalize World.alloc (World.alloc w _) _ = w2 at hb2 hr hnr hk2 hv2 hn2 hc02 ⊢
 have htw := ndTwin (lf := true) hk2 hv2 hn2 (by omega) (by omega) (by omega) hel
 have HC02 := hide hc02
 have HR := hide hr
 have HB := hide hb2
 have HNR := hide hnr
 obtain ⟨⟨b0, b1, b2, b3⟩, _⟩ := blk4 hb2
 clear hb2 hr hnr hk2 hv2 hn2 hc02
 go_upto_region 2 with (go_at_call 155; refine htw.mono ?_; rintro e w3 ⟨KB, kbn, kbc, VB, vbn, vbc, IB, ibn, ibc, rfl, hT3, hc3⟩)
 have hbb := Blk.new w3 125 #[.bool true, .slice KB kbn kbc, .slice VB vbn vbc, .slice IB ibn ibc]
 have hcB := (Chg.refl Non w3).alloc (.cells #[.bool true, .slice KB kbn kbc, .slice VB vbn vbc, .slice IB ibn ibc] 125)
 have hnB := sizeAl' w3 (.cells #[.bool true, .slice KB kbn kbc, .slice VB vbn vbc, .slice IB ibn ibc] 125)
 have hw2s := hc3.size
 have hc24 := hc3.trans0 hcB
 obtain ⟨gb, hgb⟩ : ∃ g, g = w3.heap.size := ⟨_, rfl⟩
 have hnN := HNR.out
 have HNG : Hid (Value.ownBlock (.slice KB kbn kbc) ≠ some gb ∧ Value.ownBlock (.slice VB vbn vbc) ≠ some gb ∧ Value.ownBlock (.slice IB ibn ibc) ≠ some gb) := hide ⟨fun e => by have := (hT3.k.lt _ e).2; omega, fun e => by have := (hT3.v.lt _ e).2; omega, fun e => by have := (hT3.i.lt _ e).2; omega⟩
 have hT4 : Th3 (w3.alloc (.cells #[.bool true, .slice KB kbn kbc, .slice VB vbn vbc, .slice IB ibn ibc] 125)) (fun b => (F b ∧ b < N) ∨ (N + 2 ≤ b ∧ b ≠ gb)) (N + 2) (.slice KB kbn kbc) (.slice VB vbn vbc) (.slice IB ibn ibc) ks vs ni := ((hT3.fit.mono fun b hb => by
  rcases hb with ⟨h | h, h2⟩
  ·exact .inl h.1
  ·exact .inr ⟨by omega, by omega⟩).low (by omega)).c0 hcB
 have HW4 : Hid (Chg (fun b => N + 2 ≤ b) w2 (w3.alloc (.cells #[.bool true, .slice KB kbn kbc, .slice VB vbn vbc, .slice IB ibn ibc] 125))) := hide (hc24.mono fun _ _ h => h.elim)
 rw [← hgb] at hbb hnB hw2s ⊢
 have HGS : Hid (N + 2 ≤ gb) := hide (by omega)
 generalize World.alloc w3 _ = w4 at hbb hnB hT4 hc24 HW4 ⊢
 have HT4 := hide hT4
 have HBB := hide hbb
 have HNB := hide hnB
 have hB4 := HB.out.c0 hc24
 obtain ⟨⟨c0, c1, c2, c3⟩, _⟩ := blk4 hB4
 clear htw hT3 hT4 hbb hcB hnB hw2s hc24 hgb hc3 hB4 b0 b1 b2 b3 hnN
 have hlt : ¬ ((i : Int) < 0) := by omega
 have hk1 : ¬ kn < i := by have := HEK.out; omega
 have hv1 : ¬ vn < i := by have := HEK.out; omega
 go_upto_region 4 with fail
 clear c0 c1 c2 c3 hk1 hv1 hlt
 refine wp_region_T (fun wx => Blk wx gb 125 #[.bool true, .slice KB kbn kbc, .slice VB vbn vbc, .slice IB ibn ibc]) 8 (by kernel_rfl) ?_
 have HB0 : Hid (Blk w4.drew gb 125 #[.bool true, .slice KB kbn kbc, .slice VB vbn vbc, .slice IB ibn ibc]) := hide (HBB.out.c0 ((Chg.refl Non w4).drew))
 have HT0 : Hid (Th3 w4.drew (fun b => (F b ∧ b < N) ∨ (N + 2 ≤ b ∧ b ≠ gb)) (N + 2) (.slice KB kbn kbc) (.slice VB vbn vbc) (.slice IB ibn ibc) ks vs ni) := hide (HT4.out.c0 ((Chg.refl Non w4).drew))
 have HW0 : Hid (Chg (fun b => N + 2 ≤ b) w2 w4.drew) := hide HW4.out.drew
 have HN0 : Hid (w4.drew.heap.size ≥ gb + 1) := hide (by have := HNB.out; show w4.heap.size ≥ gb + 1; omega)
 clear HBB HT4 HW4 HNB
 generalize World.drew w4 = x0 at HB0 HT0 HW0 HN0 ⊢
 refine AnyT.take (i := 0) (v := ?_) rfl (by kernel_rfl) (by kernel_rfl) (fun _ _ _ h => h) (by kernel_rfl) (by kernel_rfl) (Or.inl ⟨by rfl, ?_⟩) HB0.out ?_
 rotate_left
 ·(intro w9 h9; go_simp; try with_reducible rfl)
 try simp only [lz1, lz2, lz3, Act.put, lz4, lz5, lz6]
 refine AnyT.take (i := 1) (v := ?_) rfl (by kernel_rfl) (by kernel_rfl) (fun _ _ _ h => h) (by kernel_rfl) (by kernel_rfl) (Or.inl ⟨by rfl, ?_⟩) HB0.out ?_
 rotate_left
 ·(intro w9 h9; have y1 : w9.cell? ⟨gb, 1, none⟩ = some (.slice KB kbn kbc) := h9.cell 1; go_simp; try with_reducible rfl)
 try simp only [lz1, lz2, lz3, Act.put, lz4, lz5, lz6]
 refine AnyT.take (i := 2) (v := ?_) rfl (by kernel_rfl) (by kernel_rfl) (fun _ _ _ h => h) (by kernel_rfl) (by kernel_rfl) (Or.inl ⟨by rfl, ?_⟩) HB0.out ?_
 rotate_left
 ·(intro w9 h9; go_simp; try with_reducible rfl)
 try simp only [lz1, lz2, lz3, Act.put, lz4, lz5, lz6]
 refine AnyT.take (i := 3) (v := ?_) rfl (by kernel_rfl) (by kernel_rfl) (fun _ _ _ h => h) (by kernel_rfl) (by kernel_rfl) (Or.inl ⟨by rfl, ?_⟩) HB0.out ?_
 rotate_left
 ·(intro w9 h9; go_simp; try with_reducible rfl)
 try simp only [lz1, lz2, lz3, Act.put, lz4, lz5, lz6]
 refine AnyT.one (i := 4) (by kernel_rfl) rfl (fun K hK => ?_)
 rw [if_pos (by rfl)]
 try simp only [lz1, lz2, lz3, Act.put, lz4, lz5, lz6]
 have hcl := bytesClone ((HX.out.c0 HC02.out).chg HW0.out fun b hb e => by have := HNN.out; omega) (by omega)
 go_wp2_with (go_at_call 38; refine hcl.mono ?_; rintro e x1 ⟨u, rfl, hu, hd1⟩)
 obtain ⟨UA, un, uc, rfl⟩ := hu.shapeH
 have HB1 := hide (HB0.out.c0 hd1)
 have HT1 := hide (HT0.out.c0 hd1)
 have HW1 := hide (HW0.out.trans0 hd1)
 have n1 := hd1.size
 refine hK.out _ _ (fun _ => HB1.out) ?_
 clear hcl hd1 HB0
 clear hK K
 try simp only [lz1, lz2, lz3, Act.put, lz4, lz5, lz6]
 refine AnyT.one (i := 5) (by kernel_rfl) rfl (fun K hK => ?_)
 rw [if_pos (by rfl)]
 try simp only [lz1, lz2, lz3, Act.put, lz4, lz5, lz6]
 go_simp
 have hd2 := (Chg.refl Non x1).alloc (.cells #[.slice UA un uc] 30)
 have hb2 := Blk.new x1 30 #[.slice UA un uc]
 have hn2 := sizeAl' x1 (.cells #[.slice UA un uc] 30)
 have hneg : Value.ownBlock (.slice KB kbn kbc) ≠ some x1.heap.size := fun e => by have := (HT1.out.k.lt _ e).2; omega
 obtain ⟨g2, hg2⟩ : ∃ g, g = x1.heap.size := ⟨_, rfl⟩
 rw [← hg2] at hb2 hn2 hneg ⊢
 generalize hww : World.alloc x1 _ = x2
 rw [show x1.alloc (.cells #[.slice UA un uc] 30) = x2 from hww] at hd2 hb2 hn2
 clear hww
 replace hu := hu.chg hd2 fun _ _ h => h
 have hfr := HT0.out.fresh hu (fun b hb => .inr (by have := HN0.out; have := HGS.out; omega))
 have HB2 := hide (HB1.out.c0 hd2)
 have HT2 := hide (HT1.out.c0 hd2)
 have HW2 := hide (HW1.out.trans0 hd2)
 have HN2 : Hid (x2.heap.size ≥ gb + 1) := hide (by have := HN0.out; omega)
 have hb3 : N + 2 ≤ x2.heap.size := by have := HN2.out; have := HGS.out; omega
 refine hK.out _ _ (fun _ => HB2.out) ?_
 clear hd2 hu HB1 HT1 HW1 HT0 hg2 n1 hn2
 clear hK K
 try simp only [lz1, lz2, lz3, Act.put, lz4, lz5, lz6]
 refine AnyT.one (i := 6) (by kernel_rfl) rfl (fun K hK => ?_)
 rw [if_pos (by rfl)]
 try simp only [lz1, lz2, lz3, Act.put, lz4, lz5, lz6]
 have hcc := insBB HT2.out.k hi (by omega) hb2 hneg hfr.1 hb3
 go_wp2_with (go_at_call 132; refine hcc.mono ?_; rintro e x3 ⟨u3, rfl, hu3, hd3, hat3⟩)
 obtain ⟨KC, kcn, kcc, rfl⟩ := hu3.shapeH
 have hge : ∀ b, Value.ownBlock (.slice KB kbn kbc) = some b → N + 2 ≤ b ∧ b ≠ gb := fun b e => ⟨(HT2.out.k.lt b e).1, fun e2 => HNG.out.1 (by rw [← e2]; exact e)⟩
 have HT3 := hide (HT2.out.putK hu3 hd3 hat3)
 have hnew : Value.ownBlock (.slice KC kcn kcc) ≠ some gb := fun e => by rcases hat3 with h | ⟨j, h, hj⟩; exact HNG.out.1 (h ▸ e); rw [h] at e; injection e with e; have := HN2.out; omega
 replace HNG := hide (⟨hnew, HNG.out.2⟩ : _ ∧ _ ∧ _)
 have HB3 := hide (HB2.out.chg hd3 fun e => (hge _ e).2 rfl)
 have HW3 := hide (HW2.out.trans hd3 fun b hb e => by have := hge b e; omega)
 have HN3 : Hid (x3.heap.size ≥ gb + 1) := hide (by have := HN2.out; have := hd3.size; omega)
 refine hK.out _ _ (fun _ => HB3.out) ?_
 clear hcc hu3 hd3 hat3 hge hfr hb2 hneg hnew HB2 HT2 HW2 HN2 HN0 hb3 HW0
 clear hK K
 try simp only [lz1, lz2, lz3, Act.put, lz4, lz5, lz6]
 refine AnyT.take (i := 7) (v := ?_) rfl (by kernel_rfl) (by kernel_rfl) (fun _ _ _ h => h) (by kernel_rfl) (by kernel_rfl) (Or.inl ⟨by rfl, ?_⟩) HB3.out ?_
 rotate_left
 ·(intro w9 h9; go_simp; try with_reducible rfl)
 try simp only [lz1, lz2, lz3, Act.put, lz4, lz5, lz6]
 refine AnyT.one (i := 8) (by kernel_rfl) rfl (fun K hK => ?_)
 rw [if_pos (by rfl)]
 try simp only [lz1, lz2, lz3, Act.put, lz4, lz5, lz6]
 have y1 : x3.cell? ⟨gb, 1, none⟩ = some (.slice KB kbn kbc) := HB3.out.cell 1
 have z1 := HB3.out.frozen 1
 have hb6 := HB3.out.set_ 1 (.slice KC kcn kcc)
 simp at hb6
 have hd6 : Chg (fun k => k = gb) x3 (x3.setCell ⟨gb, 1, none⟩ (.slice KC kcn kcc)) := Chg.setCell (p := ⟨gb, 1, none⟩) (Chg.refl (fun k => k = gb) x3) (fun _ => rfl) _
 have HBB := hide hb6
 have HT4 := hide (HT3.out.chgO hd6 (fun b e e2 => HNG.out.1 (by rw [← show b = gb from e2]; exact e)) (fun b e e2 => HNG.out.2.1 (by rw [← show b = gb from e2]; exact e)) (fun b e e2 => HNG.out.2.2 (by rw [← show b = gb from e2]; exact e)) fun b hb e => by have e : b = gb := e; have := HGS.out; omega)
 have HW4 := hide (HW3.out.trans hd6 fun b hb e => by have e : b = gb := e; have := HGS.out; omega)
 have HNB : Hid (x3.heap.size ≥ gb + 1) := HN3
 replace HNB := hide (Nat.le_trans HNB.out hd6.size)
 go_simp
 refine hK.out _ _ (fun h => absurd h (by decide)) ?_
 clear hb6 hd6 y1 z1 HB3 HT3 HW3 HN3
 generalize World.setCell x3 _ _ = w5 at HBB HT4 HW4 HNB ⊢
 clear hK K
 try simp only [lz1, lz2, lz3, Act.put, lz4, lz5, lz6]
 refine AnyT.nil (by kernel_rfl) ?_
 go_upto_region 5 with fail
 refine wp_region_T (fun wx => Blk wx gb 125 #[.bool true, .slice KC kcn kcc, .slice VB vbn vbc, .slice IB ibn ibc]) 8 (by kernel_rfl) ?_
 have HB0 : Hid (Blk w5.drew gb 125 #[.bool true, .slice KC kcn kcc, .slice VB vbn vbc, .slice IB ibn ibc]) := hide (HBB.out.c0 ((Chg.refl Non w5).drew))
 have HT0 : Hid (Th3 w5.drew (fun b => (F b ∧ b < N) ∨ (N + 2 ≤ b ∧ b ≠ gb)) (N + 2) (.slice KC kcn kcc) (.slice VB vbn vbc) (.slice IB ibn ibc) (ks.take i ++ x :: ks.drop i) vs ni) := hide (HT4.out.c0 ((Chg.refl Non w5).drew))
 have HW0 : Hid (Chg (fun b => N + 2 ≤ b) w2 w5.drew) := hide HW4.out.drew
 have HN0 : Hid (w5.drew.heap.size ≥ gb + 1) := hide (by have := HNB.out; show w5.heap.size ≥ gb + 1; omega)
 clear HBB HT4 HW4 HNB
 generalize World.drew w5 = x0 at HB0 HT0 HW0 HN0 ⊢
 refine AnyT.take (i := 0) (v := ?_) rfl (by kernel_rfl) (by kernel_rfl) (fun _ _ _ h => h) (by kernel_rfl) (by kernel_rfl) (Or.inl ⟨by rfl, ?_⟩) HB0.out ?_
 rotate_left
 ·(intro w9 h9; go_simp; try with_reducible rfl)
 try simp only [lz1, lz2, lz3, Act.put, lz4, lz5, lz6]
 refine AnyT.take (i := 1) (v := ?_) rfl (by kernel_rfl) (by kernel_rfl) (fun _ _ _ h => h) (by kernel_rfl) (by kernel_rfl) (Or.inl ⟨by rfl, ?_⟩) HB0.out ?_
 rotate_left
 ·(intro w9 h9; have y1 : w9.cell? ⟨gb, 2, none⟩ = some (.slice VB vbn vbc) := h9.cell 2; go_simp; try with_reducible rfl)
 try simp only [lz1, lz2, lz3, Act.put, lz4, lz5, lz6]
 refine AnyT.take (i := 2) (v := ?_) rfl (by kernel_rfl) (by kernel_rfl) (fun _ _ _ h => h) (by kernel_rfl) (by kernel_rfl) (Or.inl ⟨by rfl, ?_⟩) HB0.out ?_
 rotate_left
 ·(intro w9 h9; go_simp; try with_reducible rfl)
 try simp only [lz1, lz2, lz3, Act.put, lz4, lz5, lz6]
 refine AnyT.take (i := 3) (v := ?_) rfl (by kernel_rfl) (by kernel_rfl) (fun _ _ _ h => h) (by kernel_rfl) (by kernel_rfl) (Or.inl ⟨by rfl, ?_⟩) HB0.out ?_
 rotate_left
 ·(intro w9 h9; go_simp; try with_reducible rfl)
 try simp only [lz1, lz2, lz3, Act.put, lz4, lz5, lz6]
 refine AnyT.one (i := 4) (by kernel_rfl) rfl (fun K hK => ?_)
 rw [if_pos (by rfl)]
 try simp only [lz1, lz2, lz3, Act.put, lz4, lz5, lz6]
 have hcl := bytesClone ((HY.out.c0 HC02.out).chg HW0.out fun b hb e => by have := HNN.out; omega) (by omega)
 go_wp2_with (go_at_call 38; refine hcl.mono ?_; rintro e x1 ⟨u, rfl, hu, hd1⟩)
 obtain ⟨UA, un, uc, rfl⟩ := hu.shapeH
 have HB1 := hide (HB0.out.c0 hd1)
 have HT1 := hide (HT0.out.c0 hd1)
 have HW1 := hide (HW0.out.trans0 hd1)
 have n1 := hd1.size
 refine hK.out _ _ (fun _ => HB1.out) ?_
 clear hcl hd1 HB0
 clear hK K
 try simp only [lz1, lz2, lz3, Act.put, lz4, lz5, lz6]
 refine AnyT.one (i := 5) (by kernel_rfl) rfl (fun K hK => ?_)
 rw [if_pos (by rfl)]
 try simp only [lz1, lz2, lz3, Act.put, lz4, lz5, lz6]
 go_simp
 have hd2 := (Chg.refl Non x1).alloc (.cells #[.slice UA un uc] 30)
 have hb2 := Blk.new x1 30 #[.slice UA un uc]
 have hn2 := sizeAl' x1 (.cells #[.slice UA un uc] 30)
 have hneg : Value.ownBlock (.slice VB vbn vbc) ≠ some x1.heap.size := fun e => by have := (HT1.out.v.lt _ e).2; omega
 obtain ⟨g2, hg2⟩ : ∃ g, g = x1.heap.size := ⟨_, rfl⟩
 rw [← hg2] at hb2 hn2 hneg ⊢
 generalize hww : World.alloc x1 _ = x2
 rw [show x1.alloc (.cells #[.slice UA un uc] 30) = x2 from hww] at hd2 hb2 hn2
 clear hww
 replace hu := hu.chg hd2 fun _ _ h => h
 have hfr := HT0.out.fresh hu (fun b hb => .inr (by have := HN0.out; have := HGS.out; omega))
 have HB2 := hide (HB1.out.c0 hd2)
 have HT2 := hide (HT1.out.c0 hd2)
 have HW2 := hide (HW1.out.trans0 hd2)
 have HN2 : Hid (x2.heap.size ≥ gb + 1) := hide (by have := HN0.out; omega)
 have hb3 : N + 2 ≤ x2.heap.size := by have := HN2.out; have := HGS.out; omega
 refine hK.out _ _ (fun _ => HB2.out) ?_
 clear hd2 hu HB1 HT1 HW1 HT0 hg2 n1 hn2
 clear hK K
 try simp only [lz1, lz2, lz3, Act.put, lz4, lz5, lz6]
 refine AnyT.one (i := 6) (by kernel_rfl) rfl (fun K hK => ?_)
 rw [if_pos (by rfl)]
 try simp only [lz1, lz2, lz3, Act.put, lz4, lz5, lz6]
 have hcc := insBB HT2.out.v hiv (by omega) hb2 hneg hfr.2 hb3
 go_wp2_with (go_at_call 132; refine hcc.mono ?_; rintro e x3 ⟨u3, rfl, hu3, hd3, hat3⟩)
 obtain ⟨VC, vcn, vcc, rfl⟩ := hu3.shapeH
 have hge : ∀ b, Value.ownBlock (.slice VB vbn vbc) = some b → N + 2 ≤ b ∧ b ≠ gb := fun b e => ⟨(HT2.out.v.lt b e).1, fun e2 => HNG.out.2.1 (by rw [← e2]; exact e)⟩
 have HT3 := hide (HT2.out.putV hu3 hd3 hat3)
 have hnew : Value.ownBlock (.slice VC vcn vcc) ≠ some gb := fun e => by rcases hat3 with h | ⟨j, h, hj⟩; exact HNG.out.2.1 (h ▸ e); rw [h] at e; injection e with e; have := HN2.out; omega
 replace HNG := hide (⟨HNG.out.1, hnew, HNG.out.2.2⟩ : _ ∧ _ ∧ _)
 have HB3 := hide (HB2.out.chg hd3 fun e => (hge _ e).2 rfl)
 have HW3 := hide (HW2.out.trans hd3 fun b hb e => by have := hge b e; omega)
 have HN3 : Hid (x3.heap.size ≥ gb + 1) := hide (by have := HN2.out; have := hd3.size; omega)
 refine hK.out _ _ (fun _ => HB3.out) ?_
 clear hcc hu3 hd3 hat3 hge hfr hb2 hneg hnew HB2 HT2 HW2 HN2 HN0 hb3 HW0
 clear hK K
 try simp only [lz1, lz2, lz3, Act.put, lz4, lz5, lz6]
 refine AnyT.take (i := 7) (v := ?_) rfl (by kernel_rfl) (by kernel_rfl) (fun _ _ _ h => h) (by kernel_rfl) (by kernel_rfl) (Or.inl ⟨by rfl, ?_⟩) HB3.out ?_
 rotate_left
 ·(intro w9 h9; go_simp; try with_reducible rfl)
 try simp only [lz1, lz2, lz3, Act.put, lz4, lz5, lz6]
 refine AnyT.one (i := 8) (by kernel_rfl) rfl (fun K hK => ?_)
 rw [if_pos (by rfl)]
 try simp only [lz1, lz2, lz3, Act.put, lz4, lz5, lz6]
 have y1 : x3.cell? ⟨gb, 2, none⟩ = some (.slice VB vbn vbc) := HB3.out.cell 2
 have z1 := HB3.out.frozen 2
 have hb6 := HB3.out.set_ 2 (.slice VC vcn vcc)
 simp at hb6
 have hd6 : Chg (fun k => k = gb) x3 (x3.setCell ⟨gb, 2, none⟩ (.slice VC vcn vcc)) := Chg.setCell (p := ⟨gb, 2, none⟩) (Chg.refl (fun k => k = gb) x3) (fun _ => rfl) _
 have HBB := hide hb6
 have HT4 := hide (HT3.out.chgO hd6 (fun b e e2 => HNG.out.1 (by rw [← show b = gb from e2]; exact e)) (fun b e e2 => HNG.out.2.1 (by rw [← show b = gb from e2]; exact e)) (fun b e e2 => HNG.out.2.2 (by rw [← show b = gb from e2]; exact e)) fun b hb e => by have e : b = gb := e; have := HGS.out; omega)
 have HW4 := hide (HW3.out.trans hd6 fun b hb e => by have e : b = gb := e; have := HGS.out; omega)
 have HNB : Hid (x3.heap.size ≥ gb + 1) := HN3
 replace HNB := hide (Nat.le_trans HNB.out hd6.size)
 go_simp
 refine hK.out _ _ (fun h => absurd h (by decide)) ?_
 clear hb6 hd6 y1 z1 HB3 HT3 HW3 HN3
 generalize World.setCell x3 _ _ = w6 at HBB HT4 HW4 HNB ⊢
 clear hK K
 try simp only [lz1, lz2, lz3, Act.put, lz4, lz5, lz6]
 refine AnyT.nil (by kernel_rfl) ?_
 have hr5 := HR.out.chg HW4.out (show ¬ N + 2 ≤ N + 1 by omega)
 obtain ⟨⟨r0, r1, r2, r3⟩, f0, f1, f2, f3⟩ := blk4 hr5
 obtain ⟨⟨h0, h1, h2, h3⟩, _⟩ := blk4 HBB.out
 obtain ⟨hr8, hc8⟩ := put4 hr5 (.bool true) (.slice KC kcn kcc) (.slice VC vcn vcc) (.slice IB ibn ibc)
 have HR8 := hide hr8
 have HC8 := hide hc8
 clear hr5 hr8 hc8
 go_wp2_with fail
 generalize World.setCell _ _ _ = w9 at HR8 HC8 ⊢
 obtain ⟨⟨q0, q1, q2, q3⟩, _⟩ := blk4 HR8.out
 have hNw := HNN.out
 have hGS := HGS.out
 refine bodyPost_ret (v := .agg #[.bool true, .slice KC kcn kcc, .slice VC vcn vcc, .slice IB ibn ibc]) (by simp [results, Tryz.results131, go_sem, q0, q1, q2, q3]) rfl ⟨_, _, _, _, _, _, _, _, _, rfl, ?_, ?_⟩
 ·refine ((HT4.out.chg HC8.out (fun b hb e => ?_) fun b hb e => ?_).low (by omega)).mono fun b hb => ?_
  ·have e : b = N + 1 := e; omega
  ·have e : b = N + 1 := e
   rcases hb with h | h <;> omega
  ·rcases hb with h | h
   ·exact .inl ⟨h.1, by omega⟩
   ·exact .inr (by omega)
 ·exact (HC02.out.trans HW4.out fun b hb e => by omega).trans HC8.out fun b hb e => by have e : b = N + 1 := e; omega
set_option maxHeartbeats 8000000 in
theorem lfWithout {w : World} {F : Nat → Prop} {KA VA NA : Option Addr} {kn kc vn vc nn nc i : Nat} {ks vs : List (List UInt8)} {ni : List Int} (hk0 : RdBB w F (.slice KA kn kc) ks) (hv0 : RdBB w F (.slice VA vn vc) vs) (hn0 : RdI w F (.slice NA nn nc) ni) (hi : i < ks.length) (hiv : i < vs.length) (hkl : ks.length ≤ 10000) (hvl : vs.length ≤ 10000) (hnl : ni.length ≤ 10000) (hel : (∀ x ∈ ks, x.length ≤ 1000000) ∧ ∀ x ∈ vs, x.length ≤ 1000000) :
  Calls Tryz.prog 126 #[.agg #[.bool true, .slice KA kn kc, .slice VA vn vc, .slice NA nn nc], .int .i64 (i : Int)] w fun e w' => ∃ kA kn' kc' vA vn' vc' nA nn' nc', e = .returned (.agg #[.bool true, .slice kA kn' kc', .slice vA vn' vc', .slice nA nn' nc']) ∧ Th3 w' (fun b => (F b ∧ b < w.heap.size) ∨ w.heap.size ≤ b) w.heap.size (.slice kA kn' kc') (.slice vA vn' vc') (.slice nA nn' nc') (ks.take i ++ ks.drop (i + 1)) (vs.take i ++ vs.drop (i + 1)) ni ∧ Chg Non w w' := by
 have hk : RdBB w (fun b => F b ∧ b < w.heap.size) (.slice KA kn kc) ks := hk0.lt
 have hv : RdBB w (fun b => F b ∧ b < w.heap.size) (.slice VA vn vc) vs := hv0.lt
 have hn : RdI w (fun b => F b ∧ b < w.heap.size) (.slice NA nn nc) ni := hn0.lt
 have ekn : kn = ks.length := by obtain ⟨_, _, e, _, _⟩ := hk.shape; injection e
 have evn : vn = vs.length := by obtain ⟨_, _, e, _, _⟩ := hv.shape; injection e
 have hb := Blk.new w 125 #[.bool true, .slice KA kn kc, .slice VA vn vc, .slice NA nn nc]
 have hcb := (Chg.refl Non w).alloc (.cells #[.bool true, .slice KA kn kc, .slice VA vn vc, .slice NA nn nc] 125)
 have hna : (w.alloc (.cells #[.bool true, .slice KA kn kc, .slice VA vn vc, .slice NA nn nc] 125)).heap.size = w.heap.size + 1 := Array.size_push ..
 have hr := Blk.new (w.alloc (.cells #[.bool true, .slice KA kn kc, .slice VA vn vc, .slice NA nn nc] 125)) 125 #[.bool false, .slice none 0 0, .slice none 0 0, .slice none 0 0]
 have hcr := (Chg.refl Non (w.alloc (.cells #[.bool true, .slice KA kn kc, .slice VA vn vc, .slice NA nn nc] 125))).alloc (.cells #[.bool false, .slice none 0 0, .slice none 0 0, .slice none 0 0] 125)
 have hnr : ((w.alloc (.cells #[.bool true, .slice KA kn kc, .slice VA vn vc, .slice NA nn nc] 125)).alloc (.cells #[.bool false, .slice none 0 0, .slice none 0 0, .slice none 0 0] 125)).heap.size = (w.alloc (.cells #[.bool true, .slice KA kn kc, .slice VA vn vc, .slice NA nn nc] 125)).heap.size + 1 := Array.size_push ..
 rw [hna] at hr hnr
 have HEK := hide (And.intro ekn evn)
 clear hk0 hv0 hn0 ekn evn
 go_enter Tryz.func126, Tryz.ntmps126
 go_upto_region 1 with fail
 obtain ⟨N, hN⟩ : ∃ N, N = w.heap.size := ⟨_, rfl⟩
 have hc02 := hcb.trans0 hcr
 have hb2 := hb.c0 hcr
 have hk2 := hk.c0 hc02
 have hv2 := hv.c0 hc02
 have hn2 := hn.c0 hc02
 rw [← hN] at hb2 hr hnr hk2 hv2 hn2 ⊢
 have HNN := hide hN
 clear hb hcb hna hcr hN hk hv hn
 generalize World.alloc (World.alloc w _) _ = w2 at hb2 hr hnr hk2 hv2 hn2 hc02 ⊢
 have htw := ndTwin (lf := true) hk2 hv2 hn2 (by omega) (by omega) (by omega) hel
 have HC02 := hide hc02
 have HR := hide hr
 have HB := hide hb2
 have HNR := hide hnr
 obtain ⟨⟨b0, b1, b2, b3⟩, _⟩ := blk4 hb2
 clear hb2 hr hnr hk2 hv2 hn2 hc02
 go_upto_region 2 with (go_at_call 155; refine htw.mono ?_; rintro e w3 ⟨KB, kbn, kbc, VB, vbn, vbc, IB, ibn, ibc, rfl, hT3, hc3⟩)
 have hbb := Blk.new w3 125 #[.bool true, .slice KB kbn kbc, .slice VB vbn vbc, .slice IB ibn ibc]
 have hcB := (Chg.refl Non w3).alloc (.cells #[.bool true, .slice KB kbn kbc, .slice VB vbn vbc, .slice IB ibn ibc] 125)
 have hnB := sizeAl' w3 (.cells #[.bool true, .slice KB kbn kbc, .slice VB vbn vbc, .slice IB ibn ibc] 125)
 have hw2s := hc3.size
 have hc24 := hc3.trans0 hcB
 obtain ⟨gb, hgb⟩ : ∃ g, g = w3.heap.size := ⟨_, rfl⟩
 have hnN := HNR.out
 have HNG : Hid (Value.ownBlock (.slice KB kbn kbc) ≠ some gb ∧ Value.ownBlock (.slice VB vbn vbc) ≠ some gb ∧ Value.ownBlock (.slice IB ibn ibc) ≠ some gb) := hide ⟨fun e => by have := (hT3.k.lt _ e).2; omega, fun e => by have := (hT3.v.lt _ e).2; omega, fun e => by have := (hT3.i.lt _ e).2; omega⟩
 have hT4 : Th3 (w3.alloc (.cells #[.bool true, .slice KB kbn kbc, .slice VB vbn vbc, .slice IB ibn ibc] 125)) (fun b => (F b ∧ b < N) ∨ (N + 2 ≤ b ∧ b ≠ gb)) (N + 2) (.slice KB kbn kbc) (.slice VB vbn vbc) (.slice IB ibn ibc) ks vs ni := ((hT3.fit.mono fun b hb => by
  rcases hb with ⟨h | h, h2⟩
  ·exact .inl h.1
  ·exact .inr ⟨by omega, by omega⟩).low (by omega)).c0 hcB
 have HW4 : Hid (Chg (fun b => N + 2 ≤ b) w2 (w3.alloc (.cells #[.bool true, .slice KB kbn kbc, .slice VB vbn vbc, .slice IB ibn ibc] 125))) := hide (hc24.mono fun _ _ h => h.elim)
 rw [← hgb] at hbb hnB hw2s ⊢
 have HGS : Hid (N + 2 ≤ gb) := hide (by omega)
 generalize World.alloc w3 _ = w4 at hbb hnB hT4 hc24 HW4 ⊢
 have HT4 := hide hT4
 have HBB := hide hbb
 have HNB := hide hnB
 have hB4 := HB.out.c0 hc24
 obtain ⟨⟨c0, c1, c2, c3⟩, _⟩ := blk4 hB4
 clear htw hT3 hT4 hbb hcB hnB hw2s hc24 hgb hc3 hB4 b0 b1 b2 b3 hnN
 have hlt : ¬ ((i : Int) < 0) := by omega
 have hk1 : ¬ kn ≤ i := by have := HEK.out; omega
 have hv1 : ¬ vn ≤ i := by have := HEK.out; omega
 go_upto_region 4 with fail
 clear c0 c1 c2 c3 hk1 hv1 hlt
 have hi1 : IntKind.i64.wrap ((i : Int) + 1) = ((i + 1 : Nat) : Int) := by rw [IntWalk.i64_in _ (by omega)]; omega
 obtain ⟨i1, hii⟩ : ∃ i1, i1 = i + 1 := ⟨_, rfl⟩
 rw [← hii] at hi1
 have HI1 := hide hii.symm
 clear hii
 refine wp_region_T (fun wx => Blk wx gb 125 #[.bool true, .slice KB kbn kbc, .slice VB vbn vbc, .slice IB ibn ibc]) 13 (by kernel_rfl) ?_
 have HB0 : Hid (Blk w4.drew gb 125 #[.bool true, .slice KB kbn kbc, .slice VB vbn vbc, .slice IB ibn ibc]) := hide (HBB.out.c0 ((Chg.refl Non w4).drew))
 have HT0 : Hid (Th3 w4.drew (fun b => (F b ∧ b < N) ∨ (N + 2 ≤ b ∧ b ≠ gb)) (N + 2) (.slice KB kbn kbc) (.slice VB vbn vbc) (.slice IB ibn ibc) ks vs ni) := hide (HT4.out.c0 ((Chg.refl Non w4).drew))
 have HW0 : Hid (Chg (fun b => N + 2 ≤ b) w2 w4.drew) := hide HW4.out.drew
 have HN0 : Hid (w4.drew.heap.size ≥ gb + 1) := hide (by have := HNB.out; show w4.heap.size ≥ gb + 1; omega)
 clear HBB HT4 HW4 HNB
 generalize World.drew w4 = x0 at HB0 HT0 HW0 HN0 ⊢
 refine AnyT.take (i := 0) (v := ?_) rfl (by kernel_rfl) (by kernel_rfl) (fun _ _ _ h => h) (by kernel_rfl) (by kernel_rfl) (Or.inl ⟨by rfl, ?_⟩) HB0.out ?_
 rotate_left
 ·(intro w9 h9; go_simp; try with_reducible rfl)
 try simp only [lz1, lz2, lz3, Act.put, lz4, lz5, lz6]
 refine AnyT.take (i := 1) (v := ?_) rfl (by kernel_rfl) (by kernel_rfl) (fun _ _ _ h => h) (by kernel_rfl) (by kernel_rfl) (Or.inl ⟨by rfl, ?_⟩) HB0.out ?_
 rotate_left
 ·(intro w9 h9; have y1 : w9.cell? ⟨gb, 1, none⟩ = some (.slice KB kbn kbc) := h9.cell 1; go_simp; try with_reducible rfl)
 try simp only [lz1, lz2, lz3, Act.put, lz4, lz5, lz6]
 refine AnyT.take (i := 2) (v := ?_) rfl (by kernel_rfl) (by kernel_rfl) (fun _ _ _ h => h) (by kernel_rfl) (by kernel_rfl) (Or.inl ⟨by rfl, ?_⟩) HB0.out ?_
 rotate_left
 ·(intro w9 h9; go_simp; try with_reducible rfl)
 try simp only [lz1, lz2, lz3, Act.put, lz4, lz5, lz6]
 refine AnyT.take (i := 3) (v := ?_) rfl (by kernel_rfl) (by kernel_rfl) (fun _ _ _ h => h) (by kernel_rfl) (by kernel_rfl) (Or.inl ⟨by rfl, ?_⟩) HB0.out ?_
 rotate_left
 ·(intro w9 h9; go_simp; try with_reducible rfl)
 try simp only [lz1, lz2, lz3, Act.put, lz4, lz5, lz6]
 refine AnyT.take (i := 4) (v := ?_) rfl (by kernel_rfl) (by kernel_rfl) (fun _ _ _ h => h) (by kernel_rfl) (by kernel_rfl) (Or.inl ⟨by rfl, ?_⟩) HB0.out ?_
 rotate_left
 ·(intro w9 h9; have y1 := hi1; go_simp; try with_reducible rfl)
 try simp only [lz1, lz2, lz3, Act.put, lz4, lz5, lz6]
 refine AnyT.take (i := 6) (v := ?_) rfl (by kernel_rfl) (by kernel_rfl) (fun _ _ _ h => h) (by kernel_rfl) (by kernel_rfl) (Or.inl ⟨by rfl, ?_⟩) HB0.out ?_
 rotate_left
 ·(intro w9 h9; go_simp; try with_reducible rfl)
 try simp only [lz1, lz2, lz3, Act.put, lz4, lz5, lz6]
 refine AnyT.take (i := 7) (v := ?_) rfl (by kernel_rfl) (by kernel_rfl) (fun _ _ _ h => h) (by kernel_rfl) (by kernel_rfl) (Or.inl ⟨by rfl, ?_⟩) HB0.out ?_
 rotate_left
 ·(intro w9 h9; have y1 : w9.cell? ⟨gb, 2, none⟩ = some (.slice VB vbn vbc) := h9.cell 2; go_simp; try with_reducible rfl)
 try simp only [lz1, lz2, lz3, Act.put, lz4, lz5, lz6]
 refine AnyT.takeM (i := 8) (v := ?_) rfl (by kernel_rfl) (by kernel_rfl) (fun _ _ _ h => h) (by kernel_rfl) (by kernel_rfl) (Or.inl ⟨by rfl, ?_⟩) HB0.out ?_
 rotate_left
 ·(intro w9 h9; go_simp; try with_reducible rfl)
 try simp only [lz1, lz2, lz3, Act.put, lz4, lz5, lz6]
 refine AnyT.takeM (i := 9) (v := ?_) rfl (by kernel_rfl) (by kernel_rfl) (fun _ _ _ h => h) (by kernel_rfl) (by kernel_rfl) (Or.inl ⟨by rfl, ?_⟩) HB0.out ?_
 rotate_left
 ·(intro w9 h9; go_simp; try with_reducible rfl)
 try simp only [lz1, lz2, lz3, Act.put, lz4, lz5, lz6]
 refine AnyT.takeM (i := 10) (v := ?_) rfl (by kernel_rfl) (by kernel_rfl) (fun _ _ _ h => h) (by kernel_rfl) (by kernel_rfl) (Or.inl ⟨by rfl, ?_⟩) HB0.out ?_
 rotate_left
 ·(intro w9 h9; have y1 := hi1; go_simp; try with_reducible rfl)
 try simp only [lz1, lz2, lz3, Act.put, lz4, lz5, lz6]
 refine AnyT.one (i := 5) (by kernel_rfl) rfl (fun K hK => ?_)
 rw [if_pos (by rfl)]
 try simp only [lz1, lz2, lz3, Act.put, lz4, lz5, lz6]
 have hcc := delBB HT0.out.k hi (by omega)
 rw [HI1.out] at hcc
 go_wp2_with (go_at_call 129; refine hcc.mono ?_; rintro e x1 ⟨u3, rfl, hu3, hd3, hat3⟩)
 obtain ⟨KC, kcn, kcc, rfl⟩ := hu3.shapeH
 have hge : ∀ b, Value.ownBlock (.slice KB kbn kbc) = some b → N + 2 ≤ b ∧ b ≠ gb := fun b e => ⟨(HT0.out.k.lt b e).1, fun e2 => HNG.out.1 (by rw [← e2]; exact e)⟩
 have HT1 := hide (HT0.out.putK hu3 hd3 (.inl hat3))
 have hnew : Value.ownBlock (.slice KC kcn kcc) ≠ some gb := fun e => HNG.out.1 (hat3 ▸ e)
 replace HNG := hide (⟨hnew, HNG.out.2⟩ : _ ∧ _ ∧ _)
 have HB1 := hide (HB0.out.chg hd3 fun e => (hge _ e).2 rfl)
 have HW1 := hide (HW0.out.trans hd3 fun b hb e => by have := hge b e; omega)
 refine hK.out _ _ (fun _ => HB1.out) ?_
 clear hcc hu3 hd3 hat3 hge hnew HB0 HT0 HW0
 clear hK K
 try simp only [lz1, lz2, lz3, Act.put, lz4, lz5, lz6]
 refine AnyT.take (i := 12) (v := ?_) rfl (by kernel_rfl) (by kernel_rfl) (fun _ _ _ h => h) (by kernel_rfl) (by kernel_rfl) (Or.inl ⟨by rfl, ?_⟩) HB1.out ?_
 rotate_left
 ·(intro w9 h9; go_simp; try with_reducible rfl)
 try simp only [lz1, lz2, lz3, Act.put, lz4, lz5, lz6]
 refine AnyT.one (i := 11) (by kernel_rfl) rfl (fun K hK => ?_)
 rw [if_pos (by rfl)]
 try simp only [lz1, lz2, lz3, Act.put, lz4, lz5, lz6]
 have hcc := delBB HT1.out.v hiv (by omega)
 rw [HI1.out] at hcc
 go_wp2_with (go_at_call 129; refine hcc.mono ?_; rintro e x2 ⟨u3, rfl, hu3, hd3, hat3⟩)
 obtain ⟨VC, vcn, vcc, rfl⟩ := hu3.shapeH
 have hge : ∀ b, Value.ownBlock (.slice VB vbn vbc) = some b → N + 2 ≤ b ∧ b ≠ gb := fun b e => ⟨(HT1.out.v.lt b e).1, fun e2 => HNG.out.2.1 (by rw [← e2]; exact e)⟩
 have HT2 := hide (HT1.out.putV hu3 hd3 (.inl hat3))
 have hnew : Value.ownBlock (.slice VC vcn vcc) ≠ some gb := fun e => HNG.out.2.1 (hat3 ▸ e)
 replace HNG := hide (⟨HNG.out.1, hnew, HNG.out.2.2⟩ : _ ∧ _ ∧ _)
 have HB2 := hide (HB1.out.chg hd3 fun e => (hge _ e).2 rfl)
 have HW2 := hide (HW1.out.trans hd3 fun b hb e => by have := hge b e; omega)
 refine hK.out _ _ (fun _ => HB2.out) ?_
 clear hcc hu3 hd3 hat3 hge hnew HB1 HT1 HW1
 clear hK K
 try simp only [lz1, lz2, lz3, Act.put, lz4, lz5, lz6]
 refine AnyT.one (i := 13) (by kernel_rfl) rfl (fun K hK => ?_)
 rw [if_pos (by rfl)]
 try simp only [lz1, lz2, lz3, Act.put, lz4, lz5, lz6]
 have y1 : x2.cell? ⟨gb, 1, none⟩ = some (.slice KB kbn kbc) := HB2.out.cell 1
 have z1 := HB2.out.frozen 1
 have hb6 := HB2.out.set_ 1 (.slice KC kcn kcc)
 simp at hb6
 have hd6 : Chg (fun k => k = gb) x2 (x2.setCell ⟨gb, 1, none⟩ (.slice KC kcn kcc)) := Chg.setCell (p := ⟨gb, 1, none⟩) (Chg.refl (fun k => k = gb) x2) (fun _ => rfl) _
 have HB3 := hide hb6
 have HT3 := hide (HT2.out.chgO hd6 (fun b e e2 => HNG.out.1 (by rw [← show b = gb from e2]; exact e)) (fun b e e2 => HNG.out.2.1 (by rw [← show b = gb from e2]; exact e)) (fun b e e2 => HNG.out.2.2 (by rw [← show b = gb from e2]; exact e)) fun b hb e => by have e : b = gb := e; have := HGS.out; omega)
 have HW3 := hide (HW2.out.trans hd6 fun b hb e => by have e : b = gb := e; have := HGS.out; omega)
 go_simp
 refine hK.out _ _ (fun h => absurd h (by decide)) ?_
 clear hb6 hd6 y1 z1 HB2 HT2 HW2
 generalize World.setCell x2 _ _ = x3 at HB3 HT3 HW3 ⊢
 clear hK K
 try simp only [lz1, lz2, lz3, Act.put, lz4, lz5, lz6]
 refine AnyT.takeL (i := 14) (v := ?_) rfl (by kernel_rfl) (by kernel_rfl) (fun _ _ _ h => h) (by kernel_rfl) (by kernel_rfl) (Or.inl ⟨by rfl, ?_⟩) ?_
 rotate_left
 ·(intro w9; go_simp; try with_reducible rfl)
 try simp only [lz1, lz2, lz3, Act.put, lz4, lz5, lz6]
 refine AnyT.one (i := 15) (by kernel_rfl) rfl (fun K hK => ?_)
 rw [if_pos (by rfl)]
 try simp only [lz1, lz2, lz3, Act.put, lz4, lz5, lz6]
 have y1 : x3.cell? ⟨gb, 2, none⟩ = some (.slice VB vbn vbc) := HB3.out.cell 2
 have z1 := HB3.out.frozen 2
 have hb6 := HB3.out.set_ 2 (.slice VC vcn vcc)
 simp at hb6
 have hd6 : Chg (fun k => k = gb) x3 (x3.setCell ⟨gb, 2, none⟩ (.slice VC vcn vcc)) := Chg.setCell (p := ⟨gb, 2, none⟩) (Chg.refl (fun k => k = gb) x3) (fun _ => rfl) _
 have HB4 := hide hb6
 have HT4 := hide (HT3.out.chgO hd6 (fun b e e2 => HNG.out.1 (by rw [← show b = gb from e2]; exact e)) (fun b e e2 => HNG.out.2.1 (by rw [← show b = gb from e2]; exact e)) (fun b e e2 => HNG.out.2.2 (by rw [← show b = gb from e2]; exact e)) fun b hb e => by have e : b = gb := e; have := HGS.out; omega)
 have HW4 := hide (HW3.out.trans hd6 fun b hb e => by have e : b = gb := e; have := HGS.out; omega)
 go_simp
 refine hK.out _ _ (fun h => absurd h (by decide)) ?_
 clear hb6 hd6 y1 z1 HB3 HT3 HW3
 generalize World.setCell x3 _ _ = w6 at HB4 HT4 HW4 ⊢
 clear hK K
 try simp only [lz1, lz2, lz3, Act.put, lz4, lz5, lz6]
 refine AnyT.nil (by kernel_rfl) ?_
 have HBB := HB4
 have HT4 := HT4
 have HW4 := HW4
 have hT4z := HT4.out
 rw [← HI1.out] at hT4z
 replace HT4 := hide hT4z
 clear hT4z
 have hr5 := HR.out.chg HW4.out (show ¬ N + 2 ≤ N + 1 by omega)
 obtain ⟨⟨r0, r1, r2, r3⟩, f0, f1, f2, f3⟩ := blk4 hr5
 obtain ⟨⟨h0, h1, h2, h3⟩, _⟩ := blk4 HBB.out
 obtain ⟨hr8, hc8⟩ := put4 hr5 (.bool true) (.slice KC kcn kcc) (.slice VC vcn vcc) (.slice IB ibn ibc)
 have HR8 := hide hr8
 have HC8 := hide hc8
 clear hr5 hr8 hc8
 go_wp2_with fail
 generalize World.setCell _ _ _ = w9 at HR8 HC8 ⊢
 obtain ⟨⟨q0, q1, q2, q3⟩, _⟩ := blk4 HR8.out
 have hNw := HNN.out
 have hGS := HGS.out
 refine bodyPost_ret (v := .agg #[.bool true, .slice KC kcn kcc, .slice VC vcn vcc, .slice IB ibn ibc]) (by simp [results, Tryz.results126, go_sem, q0, q1, q2, q3]) rfl ⟨_, _, _, _, _, _, _, _, _, rfl, ?_, ?_⟩
 ·refine ((HT4.out.chg HC8.out (fun b hb e => ?_) fun b hb e => ?_).low (by omega)).mono fun b hb => ?_
  ·have e : b = N + 1 := e; omega
  ·have e : b = N + 1 := e
   rcases hb with h | h <;> omega
  ·rcases hb with h | h
   ·exact .inl ⟨h.1, by omega⟩
   ·exact .inr (by omega)
 ·exact (HC02.out.trans HW4.out fun b hb e => by omega).trans HC8.out fun b hb e => by have e : b = N + 1 := e; omega
end Go.Proofs.YtliimeoblffigaaGreat

