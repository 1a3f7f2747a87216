/- The walk of leaf.twin, of any node. -/
import Derived.Test.YtliimeoblffigaaGreatNdAG
import Derived.Deep.CutRange
open List renaming getElem_toArray → lz1, getElem_cons_succ → lz2, getElem_cons_zero → lz3, setIfInBounds_toArray → lz4, set_cons_zero → lz5, set_cons_succ → lz6
set_option linter.unusedVariables false
set_option linter.unusedSimpArgs false
set_option maxRecDepth 100000
namespace Go.Proofs.YtliimeoblffigaaGreat
open Go.RowKit
set_option linter.unusedVariables false
set_option linter.unusedSimpArgs false

set_option maxHeartbeats 8000000 in
theorem ndTwin {w : World} {F : Nat → Prop} {lf : Bool} {KA VA NA : Option Addr} {kn kc vn vc nn nc : Nat} {ks vs : List (List UInt8)} {ni : List Int} (hk0 : RdBB w F (.slice KA kn kc) ks) (hv0 : RdBB w F (.slice VA vn vc) vs) (hn0 : RdI w F (.slice NA nn nc) ni) (hkl : ks.length ≤ 1000000) (hvl : vs.length ≤ 1000000) (hnl : ni.length ≤ 1000000) (hel : (∀ x ∈ ks, x.length ≤ 1000000) ∧ ∀ x ∈ vs, x.length ≤ 1000000) :
  Calls Tryz.prog 155 #[.agg #[.bool lf, .slice KA kn kc, .slice VA vn vc, .slice NA nn nc]] w fun e w' => ∃ kA kn' kc' vA vn' vc' nA nn' nc', e = .returned (.agg #[.bool lf, .slice kA kn' kc', .slice vA vn' vc', .slice nA nn' nc']) ∧ Th3 w' (fun b => (F b ∧ b < w.heap.size) ∨ w.heap.size ≤ b) w.heap.size (.slice kA kn' kc') (.slice vA vn' vc') (.slice nA nn' nc') ks vs ni ∧ Chg Non w w' := by
 have hk : RdBB w (fun b => F b ∧ b < w.heap.size) (.slice KA kn kc) ks := hk0.lt
 have hv : RdBB w (fun b => F b ∧ b < w.heap.size) (.slice VA vn vc) vs := hv0.lt
 have hi0 : RdI w (fun b => F b ∧ b < w.heap.size) (.slice NA nn nc) ni := hn0.lt
 clear hk0 hv0 hn0
 have hr := Blk.new (w.alloc (.cells #[.bool lf, .slice KA kn kc, .slice VA vn vc, .slice NA nn nc] 125)) 125 #[.bool false, .slice none 0 0, .slice none 0 0, .slice none 0 0]
 have hb := Blk.new w 125 #[.bool lf, .slice KA kn kc, .slice VA vn vc, .slice NA nn nc]
 have hcb := (Chg.refl Non w).alloc (.cells #[.bool lf, .slice KA kn kc, .slice VA vn vc, .slice NA nn nc] 125)
 have hna : (w.alloc (.cells #[.bool lf, .slice KA kn kc, .slice VA vn vc, .slice NA nn nc] 125)).heap.size = w.heap.size + 1 := Array.size_push ..
 have hcr := (Chg.refl Non (w.alloc (.cells #[.bool lf, .slice KA kn kc, .slice VA vn vc, .slice NA nn nc] 125))).alloc (.cells #[.bool false, .slice none 0 0, .slice none 0 0, .slice none 0 0] 125)
 have hnr : ((w.alloc (.cells #[.bool lf, .slice KA kn kc, .slice VA vn vc, .slice NA nn nc] 125)).alloc (.cells #[.bool false, .slice none 0 0, .slice none 0 0, .slice none 0 0] 125)).heap.size = (w.alloc (.cells #[.bool lf, .slice KA kn kc, .slice VA vn vc, .slice NA nn nc] 125)).heap.size + 1 := Array.size_push ..
 rw [hna] at hr hnr
 go_enter Tryz.func155, Tryz.ntmps155
 go_upto_region 1 with fail
 obtain ⟨N, hN⟩ : ∃ N, N = w.heap.size := ⟨_, rfl⟩
 have hc02 := hcb.trans0 hcr
 have hb2 := hb.c0 hcr
 have hk2 := hk.c0 hc02
 have hv2 := hv.c0 hc02
 have hi2 := hi0.c0 hc02
 rw [← hN] at hb2 hr hnr hk2 hv2 hi2 ⊢
 have HNN := hide hN
 clear hb hcb hna hcr hN hk hv hi0
 generalize World.alloc (World.alloc w _) _ = w2 at hb2 hr hnr hk2 hv2 hi2 hc02 ⊢
 have HC02 := hide hc02
 have HR := hide hr
 have HK := hide hk2
 have HV := hide hv2
 have HI := hide hi2
 have HB := hide hb2
 have HNR := hide hnr
 clear hb2 hr hnr hk2 hv2 hi2 hc02
 go_cut [] from 7 to 19 (fun wx => ∃ KB kbn kbc VB vbn vbc IB ibn ibc, Th3 wx (fun b => (F b ∧ b < N) ∨ N + 2 ≤ b) w2.heap.size (.slice KB kbn kbc) (.slice VB vbn vbc) (.slice IB ibn ibc) ks vs ni ∧ Blk wx N 125 #[.bool lf, .slice KB kbn kbc, .slice VB vbn vbc, .slice IB ibn ibc] ∧ Chg (fun k => k = N) w2 wx)
 case first =>
  refine wp_region_T (fun wx => Blk wx N 125 #[.bool lf, .slice KA kn kc, .slice VA vn vc, .slice NA nn nc]) 10 (by kernel_rfl) ?_
  have HB0 : Hid (Blk w2.drew N 125 #[.bool lf, .slice KA kn kc, .slice VA vn vc, .slice NA nn nc]) := hide (HB.out.c0 ((Chg.refl Non w2).drew))
  have HW0 := hide ((Chg.refl Non w2).drew)
  generalize World.drew w2 = x0 at HB0 HW0 ⊢
  refine AnyT.take (i := 0) (v := ?_) rfl (by kernel_rfl) (by kernel_rfl) (fun _ _ _ h => h) (by kernel_rfl) (by kernel_rfl) (Or.inl ⟨by rfl, ?_⟩) HB0.out ?_
  rotate_left
  ·(intro w9 h9; go_simp; try with_reducible rfl)
  try simp only [lz1, lz2, lz3, Act.put, lz4, lz5, lz6]
  refine AnyT.take (i := 1) (v := ?_) rfl (by kernel_rfl) (by kernel_rfl) (fun _ _ _ h => h) (by kernel_rfl) (by kernel_rfl) (Or.inl ⟨by rfl, ?_⟩) HB0.out ?_
  rotate_left
  ·(intro w9 h9; have y1 : w9.cell? ⟨N, 1, none⟩ = some (.slice KA kn kc) := h9.cell 1; go_simp; try with_reducible rfl)
  try simp only [lz1, lz2, lz3, Act.put, lz4, lz5, lz6]
  refine AnyT.take (i := 3) (v := ?_) rfl (by kernel_rfl) (by kernel_rfl) (fun _ _ _ h => h) (by kernel_rfl) (by kernel_rfl) (Or.inl ⟨by rfl, ?_⟩) HB0.out ?_
  rotate_left
  ·(intro w9 h9; go_simp; try with_reducible rfl)
  try simp only [lz1, lz2, lz3, Act.put, lz4, lz5, lz6]
  refine AnyT.take (i := 4) (v := ?_) rfl (by kernel_rfl) (by kernel_rfl) (fun _ _ _ h => h) (by kernel_rfl) (by kernel_rfl) (Or.inl ⟨by rfl, ?_⟩) HB0.out ?_
  rotate_left
  ·(intro w9 h9; have y1 : w9.cell? ⟨N, 2, none⟩ = some (.slice VA vn vc) := h9.cell 2; go_simp; try with_reducible rfl)
  try simp only [lz1, lz2, lz3, Act.put, lz4, lz5, lz6]
  refine AnyT.take (i := 6) (v := ?_) rfl (by kernel_rfl) (by kernel_rfl) (fun _ _ _ h => h) (by kernel_rfl) (by kernel_rfl) (Or.inl ⟨by rfl, ?_⟩) HB0.out ?_
  rotate_left
  ·(intro w9 h9; go_simp; try with_reducible rfl)
  try simp only [lz1, lz2, lz3, Act.put, lz4, lz5, lz6]
  refine AnyT.take (i := 7) (v := ?_) rfl (by kernel_rfl) (by kernel_rfl) (fun _ _ _ h => h) (by kernel_rfl) (by kernel_rfl) (Or.inl ⟨by rfl, ?_⟩) HB0.out ?_
  rotate_left
  ·(intro w9 h9; have y1 : w9.cell? ⟨N, 3, none⟩ = some (.slice NA nn nc) := h9.cell 3; go_simp; try with_reducible rfl)
  try simp only [lz1, lz2, lz3, Act.put, lz4, lz5, lz6]
  refine AnyT.one (i := 2) (by kernel_rfl) rfl (fun K hK => ?_)
  rw [if_pos (by rfl)]
  try simp only [lz1, lz2, lz3, Act.put, lz4, lz5, lz6]
  have hcl := cloneBB (HK.out.c0 HW0.out) (fun b hb => by have := HW0.out.size; have := hb.2; have := HNN.out; have := HNR.out; omega) (by omega)
  go_wp2_with (go_at_call 186; refine hcl.mono ?_; rintro e x1 ⟨u1, rfl, hu1, hd1⟩)
  obtain ⟨KB, kbn, kbc, rfl⟩ := hu1.shapeH
  have HB1 := hide (HB0.out.c0 hd1)
  have HW1 := hide (HW0.out.trans0 hd1)
  have HU1 := hide hu1
  have n1 := hd1.size
  have n0 := HW0.out.size
  have hb1 := hide (show ∀ b, Value.ownBlock (.slice KB kbn kbc) = some b → w2.heap.size ≤ b ∧ b < x1.heap.size from fun b e => by have := hu1.lt b e; omega)
  refine hK.out _ _ (fun _ => HB1.out) ?_
  clear hcl hd1 hu1 HB0
  clear hK K
  try simp only [lz1, lz2, lz3, Act.put, lz4, lz5, lz6]
  refine AnyT.take (i := 9) (v := ?_) rfl (by kernel_rfl) (by kernel_rfl) (fun _ _ _ h => h) (by kernel_rfl) (by kernel_rfl) (Or.inl ⟨by rfl, ?_⟩) HB1.out ?_
  rotate_left
  ·(intro w9 h9; go_simp; try with_reducible rfl)
  try simp only [lz1, lz2, lz3, Act.put, lz4, lz5, lz6]
  refine AnyT.one (i := 5) (by kernel_rfl) rfl (fun K hK => ?_)
  rw [if_pos (by rfl)]
  try simp only [lz1, lz2, lz3, Act.put, lz4, lz5, lz6]
  have hcl := cloneBB (HV.out.c0 HW1.out) (fun b hb => by have := HW1.out.size; have := hb.2; have := HNN.out; have := HNR.out; omega) (by omega)
  go_wp2_with (go_at_call 186; refine hcl.mono ?_; rintro e x2 ⟨u2, rfl, hu2, hd2⟩)
  obtain ⟨VB, vbn, vbc, rfl⟩ := hu2.shapeH
  have HB2 := hide (HB1.out.c0 hd2)
  have HW2 := hide (HW1.out.trans0 hd2)
  have HU2 := hide hu2
  replace HU1 := hide (HU1.out.c0 hd2)
  have n2 := hd2.size
  have hb2 := hide (show ∀ b, Value.ownBlock (.slice VB vbn vbc) = some b → x1.heap.size ≤ b ∧ b < x2.heap.size from fun b e => by have := hu2.lt b e; omega)
  have hNN := HNN.out
  have hNR := HNR.out
  clear hNN hNR
  refine hK.out _ _ (fun _ => HB2.out) ?_
  clear hcl hd2 hu2 HB1
  clear hK K
  try simp only [lz1, lz2, lz3, Act.put, lz4, lz5, lz6]
  refine AnyT.one (i := 8) (by kernel_rfl) rfl (fun K hK => ?_)
  rw [if_pos (by rfl)]
  try simp only [lz1, lz2, lz3, Act.put, lz4, lz5, lz6]
  have hcl := cloneN (HI.out.c0 HW2.out) (by omega)
  go_wp2_with (go_at_call 187; refine hcl.mono ?_; rintro e x3 ⟨u3, rfl, hu3, hd3⟩)
  obtain ⟨IB, ibc, rfl, _, _⟩ := hu3.shape
  generalize hib : ni.length = ibn at hu3 ⊢
  have HB3 := hide (HB2.out.c0 hd3)
  have HW3 := hide (HW2.out.trans0 hd3)
  replace HU1 := hide (HU1.out.c0 hd3)
  replace HU2 := hide (HU2.out.c0 hd3)
  have n3 := hd3.size
  have hNN := HNN.out
  have hNR := HNR.out
  have HT2 : Hid (Th3 x3 (fun b => (F b ∧ b < N) ∨ N + 2 ≤ b) w2.heap.size (.slice KB kbn kbc) (.slice VB vbn vbc) (.slice IB ibn ibc) ks vs ni) := hide ⟨(HU1.out.low n0).mono fun b hb => ⟨.inl ⟨hb.1, by omega⟩, fun e => by have := HU2.out.lt b e; omega, fun e => by have := hu3.lt b e; omega⟩, (HU2.out.low (by omega)).mono fun b hb => ⟨.inl ⟨hb.1, by omega⟩, fun e => by have := hb1.out b e; omega, fun e => by have := hu3.lt b e; omega⟩, hu3.low (by omega), fun b e e2 => by have := hb1.out b e; have := HU2.out.lt b e2; omega, fun b e e2 => by have := hb1.out b e; have := hu3.lt b e2; omega, fun b e e2 => by have := hb2.out b e; have := hu3.lt b e2; omega⟩
  clear hb1 hb2 hNN hNR hib
  refine hK.out _ _ (fun _ => HB3.out) ?_
  clear hcl hd3 hu3 HB2 HU1 HU2 HW2
  clear hK K
  try simp only [lz1, lz2, lz3, Act.put, lz4, lz5, lz6]
  refine AnyT.one (i := 10) (by kernel_rfl) rfl (fun K hK => ?_)
  rw [if_pos (by rfl)]
  try simp only [lz1, lz2, lz3, Act.put, lz4, lz5, lz6]
  have y1 : x3.cell? ⟨N, 1, none⟩ = some (.slice KA kn kc) := HB3.out.cell 1
  have fz1 := HB3.out.frozen 1
  have hb6 := HB3.out.set_ 1 (.slice KB kbn kbc)
  simp at hb6
  have hd6 : Chg (fun k => k = N) x3 (x3.setCell ⟨N, 1, none⟩ (.slice KB kbn kbc)) := Chg.setCell (p := ⟨N, 1, none⟩) (Chg.refl (fun k => k = N) x3) (fun _ => rfl) _
  have HBz1 := hide hb6
  have HTz1 := hide (HT2.out.chg hd6 (fun b hb e => by have e : b = N := e; have := HNR.out; omega) fun b hb e => by have e : b = N := e; omega)
  have HWz1 := hide ((HW3.out.mono (S' := fun k => k = N) (by first | exact fun _ _ h => h.elim | exact fun _ _ h => h)).trans hd6 fun b hb e => e)
  go_simp
  refine hK.out _ _ (fun h => absurd h (by decide)) ?_
  clear hb6 hd6 y1 fz1 HB3 HT2 HW3
  generalize World.setCell x3 _ _ = z1 at HBz1 HTz1 HWz1 ⊢
  clear hK K
  try simp only [lz1, lz2, lz3, Act.put, lz4, lz5, lz6]
  refine AnyT.takeL (i := 11) (v := ?_) rfl (by kernel_rfl) (by kernel_rfl) (fun _ _ _ h => h) (by kernel_rfl) (by kernel_rfl) (Or.inl ⟨by rfl, ?_⟩) ?_
  rotate_left
  ·(intro w9; go_simp; try with_reducible rfl)
  try simp only [lz1, lz2, lz3, Act.put, lz4, lz5, lz6]
  refine AnyT.one (i := 12) (by kernel_rfl) rfl (fun K hK => ?_)
  rw [if_pos (by rfl)]
  try simp only [lz1, lz2, lz3, Act.put, lz4, lz5, lz6]
  have y1 : z1.cell? ⟨N, 2, none⟩ = some (.slice VA vn vc) := HBz1.out.cell 2
  have fz1 := HBz1.out.frozen 2
  have hb6 := HBz1.out.set_ 2 (.slice VB vbn vbc)
  simp at hb6
  have hd6 : Chg (fun k => k = N) z1 (z1.setCell ⟨N, 2, none⟩ (.slice VB vbn vbc)) := Chg.setCell (p := ⟨N, 2, none⟩) (Chg.refl (fun k => k = N) z1) (fun _ => rfl) _
  have HBz2 := hide hb6
  have HTz2 := hide (HTz1.out.chg hd6 (fun b hb e => by have e : b = N := e; have := HNR.out; omega) fun b hb e => by have e : b = N := e; omega)
  have HWz2 := hide ((HWz1.out.mono (S' := fun k => k = N) (by first | exact fun _ _ h => h.elim | exact fun _ _ h => h)).trans hd6 fun b hb e => e)
  go_simp
  refine hK.out _ _ (fun h => absurd h (by decide)) ?_
  clear hb6 hd6 y1 fz1 HBz1 HTz1 HWz1
  generalize World.setCell z1 _ _ = z2 at HBz2 HTz2 HWz2 ⊢
  clear hK K
  try simp only [lz1, lz2, lz3, Act.put, lz4, lz5, lz6]
  refine AnyT.takeL (i := 13) (v := ?_) rfl (by kernel_rfl) (by kernel_rfl) (fun _ _ _ h => h) (by kernel_rfl) (by kernel_rfl) (Or.inl ⟨by rfl, ?_⟩) ?_
  rotate_left
  ·(intro w9; go_simp; try with_reducible rfl)
  try simp only [lz1, lz2, lz3, Act.put, lz4, lz5, lz6]
  refine AnyT.one (i := 14) (by kernel_rfl) rfl (fun K hK => ?_)
  rw [if_pos (by rfl)]
  try simp only [lz1, lz2, lz3, Act.put, lz4, lz5, lz6]
  have y1 : z2.cell? ⟨N, 3, none⟩ = some (.slice NA nn nc) := HBz2.out.cell 3
  have fz1 := HBz2.out.frozen 3
  have hb6 := HBz2.out.set_ 3 (.slice IB ibn ibc)
  simp at hb6
  have hd6 : Chg (fun k => k = N) z2 (z2.setCell ⟨N, 3, none⟩ (.slice IB ibn ibc)) := Chg.setCell (p := ⟨N, 3, none⟩) (Chg.refl (fun k => k = N) z2) (fun _ => rfl) _
  have HBz3 := hide hb6
  have HTz3 := hide (HTz2.out.chg hd6 (fun b hb e => by have e : b = N := e; have := HNR.out; omega) fun b hb e => by have e : b = N := e; omega)
  have HWz3 := hide ((HWz2.out.mono (S' := fun k => k = N) (by first | exact fun _ _ h => h.elim | exact fun _ _ h => h)).trans hd6 fun b hb e => e)
  go_simp
  refine hK.out _ _ (fun h => absurd h (by decide)) ?_
  clear hb6 hd6 y1 fz1 HBz2 HTz2 HWz2
  generalize World.setCell z2 _ _ = z3 at HBz3 HTz3 HWz3 ⊢
  clear hK K
  try simp only [lz1, lz2, lz3, Act.put, lz4, lz5, lz6]
  refine AnyT.nil (by kernel_rfl) ?_
  go_wp2_with fail
  go_meet
  exact ⟨KB, kbn, kbc, VB, vbn, vbc, IB, ibn, ibc, HTz3.out, HBz3.out, HWz3.out⟩
 case rest =>
  obtain ⟨KB, kbn, kbc, VB, vbn, vbc, IB, ibn, ibc, hT3, hB3, hc3⟩ := hcut
  obtain ⟨w3, rfl⟩ : ∃ w', w' = wc := ⟨_, rfl⟩
  have n3 := hc3.size
  have eK : kbn = ks.length := by obtain ⟨_, _, e, _⟩ := hT3.k.shape; injection e
  have eV : vbn = vs.length := by obtain ⟨_, _, e, _⟩ := hT3.v.shape; injection e
  have eI : ibn = ni.length := by obtain ⟨_, _, e, _⟩ := hT3.i.shape; injection e
  subst eK
  subst eV
  subst eI
  have b1 : w3.cell? ⟨N, 1, none⟩ = some (.slice KB ks.length kbc) := hB3.cell 1
  have HT3 := hide hT3
  have HB3 := hide hB3
  have HC3 := hide hc3
  have hnr := HNR.out
  clear hT3 hB3 hc3
  go_wp2_with fail
  go_loopw [22] (fun iv wr => ∃ i : Nat, i ≤ ks.length ∧ iv = .int .i64 (i : Int) ∧ Th3 wr (fun b => (F b ∧ b < N) ∨ N + 2 ≤ b) w2.heap.size (.slice KB ks.length kbc) (.slice VB vs.length vbc) (.slice IB ni.length ibc) ks vs ni ∧ Blk wr N 125 #[.bool lf, .slice KB ks.length kbc, .slice VB vs.length vbc, .slice IB ni.length ibc] ∧ Chg (fun k => w2.heap.size ≤ k) w3 wr) (fun iv _ => ks.length - (intOf iv).toNat)
  case atStart => exact ⟨0, Nat.zero_le _, rfl, HT3.out, HB3.out, Chg.refl _ _⟩
  case round =>
   obtain ⟨i, hi, rfl, hT, hB, hcw⟩ := hrel
   by_cases hil : i < ks.length
   ·obtain ⟨g, c, x, ev, hg1, hg2, hx, hfz, hrx⟩ := hT.k.at_ hil
    injection ev with ev1 _ ev2
    subst ev1
    subst ev2
    obtain ⟨xA, xc, rfl, _, _⟩ := hrx.shape
    have hxl := hel.1 _ (List.getElem_mem hil)
    obtain ⟨xs, hxs⟩ : ∃ xs, xs = ks[i] := ⟨_, rfl⟩
    rw [← hxs] at hrx hxl hx
    have HXS := hide hxs
    have HIL := hide hil
    have HT := hide hT
    have HB := hide hB
    have HW := hide hcw
    have nw := hcw.size
    have b1r : wr.cell? ⟨N, 1, none⟩ = some (.slice (some ⟨g, 0, none⟩) ks.length kbc) := hB.cell 1
    clear b1 hT hB hcw hxs hi
    go_upto_region 5 with fail
    refine wp_region_T (fun wx => Blk wx N 125 #[.bool lf, .slice (some ⟨g, 0, none⟩) ks.length kbc, .slice VB vs.length vbc, .slice IB ni.length ibc]) 6 (by kernel_rfl) ?_
    have HB0 : Hid (Blk wr.drew N 125 #[.bool lf, .slice (some ⟨g, 0, none⟩) ks.length kbc, .slice VB vs.length vbc, .slice IB ni.length ibc]) := hide (HB.out.c0 ((Chg.refl Non wr).drew))
    have HT0 : Hid (Th3 wr.drew (fun b => (F b ∧ b < N) ∨ N + 2 ≤ b) w2.heap.size (.slice (some ⟨g, 0, none⟩) ks.length kbc) (.slice VB vs.length vbc) (.slice IB ni.length ibc) ks vs ni) := hide (HT.out.c0 ((Chg.refl Non wr).drew))
    have HW0 := hide HW.out.drew
    have hrx0 := hrx.dr
    clear HB HT HW hrx b1r hx hfz nw
    generalize World.drew wr = x0 at HB0 HT0 HW0 hrx0 ⊢
    refine AnyT.take (i := 0) (v := ?_) rfl (by kernel_rfl) (by kernel_rfl) (fun _ _ _ h => h) (by kernel_rfl) (by kernel_rfl) (Or.inl ⟨by rfl, ?_⟩) HB0.out ?_
    rotate_left
    ·(intro w9 h9; go_simp; try with_reducible rfl)
    try simp only [lz1, lz2, lz3, Act.put, lz4, lz5, lz6]
    refine AnyT.take (i := 1) (v := ?_) rfl (by kernel_rfl) (by kernel_rfl) (fun _ _ _ h => h) (by kernel_rfl) (by kernel_rfl) (Or.inl ⟨by rfl, ?_⟩) HB0.out ?_
    rotate_left
    ·(intro w9 h9; have y1 : w9.cell? ⟨N, 1, none⟩ = some (.slice (some ⟨g, 0, none⟩) ks.length kbc) := h9.cell 1; go_simp; try with_reducible rfl)
    try simp only [lz1, lz2, lz3, Act.put, lz4, lz5, lz6]
    refine AnyT.take (i := 2) (v := ?_) rfl (by kernel_rfl) (by kernel_rfl) (fun _ _ _ h => h) (by kernel_rfl) (by kernel_rfl) (Or.inl ⟨by rfl, ?_⟩) HB0.out ?_
    rotate_left
    ·(intro w9 h9; go_simp; try with_reducible rfl)
    try simp only [lz1, lz2, lz3, Act.put, lz4, lz5, lz6]
    refine AnyT.take (i := 3) (v := ?_) rfl (by kernel_rfl) (by kernel_rfl) (fun _ _ _ h => h) (by kernel_rfl) (by kernel_rfl) (Or.inl ⟨by rfl, ?_⟩) HB0.out ?_
    rotate_left
    ·(intro w9 h9; go_simp; try with_reducible rfl)
    try simp only [lz1, lz2, lz3, Act.put, lz4, lz5, lz6]
    refine AnyT.one (i := 4) (by kernel_rfl) rfl (fun K hK => ?_)
    rw [if_pos (by rfl)]
    try simp only [lz1, lz2, lz3, Act.put, lz4, lz5, lz6]
    have hcl := bytesClone hrx0 (by omega)
    go_wp2_with (go_at_call 38; refine hcl.mono ?_; rintro e x1 ⟨u, rfl, hu, hd1⟩)
    obtain ⟨UA, un, uc, rfl⟩ := hu.shapeH
    have HB1 := hide (HB0.out.c0 hd1)
    have HT1 := hide (HT0.out.c0 hd1)
    have HW1 := hide (HW0.out.trans0 hd1)
    have n1 := hd1.size
    have n0 := HW0.out.size
    refine hK.out _ _ (fun _ => HB1.out) ?_
    clear hcl hd1 HB0 HW0 hrx0
    clear hK K
    try simp only [lz1, lz2, lz3, Act.put, lz4, lz5, lz6]
    refine AnyT.take (i := 5) (v := ?_) rfl (by kernel_rfl) (by kernel_rfl) (fun _ _ _ h => h) (by kernel_rfl) (by kernel_rfl) (Or.inl ⟨by rfl, ?_⟩) HB1.out ?_
    rotate_left
    ·(intro w9 h9; have y1 := HIL.out; go_simp; try with_reducible rfl)
    try simp only [lz1, lz2, lz3, Act.put, lz4, lz5, lz6]
    refine AnyT.one (i := 6) (by kernel_rfl) rfl (fun K hK => ?_)
    rw [if_pos (by rfl)]
    try simp only [lz1, lz2, lz3, Act.put, lz4, lz5, lz6]
    obtain ⟨x', hx', hfz'⟩ := HT1.out.k.atG HIL.out
    rw [HXS.out] at hu
    obtain ⟨hT6, hd6⟩ := HT1.out.setK HIL.out HT0.out hu (fun b hb => .inr (by have := HNR.out; have := HW1.out.size; omega))
    have hB6 := HB1.out.chg hd6 (show ¬ N = g by have := HNR.out; omega)
    have HT6 := hide hT6
    have HB6 := hide hB6
    have HW6 := hide (HW1.out.trans hd6 fun b hb e => by have e : b = g := e; omega)
    go_simp
    refine hK.out _ _ (fun h => absurd h (by decide)) ?_
    clear hT6 hd6 hB6 hx' hfz' HT1 HB1 HT0 HW1 hu
    generalize World.setCell x1 _ _ = x6 at HT6 HB6 HW6 ⊢
    clear hK K
    try simp only [lz1, lz2, lz3, Act.put, lz4, lz5, lz6]
    refine AnyT.nil (by kernel_rfl) ?_
    go_wp2_with fail
    go_roundw
    case rel => exact ⟨i + 1, HIL.out, by go_num, HT6.out, HB6.out, HW6.out⟩
    case measure => (have := HIL.out; simp [intOf]; omega)
   ·have hik : i = ks.length := by omega
    subst hik
    have b2 : wr.cell? ⟨N, 2, none⟩ = some (.slice VB vs.length vbc) := hB.cell 2
    have HT := hide hT
    have HB := hide hB
    have HW := hide hcw
    obtain ⟨w4, rfl⟩ : ∃ w', w' = wr := ⟨_, rfl⟩
    have n4 := hcw.size
    clear hT hB hcw hi b1
    go_wp2_with fail
    go_loopw [37] (fun iv wr => ∃ i : Nat, i ≤ vs.length ∧ iv = .int .i64 (i : Int) ∧ Th3 wr (fun b => (F b ∧ b < N) ∨ N + 2 ≤ b) w2.heap.size (.slice KB ks.length kbc) (.slice VB vs.length vbc) (.slice IB ni.length ibc) ks vs ni ∧ Blk wr N 125 #[.bool lf, .slice KB ks.length kbc, .slice VB vs.length vbc, .slice IB ni.length ibc] ∧ Chg (fun k => w2.heap.size ≤ k) w4 wr) (fun iv _ => vs.length - (intOf iv).toNat)
    case atStart => exact ⟨0, Nat.zero_le _, rfl, HT.out, HB.out, Chg.refl _ _⟩
    case round =>
     obtain ⟨i, hi, rfl, hT, hB, hcw⟩ := hrel
     by_cases hil : i < vs.length
     ·obtain ⟨g, c, x, ev, hg1, hg2, hx, hfz, hrx⟩ := hT.v.at_ hil
      injection ev with ev1 _ ev2
      subst ev1
      subst ev2
      obtain ⟨xA, xc, rfl, _, _⟩ := hrx.shape
      have hxl := hel.2 _ (List.getElem_mem hil)
      obtain ⟨xs, hxs⟩ : ∃ xs, xs = vs[i] := ⟨_, rfl⟩
      rw [← hxs] at hrx hxl hx
      have HXS := hide hxs
      have HIL := hide hil
      have HT := hide hT
      have HB := hide hB
      have HW9 := hide hcw
      have nw := hcw.size
      have b2r : wr.cell? ⟨N, 2, none⟩ = some (.slice (some ⟨g, 0, none⟩) vs.length vbc) := hB.cell 2
      clear b2 hT hB hcw hxs hi
      go_upto_region 10 with fail
      refine wp_region_T (fun wx => Blk wx N 125 #[.bool lf, .slice KB ks.length kbc, .slice (some ⟨g, 0, none⟩) vs.length vbc, .slice IB ni.length ibc]) 6 (by kernel_rfl) ?_
      have HB0 : Hid (Blk wr.drew N 125 #[.bool lf, .slice KB ks.length kbc, .slice (some ⟨g, 0, none⟩) vs.length vbc, .slice IB ni.length ibc]) := hide (HB.out.c0 ((Chg.refl Non wr).drew))
      have HT0 : Hid (Th3 wr.drew (fun b => (F b ∧ b < N) ∨ N + 2 ≤ b) w2.heap.size (.slice KB ks.length kbc) (.slice (some ⟨g, 0, none⟩) vs.length vbc) (.slice IB ni.length ibc) ks vs ni) := hide (HT.out.c0 ((Chg.refl Non wr).drew))
      have HW0 := hide HW9.out.drew
      have hrx0 := hrx.dr
      clear HB HT HW9 hrx b2r hx hfz nw
      generalize World.drew wr = x0 at HB0 HT0 HW0 hrx0 ⊢
      refine AnyT.take (i := 0) (v := ?_) rfl (by kernel_rfl) (by kernel_rfl) (fun _ _ _ h => h) (by kernel_rfl) (by kernel_rfl) (Or.inl ⟨by rfl, ?_⟩) HB0.out ?_
      rotate_left
      ·(intro w9 h9; go_simp; try with_reducible rfl)
      try simp only [lz1, lz2, lz3, Act.put, lz4, lz5, lz6]
      refine AnyT.take (i := 1) (v := ?_) rfl (by kernel_rfl) (by kernel_rfl) (fun _ _ _ h => h) (by kernel_rfl) (by kernel_rfl) (Or.inl ⟨by rfl, ?_⟩) HB0.out ?_
      rotate_left
      ·(intro w9 h9; have y1 : w9.cell? ⟨N, 2, none⟩ = some (.slice (some ⟨g, 0, none⟩) vs.length vbc) := h9.cell 2; go_simp; try with_reducible rfl)
      try simp only [lz1, lz2, lz3, Act.put, lz4, lz5, lz6]
      refine AnyT.take (i := 2) (v := ?_) rfl (by kernel_rfl) (by kernel_rfl) (fun _ _ _ h => h) (by kernel_rfl) (by kernel_rfl) (Or.inl ⟨by rfl, ?_⟩) HB0.out ?_
      rotate_left
      ·(intro w9 h9; go_simp; try with_reducible rfl)
      try simp only [lz1, lz2, lz3, Act.put, lz4, lz5, lz6]
      refine AnyT.take (i := 3) (v := ?_) rfl (by kernel_rfl) (by kernel_rfl) (fun _ _ _ h => h) (by kernel_rfl) (by kernel_rfl) (Or.inl ⟨by rfl, ?_⟩) HB0.out ?_
      rotate_left
      ·(intro w9 h9; go_simp; try with_reducible rfl)
      try simp only [lz1, lz2, lz3, Act.put, lz4, lz5, lz6]
      refine AnyT.one (i := 4) (by kernel_rfl) rfl (fun K hK => ?_)
      rw [if_pos (by rfl)]
      try simp only [lz1, lz2, lz3, Act.put, lz4, lz5, lz6]
      have hcl := bytesClone hrx0 (by omega)
      go_wp2_with (go_at_call 38; refine hcl.mono ?_; rintro e x1 ⟨u, rfl, hu, hd1⟩)
      obtain ⟨UA, un, uc, rfl⟩ := hu.shapeH
      have HB1 := hide (HB0.out.c0 hd1)
      have HT1 := hide (HT0.out.c0 hd1)
      have HW1 := hide (HW0.out.trans0 hd1)
      have n1 := hd1.size
      have n0 := HW0.out.size
      refine hK.out _ _ (fun _ => HB1.out) ?_
      clear hcl hd1 HB0 HW0 hrx0
      clear hK K
      try simp only [lz1, lz2, lz3, Act.put, lz4, lz5, lz6]
      refine AnyT.take (i := 5) (v := ?_) rfl (by kernel_rfl) (by kernel_rfl) (fun _ _ _ h => h) (by kernel_rfl) (by kernel_rfl) (Or.inl ⟨by rfl, ?_⟩) HB1.out ?_
      rotate_left
      ·(intro w9 h9; have y1 := HIL.out; go_simp; try with_reducible rfl)
      try simp only [lz1, lz2, lz3, Act.put, lz4, lz5, lz6]
      refine AnyT.one (i := 6) (by kernel_rfl) rfl (fun K hK => ?_)
      rw [if_pos (by rfl)]
      try simp only [lz1, lz2, lz3, Act.put, lz4, lz5, lz6]
      obtain ⟨x', hx', hfz'⟩ := HT1.out.v.atG HIL.out
      rw [HXS.out] at hu
      obtain ⟨hT6, hd6⟩ := HT1.out.setV HIL.out HT0.out hu (fun b hb => .inr (by have := HNR.out; have := HW1.out.size; omega))
      have hB6 := HB1.out.chg hd6 (show ¬ N = g by have := HNR.out; omega)
      have HT6 := hide hT6
      have HB6 := hide hB6
      have HW6 := hide (HW1.out.trans hd6 fun b hb e => by have e : b = g := e; omega)
      go_simp
      refine hK.out _ _ (fun h => absurd h (by decide)) ?_
      clear hT6 hd6 hB6 hx' hfz' HT1 HB1 HT0 HW1 hu
      generalize World.setCell x1 _ _ = x6 at HT6 HB6 HW6 ⊢
      clear hK K
      try simp only [lz1, lz2, lz3, Act.put, lz4, lz5, lz6]
      refine AnyT.nil (by kernel_rfl) ?_
      go_wp2_with fail
      go_roundw
      case rel => exact ⟨i + 1, HIL.out, by go_num, HT6.out, HB6.out, HW6.out⟩
      case measure => (have := HIL.out; simp [intOf]; omega)
     ·have hik : i = vs.length := by omega
      subst hik
      obtain ⟨w5, rfl⟩ : ∃ w', w' = wr := ⟨_, rfl⟩
      have n5 := hcw.size
      have h0 : w5.cell? ⟨N, 0, none⟩ = some (.bool lf) := hB.cell 0
      have h1 : w5.cell? ⟨N, 1, none⟩ = some (.slice KB ks.length kbc) := hB.cell 1
      have h2 : w5.cell? ⟨N, 2, none⟩ = some (.slice VB vs.length vbc) := hB.cell 2
      have h3 : w5.cell? ⟨N, 3, none⟩ = some (.slice IB ni.length ibc) := hB.cell 3
      have hr5 := ((HR.out.chg HC3.out (show ¬ N + 1 = N by omega)).chg HW.out (show ¬ w2.heap.size ≤ N + 1 by omega)).chg hcw (show ¬ w2.heap.size ≤ N + 1 by omega)
      have r0 : w5.cell? ⟨N + 1, 0, none⟩ = some (.bool false) := hr5.cell 0
      have r1 : w5.cell? ⟨N + 1, 1, none⟩ = some (.slice none 0 0) := hr5.cell 1
      have r2 : w5.cell? ⟨N + 1, 2, none⟩ = some (.slice none 0 0) := hr5.cell 2
      have r3 : w5.cell? ⟨N + 1, 3, none⟩ = some (.slice none 0 0) := hr5.cell 3
      have f0 := hr5.frozen 0
      have f1 := hr5.frozen 1
      have f2 := hr5.frozen 2
      have f3 := hr5.frozen 3
      have hr8 := (((hr5.set_ 0 (.bool lf)).set_ 1 (.slice KB ks.length kbc)).set_ 2 (.slice VB vs.length vbc)).set_ 3 (.slice IB ni.length ibc)
      simp at hr8
      have hc8 : Chg (fun k => k = N + 1) w5 ((((w5.setCell ⟨N + 1, 0, none⟩ (.bool lf)).setCell ⟨N + 1, 1, none⟩ (.slice KB ks.length kbc)).setCell ⟨N + 1, 2, none⟩ (.slice VB vs.length vbc)).setCell ⟨N + 1, 3, none⟩ (.slice IB ni.length ibc)) :=
       Chg.setCell (p := ⟨N + 1, 3, none⟩) (Chg.setCell (p := ⟨N + 1, 2, none⟩) (Chg.setCell (p := ⟨N + 1, 1, none⟩) (Chg.setCell (p := ⟨N + 1, 0, none⟩) (Chg.refl (fun k => k = N + 1) w5) (fun _ => rfl) _) (fun _ => rfl) _) (fun _ => rfl) _) (fun _ => rfl) _
      have HR8 := hide hr8
      have HC8 := hide hc8
      have HTz := hide hT
      have HWz := hide hcw
      clear hr5 hr8 hc8 hT hB hcw hi b2
      go_wp2_with fail
      generalize World.setCell _ _ _ = w9 at HR8 HC8 ⊢
      have q0 := HR8.out.cell 0
      have q1 := HR8.out.cell 1
      have q2 := HR8.out.cell 2
      have q3 := HR8.out.cell 3
      simp at q0 q1 q2 q3
      have n9 := HC8.out.size
      have hNw := HNN.out
      refine bodyPost_ret (v := .agg #[.bool lf, .slice KB ks.length kbc, .slice VB vs.length vbc, .slice IB ni.length ibc]) (by simp [results, Tryz.results155, go_sem, q0, q1, q2, q3]) rfl ⟨_, _, _, _, _, _, _, _, _, rfl, ?_, ?_⟩
      ·refine ((HTz.out.chg HC8.out (fun b hb e => ?_) fun b hb e => ?_).low (by omega)).mono fun b hb => ?_
       ·have e : b = N + 1 := e; omega
       ·have e : b = N + 1 := e
        rcases hb with h | h <;> omega
       ·rcases hb with h | h
        ·exact .inl ⟨h.1, by omega⟩
        ·exact .inr (by omega)
      ·exact (((HC02.out.trans HC3.out fun b hb e => by have e : b = N := e; omega).trans HW.out fun b hb e => by have e : w2.heap.size ≤ b := e; omega).trans HWz.out fun b hb e => by have e : w2.heap.size ≤ b := e; omega).trans HC8.out fun b hb e => by have e : b = N + 1 := e; omega
end Go.Proofs.YtliimeoblffigaaGreat

