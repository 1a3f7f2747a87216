/- RecTwice. -/
import Derived.Test.YtpbgjldjipgfeaaOpenRc
import Derived.Test.YtpbgjldjipgfeaaOpen
import Derived.Test.YtpbgjldjipgfeaaOrdT
import Derived.Test.YtpbgjldjipgfeaaRecOw
import Derived.Test.YtpbgjldjipgfeaaRecJ
import Derived.Test.YtpbgjldjipgfeaaRecK
import Derived.Test.YtpbgjldjipgfeaaRecN
import Derived.Test.YtpbgjldjipgfeaaRecTw
namespace Go.Proofs.Ytpbgjldjipgfeaa.recTwice
open Go.ChangeShapes Go.WideShapes Go.ChangeAt Go.RowKit
set_option linter.unusedVariables false
set_option linter.unusedSimpArgs false

set_option maxHeartbeats 8000000 in
set_option maxRecDepth 100000 in
theorem walk {W : World} {x : RcS} {a b c d : Value} (hr : RecR W (fun k => k < W.heap.size) x a b c d) (hwf : RcWf x) {v : Value} {l : List UInt8} (hv : RdB W (fun k => k < W.heap.size) v l) (hs : RcSm x) (hl : l.length ≤ 1048576) :
    Calls Try.prog 4 #[.agg (recC x a b c d), v] W fun e W' => e = .returned (.bool true) ∧ Chg Non W W' := by
  obtain ⟨V1, e1, e2, rfl⟩ := hv.sl
  obtain ⟨A1, n1, k1, rfl⟩ := hr.ws.sl
  obtain ⟨A2, n2, k2, rfl⟩ := hr.rs.sl
  obtain ⟨A3, n3, k3, rfl⟩ := RdV.sl hr.sh
  obtain ⟨A4, n4, k4, rfl⟩ := hr.rep.sl
  have hb0 := Blk.new W 30 (recC x (.slice A1 n1 k1) (.slice A2 n2 k2) (.slice A3 n3 k3) (.slice A4 n4 k4))
  have hk0 : Chg Non W _ := (Chg.refl Non W).alloc (.cells (recC x (.slice A1 n1 k1) (.slice A2 n2 k2) (.slice A3 n3 k3) (.slice A4 n4 k4)) 30)
  have hv0 := hv.c0 hk0
  have hr0 := hr.c0 hk0
  obtain ⟨bo, hbo⟩ : ∃ bo, bo = W.heap.size := ⟨_, rfl⟩
  unfold recC at hb0 hk0 hr0 hv0 ⊢
  rw [← hbo] at hb0
  go_enter Try.func4, Try.ntmps4
  go_upto_region 1 with fail
  rw [← hbo]
  generalize World.alloc _ _ = w0 at hb0 hk0 hr0 hv0 ⊢
  clear hr hbo
  have HW := hide hwf
  have HSM := hide hs
  clear hwf hs
  clear hv
  go_upto_region 4 with (first
    | (go_at_call 7; refine awake06.mono ?_; rintro e w1 ⟨rfl, hc1⟩; have hb1 := hb0.c0 hc1; obtain ⟨c0, c1, c2, c3, c4, c5, c6, c7, c8, c9, c10⟩ := rblk hb1; have hr1 := hr0.c0 hc1)
    | (go_at_call 8; refine (lawOwn hr1 HSM.out).mono ?_; rintro e w2 ⟨v1, v2, v3, v4, rfl, hO, hc2⟩)
    | (go_at_call 9; refine (recBytes hO HSM.out).mono ?_; rintro e w4 ⟨u4, rfl, hu4, hc4⟩; obtain ⟨U4, p4, q4, rfl⟩ := hu4.sl))
  clear c0 c1 c2 c3 c4 c5 c6 c7 c8 c9 c10
  have hcT := (hc1.trans0 hc2).trans0 hc4
  have hbE := hb0.c0 hcT
  have hrE := hr0.c0 hcT
  have hvE := hv0.c0 hcT
  have huE := hu4.rd
  have hctE := hk0.trans0 hcT
  clear hb0 hb1 hr0 hr1 hv0 hO hc1 hc2 hc4 hcT hk0 hu4
  have HBE := hide hbE
  clear hbE
  obtain ⟨y, hyd⟩ : ∃ y, y = trimR x := ⟨_, rfl⟩
  have HY := hide hyd
  clear hyd
  by_cases hk : 1 ≤ x.kind ∧ x.kind ≤ 9
  · go_upto_region 5 with (go_at_call 14; refine (recRead huE HSM.out HW.out hk).mono ?_; rintro e w10 ⟨v1, v2, v3, v4, xs, ys, rfl, hR, hc10⟩; obtain ⟨⟨C1, r1, t1, rfl⟩, ⟨C2, r2, t2, rfl⟩, ⟨C3, r3, t3, rfl⟩, ⟨C4, r4, t4, rfl⟩⟩ := hR.sl; have hRR := hR.rdT HW.out hrE.ki; rw [← HY.out] at hRR ⊢; unfold recC)
    have hX := Blk.new w10 32 #[.int .i64 y.kind, .int .u64 (y.boot : Int), .int .u64 (y.sess : Int), .int .u64 (y.seq : Int), .slice C1 r1 t1, .slice C2 r2 t2, .bool y.commit, .slice C3 r3 t3, .slice C4 r4 t4, .int .u64 (y.id : Int), .string y.name]
    have hcA := (Chg.refl Non w10).alloc (.cells #[.int .i64 y.kind, .int .u64 (y.boot : Int), .int .u64 (y.sess : Int), .int .u64 (y.seq : Int), .slice C1 r1 t1, .slice C2 r2 t2, .bool y.commit, .slice C3 r3 t3, .slice C4 r4 t4, .int .u64 (y.id : Int), .string y.name] 32)
    obtain ⟨bz, hbx⟩ : ∃ b, b = w10.heap.size := ⟨_, rfl⟩
    rw [← hbx] at hX ⊢
    generalize World.alloc _ _ = w11 at hX hcA ⊢
    clear hbx
    have hcF := hc10.trans0 (hcA.trans0 (Chg.refl Non w11).drew)
    have hbF := HBE.out.c0 hcF
    have hrF := hrE.c0 hcF
    have hRF := hRR.c0 (hcA.trans0 (Chg.refl Non w11).drew)
    have hvF := hvE.c0 hcF
    have huF := huE.c0 hcF
    have hctF := hctE.trans0 hcF
    have HXF := hide (hX.c0 (Chg.refl Non w11).drew)
    clear HBE hrE huE hvE hR hRR hctE hc10 hcA hcF hX
    have HBF := hide hbF
    clear hbF
    have hsy : RcSm y := by rw [HY.out]; exact HSM.out.trim
    have hyy : recY y = recY x := by rw [HY.out]; exact trimR_Y hk
    have HSY := hide hsy
    have HYY := hide hyy
    clear hsy hyy
    refine wp_region_T (Chg Non w11.drew) 99 (by kernel_rfl) ?_
    have HS := hide (Chg.refl Non w11.drew)
    refine AnyT.take (i := 0) (v := ?_) rfl (by kernel_rfl) (by kernel_rfl) (fun _ _ _ h => h) (by kernel_rfl) (by kernel_rfl) (Or.inl ⟨by rfl, ?_⟩) HS.out ?_
    rotate_left
    · (intro w9 h9; go_simp; try with_reducible rfl)
    try simp only [List.getElem_toArray, List.getElem_cons_succ, List.getElem_cons_zero, Act.put, List.setIfInBounds_toArray, List.set_cons_zero, List.set_cons_succ]
    refine AnyT.take (i := 1) (v := ?_) rfl (by kernel_rfl) (by kernel_rfl) (fun _ _ _ h => h) (by kernel_rfl) (by kernel_rfl) (Or.inl ⟨by rfl, ?_⟩) HS.out ?_
    rotate_left
    · (intro w9 h9; go_simp; try with_reducible rfl)
    try simp only [List.getElem_toArray, List.getElem_cons_succ, List.getElem_cons_zero, Act.put, List.setIfInBounds_toArray, List.set_cons_zero, List.set_cons_succ]
    refine AnyT.take (i := 2) (v := ?_) rfl (by kernel_rfl) (by kernel_rfl) (fun _ _ _ h => h) (by kernel_rfl) (by kernel_rfl) (Or.inl ⟨by rfl, ?_⟩) HS.out ?_
    rotate_left
    · (intro w9 h9; go_simp; try with_reducible rfl)
    try simp only [List.getElem_toArray, List.getElem_cons_succ, List.getElem_cons_zero, Act.put, List.setIfInBounds_toArray, List.set_cons_zero, List.set_cons_succ]
    refine AnyT.take (i := 3) (v := ?_) rfl (by kernel_rfl) (by kernel_rfl) (fun _ _ _ h => h) (by kernel_rfl) (by kernel_rfl) (Or.inl ⟨by rfl, ?_⟩) HS.out ?_
    rotate_left
    · (intro w9 h9; obtain ⟨y0, y1, y2, y3, y4, y5, y6, y7, y8, y9, y10⟩ := rblk (HXF.out.c0 h9); go_simp; try with_reducible rfl)
    try simp only [List.getElem_toArray, List.getElem_cons_succ, List.getElem_cons_zero, Act.put, List.setIfInBounds_toArray, List.set_cons_zero, List.set_cons_succ]
    refine AnyT.take (i := 5) (v := ?_) rfl (by kernel_rfl) (by kernel_rfl) (fun _ _ _ h => h) (by kernel_rfl) (by kernel_rfl) (Or.inl ⟨by rfl, ?_⟩) HS.out ?_
    rotate_left
    · (intro w9 h9; go_simp; try with_reducible rfl)
    try simp only [List.getElem_toArray, List.getElem_cons_succ, List.getElem_cons_zero, Act.put, List.setIfInBounds_toArray, List.set_cons_zero, List.set_cons_succ]
    refine AnyT.one (i := 4) (by kernel_rfl) rfl (fun K hK => ?_)
    go_simp
    go_wp2_with (go_at_call 9; refine (recBytes (hRF.c0 HS.out) HSY.out).mono ?_; rintro e w12 ⟨u12, rfl, hu12, hc12⟩; rw [HYY.out] at hu12; obtain ⟨U12, p12, q12, rfl⟩ := hu12.sl)
    have HS' := hide (HS.out.trans0 hc12)
    clear HS
    have HS := HS'
    clear HS'
    refine hK.out _ _ (fun _ => HS.out) ?_
    clear hK K
    try simp only [List.getElem_toArray, List.getElem_cons_succ, List.getElem_cons_zero, Act.put, List.setIfInBounds_toArray, List.set_cons_zero, List.set_cons_succ]
    refine AnyT.one (i := 6) (by kernel_rfl) rfl (fun K hK => ?_)
    go_simp
    go_wp2_with (go_at_call 10; refine (refEqual_true hu12.rd (huF.c0 HS.out)).mono ?_; rintro e w13 ⟨rfl, hq13⟩; have hc13 := (Chg.refl Non w12).quiet hq13)
    have HS' := hide (HS.out.trans0 hc13)
    clear HS
    have HS := HS'
    clear HS'
    refine hK.out _ _ (fun _ => HS.out) ?_
    clear hK K
    try simp only [List.getElem_toArray, List.getElem_cons_succ, List.getElem_cons_zero, Act.put, List.setIfInBounds_toArray, List.set_cons_zero, List.set_cons_succ]
    refine AnyT.take (i := 7) (v := ?_) rfl (by kernel_rfl) (by kernel_rfl) (fun _ _ _ h => h) (by kernel_rfl) (by kernel_rfl) (Or.inl ⟨by rfl, ?_⟩) HS.out ?_
    rotate_left
    · (intro w9 h9; go_simp; try with_reducible rfl)
    try simp only [List.getElem_toArray, List.getElem_cons_succ, List.getElem_cons_zero, Act.put, List.setIfInBounds_toArray, List.set_cons_zero, List.set_cons_succ]
    refine AnyT.take (i := 8) (v := ?_) rfl (by kernel_rfl) (by kernel_rfl) (fun _ _ _ h => h) (by kernel_rfl) (by kernel_rfl) (Or.inl ⟨by rfl, ?_⟩) HS.out ?_
    rotate_left
    · (intro w9 h9; go_simp; try with_reducible rfl)
    try simp only [List.getElem_toArray, List.getElem_cons_succ, List.getElem_cons_zero, Act.put, List.setIfInBounds_toArray, List.set_cons_zero, List.set_cons_succ]
    refine AnyT.take (i := 9) (v := ?_) rfl (by kernel_rfl) (by kernel_rfl) (fun _ _ _ h => h) (by kernel_rfl) (by kernel_rfl) (Or.inl ⟨by rfl, ?_⟩) HS.out ?_
    rotate_left
    · (intro w9 h9; obtain ⟨y0, y1, y2, y3, y4, y5, y6, y7, y8, y9, y10⟩ := rblk (HXF.out.c0 h9); go_simp; try with_reducible rfl)
    try simp only [List.getElem_toArray, List.getElem_cons_succ, List.getElem_cons_zero, Act.put, List.setIfInBounds_toArray, List.set_cons_zero, List.set_cons_succ]
    refine AnyT.take (i := 11) (v := ?_) rfl (by kernel_rfl) (by kernel_rfl) (fun _ _ _ h => h) (by kernel_rfl) (by kernel_rfl) (Or.inl ⟨by rfl, ?_⟩) HS.out ?_
    rotate_left
    · (intro w9 h9; obtain ⟨y0, y1, y2, y3, y4, y5, y6, y7, y8, y9, y10⟩ := rblk (HBF.out.c0 h9); go_simp; try with_reducible rfl)
    try simp only [List.getElem_toArray, List.getElem_cons_succ, List.getElem_cons_zero, Act.put, List.setIfInBounds_toArray, List.set_cons_zero, List.set_cons_succ]
    refine AnyT.one (i := 10) (by kernel_rfl) rfl (fun K hK => ?_)
    go_simp
    go_wp2_with (go_at_call 13; refine (lawTold (hRF.c0 HS.out)).mono ?_; rintro e w14 ⟨rfl, hc14⟩)
    have HS' := hide (HS.out.trans0 hc14)
    clear HS
    have HS := HS'
    clear HS'
    refine hK.out _ _ (fun _ => HS.out) ?_
    clear hK K
    try simp only [List.getElem_toArray, List.getElem_cons_succ, List.getElem_cons_zero, Act.put, List.setIfInBounds_toArray, List.set_cons_zero, List.set_cons_succ]
    refine AnyT.one (i := 12) (by kernel_rfl) rfl (fun K hK => ?_)
    go_simp
    go_wp2_with (go_at_call 15; refine (ref6Trim (hrF.c0 HS.out)).mono ?_; rintro e w15 ⟨z1, z2, z3, z4, rfl, hT, hc15⟩; rw [← HY.out] at hT ⊢)
    have HS' := hide (HS.out.trans0 hc15)
    clear HS
    have HS := HS'
    clear HS'
    refine hK.out _ _ (fun _ => HS.out) ?_
    clear hK K
    try simp only [List.getElem_toArray, List.getElem_cons_succ, List.getElem_cons_zero, Act.put, List.setIfInBounds_toArray, List.set_cons_zero, List.set_cons_succ]
    refine AnyT.one (i := 13) (by kernel_rfl) rfl (fun K hK => ?_)
    go_simp
    go_wp2_with (go_at_call 12; refine (ref6Same (hRF.c0 HS.out) hT).mono ?_; rintro e w16 ⟨rfl, hc16⟩)
    have HS' := hide (HS.out.trans0 hc16)
    clear HS
    have HS := HS'
    clear HS'
    refine hK.out _ _ (fun _ => HS.out) ?_
    clear hK K
    try simp only [List.getElem_toArray, List.getElem_cons_succ, List.getElem_cons_zero, Act.put, List.setIfInBounds_toArray, List.set_cons_zero, List.set_cons_succ]
    refine AnyT.take (i := 14) (v := ?_) rfl (by kernel_rfl) (by kernel_rfl) (fun _ _ _ h => h) (by kernel_rfl) (by kernel_rfl) (Or.inl ⟨by rfl, ?_⟩) HS.out ?_
    rotate_left
    · (intro w9 h9; go_simp; try with_reducible rfl)
    try simp only [List.getElem_toArray, List.getElem_cons_succ, List.getElem_cons_zero, Act.put, List.setIfInBounds_toArray, List.set_cons_zero, List.set_cons_succ]
    refine AnyT.take (i := 15) (v := ?_) rfl (by kernel_rfl) (by kernel_rfl) (fun _ _ _ h => h) (by kernel_rfl) (by kernel_rfl) (Or.inl ⟨by rfl, ?_⟩) HS.out ?_
    rotate_left
    · (intro w9 h9; go_simp; try with_reducible rfl)
    try simp only [List.getElem_toArray, List.getElem_cons_succ, List.getElem_cons_zero, Act.put, List.setIfInBounds_toArray, List.set_cons_zero, List.set_cons_succ]
    refine AnyT.take (i := 16) (v := ?_) rfl (by kernel_rfl) (by kernel_rfl) (fun _ _ _ h => h) (by kernel_rfl) (by kernel_rfl) (Or.inl ⟨by rfl, ?_⟩) HS.out ?_
    rotate_left
    · (intro w9 h9; go_simp; try with_reducible rfl)
    try simp only [List.getElem_toArray, List.getElem_cons_succ, List.getElem_cons_zero, Act.put, List.setIfInBounds_toArray, List.set_cons_zero, List.set_cons_succ]
    refine AnyT.nil (by kernel_rfl) ?_
    have hcF := HS.out
    have hbF := HBF.out.c0 hcF
    have hvF := hvF.c0 hcF
    have huF := huF.c0 hcF
    have hctF := hctF.trans0 hcF
    clear HS HBF HXF hrF hRF hc12 hc13 hq13 hc14 hc15 hT hc16 hcF hu12
    obtain ⟨c0, c1, c2, c3, c4, c5, c6, c7, c8, c9, c10⟩ := rblk hbF
    clear hbF
    have hk1 : ¬ (x.kind < 1) := by omega
    have hk2 : ¬ (9 < x.kind) := by omega
    have hk3 : 1 ≤ x.kind := hk.1
    have hk4 : x.kind ≤ 9 := hk.2
    have hd1 : decide (1 ≤ x.kind) = true := decide_eq_true hk.1
    have hd2 : decide (x.kind ≤ 9) = true := decide_eq_true hk.2
    go_upto_region 9 with fail
    clear c0 c1 c2 c3 c4 c5 c6 c7 c8 c9 c10 hd1 hd2 hk1 hk2 hk3 hk4
    have hlu := recY_len x HSM.out
    go_upto_region 10 with (first
      | (go_at_call 16; refine (refCopy huF (by omega)).mono ?_; rintro e w20 ⟨u20, rfl, hu20, hc20⟩; obtain ⟨U20, p20, q20, rfl⟩ := hu20.sl; have hv20 := hvF.c0 hc20)
      | (at_builtin; refine append_B rfl _ _ rfl hu20 rfl hv20 rfl ?_ ?_ ?_; rotate_left 2; intro v21 w21 hown21 hg21 hat21; obtain ⟨U21, p21, q21, rfl⟩ := hown21.sl; have hc21 := hc20.own hg21 (fun k hk => (hu20.lt k hk).1))
      | (go_at_call 14; refine (readPost hown21.rd HSM.out HW.out hl).mono ?_; rintro e w22 ⟨zz, D1, g1, i1, D2, g2, i2, D3, g3, i3, D4, g4, i4, er2, rfl, hz, hc22⟩; unfold recC))
    rotate_left
    · omega
    · exact hc20.size
    have hX := Blk.new w22 32 #[.int .i64 zz.kind, .int .u64 (zz.boot : Int), .int .u64 (zz.sess : Int), .int .u64 (zz.seq : Int), .slice D1 g1 i1, .slice D2 g2 i2, .bool zz.commit, .slice D3 g3 i3, .slice D4 g4 i4, .int .u64 (zz.id : Int), .string zz.name]
    have hcA := (Chg.refl Non w22).alloc (.cells #[.int .i64 zz.kind, .int .u64 (zz.boot : Int), .int .u64 (zz.sess : Int), .int .u64 (zz.seq : Int), .slice D1 g1 i1, .slice D2 g2 i2, .bool zz.commit, .slice D3 g3 i3, .slice D4 g4 i4, .int .u64 (zz.id : Int), .string zz.name] 32)
    obtain ⟨bz2, hbx⟩ : ∃ b, b = w22.heap.size := ⟨_, rfl⟩
    rw [← hbx] at hX ⊢
    generalize World.alloc _ _ = w23 at hX hcA ⊢
    clear hbx
    have hctG := ((hctF.trans0 hc21).trans0 hc22).trans0 hcA
    obtain ⟨c0, c1, c2, c3, c4, c5, c6, c7, c8, c9, c10⟩ := rblk hX
    clear hX
    obtain ⟨V', c', e, _, _⟩ := hvF.shape
    injection e with e1 e2 e3
    subst e2
    by_cases hl0 : l.length = 0
    · have hle : ((l.length : Int) == 0) = true := by simp [hl0]
      go_wp2_with fail
      go_ret
      exact ⟨rfl, hctG⟩
    · have hle : ((l.length : Int) == 0) = false := beq_eq_false_iff_ne.2 (by omega)
      obtain ⟨hz1, hz2⟩ := hz (by omega)
      have hne : (er2 == 0) = false := beq_eq_false_iff_ne.2 hz1
      have hne2 : (er2 != 0) = true := bne_iff_ne.2 hz1
      rw [hz2] at c0
      go_wp2_with fail
      go_ret
      exact ⟨rfl, hctG⟩
  · go_upto_region 5 with (go_at_call 14; refine (recReadN huE hk).mono ?_; rintro e w10 ⟨er, her, rfl, hc10⟩; unfold zeroC)
    have hX := Blk.new w10 32 #[.int .i64 0, .int .u64 0, .int .u64 0, .int .u64 0, .slice none 0 0, .slice none 0 0, .bool false, .slice none 0 0, .slice none 0 0, .int .u64 0, .string ⟨#[]⟩]
    have hcA := (Chg.refl Non w10).alloc (.cells #[.int .i64 0, .int .u64 0, .int .u64 0, .int .u64 0, .slice none 0 0, .slice none 0 0, .bool false, .slice none 0 0, .slice none 0 0, .int .u64 0, .string ⟨#[]⟩] 32)
    obtain ⟨bz, hbx⟩ : ∃ b, b = w10.heap.size := ⟨_, rfl⟩
    rw [← hbx] at hX ⊢
    generalize World.alloc _ _ = w11 at hX hcA ⊢
    clear hbx
    have hcF := hc10.trans0 hcA
    have hbF := HBE.out.c0 hcF
    have hvF := hvE.c0 hcF
    have huF := huE.c0 hcF
    have hctF := hctE.trans0 hcF
    clear HBE hrE huE hvE hctE hc10 hcA hcF hX
    have hne : (er == 0) = false := beq_eq_false_iff_ne.2 her
    have hne2 : (er != 0) = true := bne_iff_ne.2 her
    go_quiet (fail)
    have hq : Chg Non w11 (w11.drewN nq) := (Chg.refl Non w11).quiet ⟨nq, rfl⟩
    have hbF := hbF.c0 hq
    have hvF := hvF.c0 hq
    have huF := huF.c0 hq
    have hctF := hctF.trans0 hq
    clear hq
    generalize World.drewN _ _ = wq at hbF hvF huF hctF ⊢
    obtain ⟨c0, c1, c2, c3, c4, c5, c6, c7, c8, c9, c10⟩ := rblk hbF
    clear hbF
    by_cases hlt : 1 ≤ x.kind
    · have hk2 : ¬ (x.kind ≤ 9) := fun h => hk ⟨hlt, h⟩
      have hd1 : decide (1 ≤ x.kind) = true := decide_eq_true hlt
      have hd2 : decide (x.kind ≤ 9) = false := decide_eq_false hk2
      clear hk
      go_upto_region 9 with fail
      clear c0 c1 c2 c3 c4 c5 c6 c7 c8 c9 c10 hne hne2
      have hlu := recY_len x HSM.out
      go_upto_region 10 with (first
        | (go_at_call 16; refine (refCopy huF (by omega)).mono ?_; rintro e w20 ⟨u20, rfl, hu20, hc20⟩; obtain ⟨U20, p20, q20, rfl⟩ := hu20.sl; have hv20 := hvF.c0 hc20)
        | (at_builtin; refine append_B rfl _ _ rfl hu20 rfl hv20 rfl ?_ ?_ ?_; rotate_left 2; intro v21 w21 hown21 hg21 hat21; obtain ⟨U21, p21, q21, rfl⟩ := hown21.sl; have hc21 := hc20.own hg21 (fun k hk => (hu20.lt k hk).1))
        | (go_at_call 14; refine (readPost hown21.rd HSM.out HW.out hl).mono ?_; rintro e w22 ⟨zz, D1, g1, i1, D2, g2, i2, D3, g3, i3, D4, g4, i4, er2, rfl, hz, hc22⟩; unfold recC))
      rotate_left
      · omega
      · exact hc20.size
      have hX := Blk.new w22 32 #[.int .i64 zz.kind, .int .u64 (zz.boot : Int), .int .u64 (zz.sess : Int), .int .u64 (zz.seq : Int), .slice D1 g1 i1, .slice D2 g2 i2, .bool zz.commit, .slice D3 g3 i3, .slice D4 g4 i4, .int .u64 (zz.id : Int), .string zz.name]
      have hcA := (Chg.refl Non w22).alloc (.cells #[.int .i64 zz.kind, .int .u64 (zz.boot : Int), .int .u64 (zz.sess : Int), .int .u64 (zz.seq : Int), .slice D1 g1 i1, .slice D2 g2 i2, .bool zz.commit, .slice D3 g3 i3, .slice D4 g4 i4, .int .u64 (zz.id : Int), .string zz.name] 32)
      obtain ⟨bz2, hbx⟩ : ∃ b, b = w22.heap.size := ⟨_, rfl⟩
      rw [← hbx] at hX ⊢
      generalize World.alloc _ _ = w23 at hX hcA ⊢
      clear hbx
      have hctG := ((hctF.trans0 hc21).trans0 hc22).trans0 hcA
      obtain ⟨c0, c1, c2, c3, c4, c5, c6, c7, c8, c9, c10⟩ := rblk hX
      clear hX
      obtain ⟨V', c', e, _, _⟩ := hvF.shape
      injection e with e1 e2 e3
      subst e2
      by_cases hl0 : l.length = 0
      · have hle : ((l.length : Int) == 0) = true := by simp [hl0]
        go_wp2_with fail
        go_ret
        exact ⟨rfl, hctG⟩
      · have hle : ((l.length : Int) == 0) = false := beq_eq_false_iff_ne.2 (by omega)
        obtain ⟨hz1, hz2⟩ := hz (by omega)
        have hne : (er2 == 0) = false := beq_eq_false_iff_ne.2 hz1
        have hne2 : (er2 != 0) = true := bne_iff_ne.2 hz1
        rw [hz2] at c0
        go_wp2_with fail
        go_ret
        exact ⟨rfl, hctG⟩
    · have hd1 : decide (1 ≤ x.kind) = false := decide_eq_false hlt
      have hk1 : x.kind < 1 := by omega
      clear hk
      go_upto_region 9 with fail
      clear c0 c1 c2 c3 c4 c5 c6 c7 c8 c9 c10 hne hne2
      have hlu := recY_len x HSM.out
      go_upto_region 10 with (first
        | (go_at_call 16; refine (refCopy huF (by omega)).mono ?_; rintro e w20 ⟨u20, rfl, hu20, hc20⟩; obtain ⟨U20, p20, q20, rfl⟩ := hu20.sl; have hv20 := hvF.c0 hc20)
        | (at_builtin; refine append_B rfl _ _ rfl hu20 rfl hv20 rfl ?_ ?_ ?_; rotate_left 2; intro v21 w21 hown21 hg21 hat21; obtain ⟨U21, p21, q21, rfl⟩ := hown21.sl; have hc21 := hc20.own hg21 (fun k hk => (hu20.lt k hk).1))
        | (go_at_call 14; refine (readPost hown21.rd HSM.out HW.out hl).mono ?_; rintro e w22 ⟨zz, D1, g1, i1, D2, g2, i2, D3, g3, i3, D4, g4, i4, er2, rfl, hz, hc22⟩; unfold recC))
      rotate_left
      · omega
      · exact hc20.size
      have hX := Blk.new w22 32 #[.int .i64 zz.kind, .int .u64 (zz.boot : Int), .int .u64 (zz.sess : Int), .int .u64 (zz.seq : Int), .slice D1 g1 i1, .slice D2 g2 i2, .bool zz.commit, .slice D3 g3 i3, .slice D4 g4 i4, .int .u64 (zz.id : Int), .string zz.name]
      have hcA := (Chg.refl Non w22).alloc (.cells #[.int .i64 zz.kind, .int .u64 (zz.boot : Int), .int .u64 (zz.sess : Int), .int .u64 (zz.seq : Int), .slice D1 g1 i1, .slice D2 g2 i2, .bool zz.commit, .slice D3 g3 i3, .slice D4 g4 i4, .int .u64 (zz.id : Int), .string zz.name] 32)
      obtain ⟨bz2, hbx⟩ : ∃ b, b = w22.heap.size := ⟨_, rfl⟩
      rw [← hbx] at hX ⊢
      generalize World.alloc _ _ = w23 at hX hcA ⊢
      clear hbx
      have hctG := ((hctF.trans0 hc21).trans0 hc22).trans0 hcA
      obtain ⟨c0, c1, c2, c3, c4, c5, c6, c7, c8, c9, c10⟩ := rblk hX
      clear hX
      obtain ⟨V', c', e, _, _⟩ := hvF.shape
      injection e with e1 e2 e3
      subst e2
      by_cases hl0 : l.length = 0
      · have hle : ((l.length : Int) == 0) = true := by simp [hl0]
        go_wp2_with fail
        go_ret
        exact ⟨rfl, hctG⟩
      · have hle : ((l.length : Int) == 0) = false := beq_eq_false_iff_ne.2 (by omega)
        obtain ⟨hz1, hz2⟩ := hz (by omega)
        have hne : (er2 == 0) = false := beq_eq_false_iff_ne.2 hz1
        have hne2 : (er2 != 0) = true := bne_iff_ne.2 hz1
        rw [hz2] at c0
        go_wp2_with fail
        go_ret
        exact ⟨rfl, hctG⟩

set_option maxRecDepth 100000 in
theorem contract (H : Type) (enc : TypeId × Value → H) (W : World) (base : Nat) (args : Array Value) (ds gs : List (DataW H)) (before : List MemPlace)
    (hval : ∀ (j : Nat) t v, Try.f4.params[j]? = some t → args[j]? = some v → Value.okWide Try.prog W .any base t v)
    (hW : DataW.Whole enc Try.prog Try.f4.params.toList Rows.recTwiceSpec.vars false W args.toList ds gs before) (hk : Rows.uptoSmall H (ds ++ gs) = true) :
    Calls Try.prog 4 args W fun e W' => ∃ v, e = .returned v ∧ Rows.recTwiceSpec.post enc Try.prog Try.f4 false true false false W args v W' := by
  have hW' := hW
  obtain ⟨p, q, hA0, hV, rfl, hfz, hnd⟩ := hW
  have hA : DataW.TrodAll enc Try.prog W 0 (fun _ => true) true Try.f4.params.toList args.toList ds p := hA0
  rw [Try.params4] at hA hval
  obtain ⟨v0, vs0, d0, ds0, p0, q0, hargs, rfl, rfl, h0, r0⟩ := trodAll_cons hA
  obtain ⟨v1, vs1, d1, ds1, p1, q1, rfl, rfl, rfl, h1, r1⟩ := trodAll_cons r0
  obtain ⟨rfl, rfl, rfl⟩ := trodAll_nil r1
  obtain rfl : args = #[v0, v1] := by cases args; simp_all
  obtain ⟨rfl, rfl⟩ := trodVars_none hV
  have k0 := h0
  have lt0 : ∀ x ∈ p0, x.block < W.heap.size := by obtain ⟨m, hm⟩ := k0; exact DataW.trod_lt m _ _ _ hm
  obtain ⟨x0, ra0, rb0, rc0, rd0, rfl, w0, wf0, sm0⟩ := openRec (hval 0 30 v0 rfl rfl) h0
  have k1 := h1
  have lt1 : ∀ x ∈ p1, x.block < W.heap.size := by obtain ⟨m, hm⟩ := k1; exact DataW.trod_lt m _ _ _ hm
  obtain ⟨l1, w1, z1⟩ := openB (hval 1 28 v1 rfl rfl) h1
  have hb := of_decide_eq_true hk
  simp only [List.append_nil, Rows.uptoBulkAll] at hb
  have z11 := z1.1
  refine (walk w0 wf0 w1 (sm0 (by omega)) (by omega)).mono fun e W' ⟨he, bel0⟩ => ?_
  have bel := bel0.below
  subst he
  exact ⟨_, rfl, _, _, _, [], _, [], hW', trodAll_mk1 (shut_bool Try.underlying4 _), (trodAll_cons_mk (Below.trod laidOut (by kernel_rfl) (of_decide_eq_true (by kernel_rfl)) k0 bel lt0) (trodAll_cons_mk (Below.trod laidOut (by kernel_rfl) (of_decide_eq_true (by kernel_rfl)) k1 bel lt1) trodAll_mk0)), rfl, bel.frame _, fun h => by cases h⟩

set_option maxRecDepth 100000 in
theorem lifted (os : Os) (started : os.Started) (H : Type) (enc : TypeId × Value → H) (F : Stop.Interp) :
    ReturnsInHanded {} Try.checked os 4 .any ((Rows.OpenSpec.upto Rows.recTwiceSpec).pre6 enc Try.prog Try.f4 Rows.recTwiceUptoRow.domain false) (((Rows.OpenSpec.upto Rows.recTwiceSpec).at F).post enc Try.prog Try.f4 false true false false) := by
  refine returnsInHanded_of_cond (C := Try.checked) (s := Rows.OpenSpec.upto Rows.recTwiceSpec) (k := Rows.uptoSmall) rfl own started (by kernel_rfl) Try.func4
    (OpenSpec.witness (enc := enc) (C := Try.checked) (s := Rows.OpenSpec.upto Rows.recTwiceSpec) (k := Rows.uptoSmall) rfl false ⟨#[], #[.agg #[.int .i64 0, .int .u64 0, .int .u64 0, .int .u64 0, .slice none 0 0, .slice none 0 0, .bool false, .slice none 0 0, .slice none 0 0, .int .u64 0, .string ⟨#[]⟩], .slice none 0 0], []⟩ 8 (by kernel_rfl) (by kernel_rfl) (by kernel_rfl)
      (x := ([.agg [.lit (.int .i64 0), .agg [.lit (.int .u64 0), .lit (.int .u64 0), .lit (.int .u64 0)], .nil, .nil, .lit (.bool false), .nil, .nil, .lit (.int .u64 0), .lit (.string [])], .nil], [], [])) (by kernel_rfl) rfl (by kernel_rfl)) ?_
  intro W base args ds gs before hval hW _ hk _
  exact contract H enc W base args ds gs before hval hW hk

theorem over : Rows.recTwiceUptoRow.holds Try.pinned (Rows.OpenSpec.upto Rows.recTwiceSpec) :=
  OpenClaim.holds_of_cond 4 Try.f4 rfl rfl rfl rfl rfl rfl rfl ⟨rfl, rfl, rfl, rfl, rfl⟩ rfl rfl rfl rfl rfl (by kernel_rfl) Try.func4 (by kernel_rfl)
    (of_decide_eq_true (by kernel_rfl)) (by unfold Func.isWrapper; first | (rw [if_pos (by decide +kernel)]; kernel_rfl) | (rw [if_neg (by decide +kernel)]; exact ⟨rfl, rfl⟩))
    (fun os started H enc _ F => lifted os started H enc F)

theorem proved : Rows.RecTwiceUptoSaid := over
end Go.Proofs.Ytpbgjldjipgfeaa.recTwice
