/- RecBytes. -/
import Derived.Test.YtpbgjldjipgfeaaOpenRc
import Derived.Test.YtpbgjldjipgfeaaOrdT
import Derived.Test.YtpbgjldjipgfeaaRecOw
import Derived.Test.YtpbgjldjipgfeaaRecH
import Derived.Test.YtpbgjldjipgfeaaRecJ
import Derived.Test.YtpbgjldjipgfeaaRecK
import Derived.Test.YtpbgjldjipgfeaaRecN
import Derived.Test.YtpbgjldjipgfeaaRecTw
namespace Go.Proofs.Ytpbgjldjipgfeaa.recBytes
open Go.ChangeShapes Go.WideShapes Go.ChangeAt Go.RowKit
set_option linter.unusedVariables false
set_option linter.unusedSimpArgs false

set_option maxHeartbeats 8000000 in
set_option maxRecDepth 100000 in
theorem walk {W : World} {x : RcS} {a b c d : Value} (hr : RecR W (fun k => k < W.heap.size) x a b c d) (hwf : RcWf x) (hs : RcSm x) :
    Calls Try.prog 3 #[.agg (recC x a b c d)] W fun e W' => e = .returned (.bool true) ∧ Chg Non W W' := by
  obtain ⟨A1, n1, k1, rfl⟩ := hr.ws.sl
  obtain ⟨A2, n2, k2, rfl⟩ := hr.rs.sl
  obtain ⟨A3, n3, k3, rfl⟩ := RdV.sl hr.sh
  obtain ⟨A4, n4, k4, rfl⟩ := hr.rep.sl
  have hb0 := Blk.new W 30 (recC x (.slice A1 n1 k1) (.slice A2 n2 k2) (.slice A3 n3 k3) (.slice A4 n4 k4))
  have hk0 : Chg Non W _ := (Chg.refl Non W).alloc (.cells (recC x (.slice A1 n1 k1) (.slice A2 n2 k2) (.slice A3 n3 k3) (.slice A4 n4 k4)) 30)
  have hr0 := hr.c0 hk0
  obtain ⟨bo, hbo⟩ : ∃ bo, bo = W.heap.size := ⟨_, rfl⟩
  unfold recC at hb0 hk0 hr0 ⊢
  rw [← hbo] at hb0
  go_enter Try.func3, Try.ntmps3
  go_upto_region 1 with fail
  rw [← hbo]
  generalize World.alloc _ _ = w0 at hb0 hk0 hr0 ⊢
  clear hr hbo
  have HW := hide hwf
  have HSM := hide hs
  clear hwf hs
  go_upto_region 4 with (first
    | (go_at_call 7; refine awake06.mono ?_; rintro e w1 ⟨rfl, hc1⟩; have hb1 := hb0.c0 hc1; obtain ⟨c0, c1, c2, c3, c4, c5, c6, c7, c8, c9, c10⟩ := rblk hb1; have hr1 := hr0.c0 hc1)
    | (go_at_call 8; refine (lawOwn hr1 HSM.out).mono ?_; rintro e w2 ⟨v1, v2, v3, v4, rfl, hO, hc2⟩; obtain ⟨B1, m1, d1, rfl⟩ := hO.ws.sl; obtain ⟨B2, m2, d2, rfl⟩ := hO.rs.sl; obtain ⟨B3, m3, d3, rfl⟩ := RdV.sl hO.sh; obtain ⟨B4, m4, d4, rfl⟩ := hO.rep.sl; unfold recC))
  clear c0 c1 c2 c3 c4 c5 c6 c7 c8 c9 c10
  have hX := Blk.new w2 32 #[.int .i64 x.kind, .int .u64 (x.boot : Int), .int .u64 (x.sess : Int), .int .u64 (x.seq : Int), .slice B1 m1 d1, .slice B2 m2 d2, .bool x.commit, .slice B3 m3 d3, .slice B4 m4 d4, .int .u64 (x.id : Int), .string x.name]
  have hcA := (Chg.refl Non w2).alloc (.cells #[.int .i64 x.kind, .int .u64 (x.boot : Int), .int .u64 (x.sess : Int), .int .u64 (x.seq : Int), .slice B1 m1 d1, .slice B2 m2 d2, .bool x.commit, .slice B3 m3 d3, .slice B4 m4 d4, .int .u64 (x.id : Int), .string x.name] 32)
  obtain ⟨bx, hbx⟩ : ∃ bx, bx = w2.heap.size := ⟨_, rfl⟩
  rw [← hbx] at hX ⊢
  generalize World.alloc _ _ = w3 at hX hcA ⊢
  clear hbx
  have hc3 := (hc1.trans0 hc2).trans0 hcA
  have hb3 := hb0.c0 hc3
  have hr3 := hr0.c0 hc3
  have hO3 := hO.c0 hcA
  have hct3 := hk0.trans0 hc3
  clear hr1 hr0 hb1 hb0 hO hc1 hc2 hcA hk0 hc3
  have HB := hide hb3
  have HX := hide hX
  obtain ⟨c0, c1, c2, c3, c4, c5, c6, c7, c8, c9, c10⟩ := rblk hX
  clear hb3 hX
  go_wp2_with (go_at_call 9; refine (recBytes hO3 HSM.out).mono ?_; rintro e w4 ⟨u4, rfl, hu4, hc4⟩; obtain ⟨U4, p4, q4, rfl⟩ := hu4.sl)
  clear c0 c1 c2 c3 c4 c5 c6 c7 c8 c9 c10
  have hcD : Chg Non w3 w4.drew := hc4.drew
  have HB4 := hide (HB.out.c0 hcD)
  have HX4 := hide (HX.out.c0 hcD)
  have hr4 := hr3.c0 hcD
  have hO4 := hO3.c0 hcD
  have hu := hu4.rd.c0 (Chg.refl Non w4).drew
  have hct4 := hct3.trans0 hcD
  clear HB HX hr3 hO3 hc4 hct3 hcD hu4
  refine wp_region_T (Chg Non w4.drew) 99 (by kernel_rfl) ?_
  have HS := hide (Chg.refl Non w4.drew)
  refine AnyT.take (i := 0) (v := ?_) rfl (by kernel_rfl) (by kernel_rfl) (fun _ _ _ h => h) (by kernel_rfl) (by kernel_rfl) (Or.inl ⟨by rfl, ?_⟩) HS.out ?_
  rotate_left
  · (intro w9 h9; go_simp; try with_reducible rfl)
  try simp only [List.getElem_toArray, List.getElem_cons_succ, List.getElem_cons_zero, Act.put, List.setIfInBounds_toArray, List.set_cons_zero, List.set_cons_succ]
  refine AnyT.take (i := 1) (v := ?_) rfl (by kernel_rfl) (by kernel_rfl) (fun _ _ _ h => h) (by kernel_rfl) (by kernel_rfl) (Or.inl ⟨by rfl, ?_⟩) HS.out ?_
  rotate_left
  · (intro w9 h9; obtain ⟨y0, y1, y2, y3, y4, y5, y6, y7, y8, y9, y10⟩ := rblk (HB4.out.c0 h9); go_simp; try with_reducible rfl)
  try simp only [List.getElem_toArray, List.getElem_cons_succ, List.getElem_cons_zero, Act.put, List.setIfInBounds_toArray, List.set_cons_zero, List.set_cons_succ]
  refine AnyT.one (i := 2) (by kernel_rfl) rfl (fun K hK => ?_)
  go_simp
  go_wp2_with (go_at_call 11; refine (ref6Bytes hr4 HSM.out).mono ?_; rintro e w5 ⟨u5, rfl, hu5, hc5⟩; obtain ⟨U5, p5, q5, rfl⟩ := hu5.sl)
  have HS' := hide (HS.out.trans0 hc5)
  clear HS
  have HS := HS'
  clear HS'
  refine hK.out _ _ (fun _ => HS.out) ?_
  clear hK K
  try simp only [List.getElem_toArray, List.getElem_cons_succ, List.getElem_cons_zero, Act.put, List.setIfInBounds_toArray, List.set_cons_zero, List.set_cons_succ]
  refine AnyT.one (i := 3) (by kernel_rfl) rfl (fun K hK => ?_)
  go_simp
  go_wp2_with (go_at_call 10; refine (refEqual_true (hu.c0 hc5) hu5.rd).mono ?_; rintro e w6 ⟨rfl, hq6⟩; have hc6 := (Chg.refl Non w5).quiet hq6)
  have HS' := hide (HS.out.trans0 hc6)
  clear HS
  have HS := HS'
  clear HS'
  refine hK.out _ _ (fun _ => HS.out) ?_
  clear hK K
  try simp only [List.getElem_toArray, List.getElem_cons_succ, List.getElem_cons_zero, Act.put, List.setIfInBounds_toArray, List.set_cons_zero, List.set_cons_succ]
  refine AnyT.take (i := 4) (v := ?_) rfl (by kernel_rfl) (by kernel_rfl) (fun _ _ _ h => h) (by kernel_rfl) (by kernel_rfl) (Or.inl ⟨by rfl, ?_⟩) HS.out ?_
  rotate_left
  · (intro w9 h9; go_simp; try with_reducible rfl)
  try simp only [List.getElem_toArray, List.getElem_cons_succ, List.getElem_cons_zero, Act.put, List.setIfInBounds_toArray, List.set_cons_zero, List.set_cons_succ]
  refine AnyT.take (i := 5) (v := ?_) rfl (by kernel_rfl) (by kernel_rfl) (fun _ _ _ h => h) (by kernel_rfl) (by kernel_rfl) (Or.inl ⟨by rfl, ?_⟩) HS.out ?_
  rotate_left
  · (intro w9 h9; go_simp; try with_reducible rfl)
  try simp only [List.getElem_toArray, List.getElem_cons_succ, List.getElem_cons_zero, Act.put, List.setIfInBounds_toArray, List.set_cons_zero, List.set_cons_succ]
  refine AnyT.take (i := 6) (v := ?_) rfl (by kernel_rfl) (by kernel_rfl) (fun _ _ _ h => h) (by kernel_rfl) (by kernel_rfl) (Or.inl ⟨by rfl, ?_⟩) HS.out ?_
  rotate_left
  · (intro w9 h9; obtain ⟨y0, y1, y2, y3, y4, y5, y6, y7, y8, y9, y10⟩ := rblk (HX4.out.c0 h9); go_simp; try with_reducible rfl)
  try simp only [List.getElem_toArray, List.getElem_cons_succ, List.getElem_cons_zero, Act.put, List.setIfInBounds_toArray, List.set_cons_zero, List.set_cons_succ]
  refine AnyT.take (i := 8) (v := ?_) rfl (by kernel_rfl) (by kernel_rfl) (fun _ _ _ h => h) (by kernel_rfl) (by kernel_rfl) (Or.inl ⟨by rfl, ?_⟩) HS.out ?_
  rotate_left
  · (intro w9 h9; obtain ⟨y0, y1, y2, y3, y4, y5, y6, y7, y8, y9, y10⟩ := rblk (HB4.out.c0 h9); go_simp; try with_reducible rfl)
  try simp only [List.getElem_toArray, List.getElem_cons_succ, List.getElem_cons_zero, Act.put, List.setIfInBounds_toArray, List.set_cons_zero, List.set_cons_succ]
  refine AnyT.one (i := 7) (by kernel_rfl) rfl (fun K hK => ?_)
  go_simp
  go_wp2_with (go_at_call 13; refine (lawTold (hO4.c0 HS.out)).mono ?_; rintro e w7 ⟨rfl, hc7⟩; unfold recC)
  have HS' := hide (HS.out.trans0 hc7)
  clear HS
  have HS := HS'
  clear HS'
  refine hK.out _ _ (fun _ => HS.out) ?_
  clear hK K
  try simp only [List.getElem_toArray, List.getElem_cons_succ, List.getElem_cons_zero, Act.put, List.setIfInBounds_toArray, List.set_cons_zero, List.set_cons_succ]
  refine AnyT.one (i := 9) (by kernel_rfl) rfl (fun K hK => ?_)
  go_simp
  go_wp2_with (go_at_call 12; refine (ref6Same (hO4.c0 HS.out) (hr4.c0 HS.out)).mono ?_; rintro e w8 ⟨rfl, hc8⟩)
  have HS' := hide (HS.out.trans0 hc8)
  clear HS
  have HS := HS'
  clear HS'
  refine hK.out _ _ (fun _ => HS.out) ?_
  clear hK K
  try simp only [List.getElem_toArray, List.getElem_cons_succ, List.getElem_cons_zero, Act.put, List.setIfInBounds_toArray, List.set_cons_zero, List.set_cons_succ]
  refine AnyT.take (i := 10) (v := ?_) rfl (by kernel_rfl) (by kernel_rfl) (fun _ _ _ h => h) (by kernel_rfl) (by kernel_rfl) (Or.inl ⟨by rfl, ?_⟩) HS.out ?_
  rotate_left
  · (intro w9 h9; go_simp; try with_reducible rfl)
  try simp only [List.getElem_toArray, List.getElem_cons_succ, List.getElem_cons_zero, Act.put, List.setIfInBounds_toArray, List.set_cons_zero, List.set_cons_succ]
  refine AnyT.take (i := 11) (v := ?_) rfl (by kernel_rfl) (by kernel_rfl) (fun _ _ _ h => h) (by kernel_rfl) (by kernel_rfl) (Or.inl ⟨by rfl, ?_⟩) HS.out ?_
  rotate_left
  · (intro w9 h9; go_simp; try with_reducible rfl)
  try simp only [List.getElem_toArray, List.getElem_cons_succ, List.getElem_cons_zero, Act.put, List.setIfInBounds_toArray, List.set_cons_zero, List.set_cons_succ]
  refine AnyT.nil (by kernel_rfl) ?_
  have hcE := HS.out
  have hbE := HB4.out.c0 hcE
  have hrE := hr4.c0 hcE
  have huE := hu.c0 hcE
  have hctE := hct4.trans0 hcE
  clear HS HB4 HX4 hr4 hO4 hu hct4 hcE hc5 hc6 hq6 hc7 hc8 hu5
  have HBE := hide hbE
  obtain ⟨y, hyd⟩ : ∃ y, y = trimR x := ⟨_, rfl⟩
  have HY := hide hyd
  clear hyd
  by_cases hk : 1 ≤ x.kind ∧ x.kind ≤ 9
  · go_upto_region 8 with (go_at_call 14; refine (recRead huE HSM.out HW.out hk).mono ?_; rintro e w10 ⟨v1, v2, v3, v4, xs, ys, rfl, hR, hc10⟩; obtain ⟨⟨C1, r1, t1, rfl⟩, ⟨C2, r2, t2, rfl⟩, ⟨C3, r3, t3, rfl⟩, ⟨C4, r4, t4, rfl⟩⟩ := hR.sl; have hRR := hR.rdT HW.out hrE.ki; rw [← HY.out] at hRR ⊢; unfold recC)
    have hX := Blk.new w10 32 #[.int .i64 y.kind, .int .u64 (y.boot : Int), .int .u64 (y.sess : Int), .int .u64 (y.seq : Int), .slice C1 r1 t1, .slice C2 r2 t2, .bool y.commit, .slice C3 r3 t3, .slice C4 r4 t4, .int .u64 (y.id : Int), .string y.name]
    have hcA := (Chg.refl Non w10).alloc (.cells #[.int .i64 y.kind, .int .u64 (y.boot : Int), .int .u64 (y.sess : Int), .int .u64 (y.seq : Int), .slice C1 r1 t1, .slice C2 r2 t2, .bool y.commit, .slice C3 r3 t3, .slice C4 r4 t4, .int .u64 (y.id : Int), .string y.name] 32)
    obtain ⟨bz, hbx⟩ : ∃ b, b = w10.heap.size := ⟨_, rfl⟩
    rw [← hbx] at hX ⊢
    generalize World.alloc _ _ = w11 at hX hcA ⊢
    clear hbx
    have hcF := hc10.trans0 hcA
    have hbF := HBE.out.c0 hcF
    have hrF := hrE.c0 hcF
    have hRF := hRR.c0 hcA
    have hctF := hctE.trans0 hcF
    clear HBE hrE huE hR hRR hctE hc10 hcA hcF
    have HBF := hide hbF
    have HXF := hide hX
    obtain ⟨c0, c1, c2, c3, c4, c5, c6, c7, c8, c9, c10⟩ := rblk hbF
    clear hbF hX
    have hk1 : ¬ (x.kind < 1) := by omega
    have hk2 : ¬ (9 < x.kind) := by omega
    have hd1 : decide (x.kind < 1) = false := decide_eq_false hk1
    have hd2 : decide (9 < x.kind) = false := decide_eq_false hk2
    go_wp2_with fail
    clear c0 c1 c2 c3 c4 c5 c6 c7 c8 c9 c10 hd1 hd2 hk1 hk2
    have hcD := (Chg.refl Non w11).drew
    have hrF := hrF.c0 hcD
    have hRF := hRF.c0 hcD
    have HBF := hide (HBF.out.c0 hcD)
    have HXF := hide (HXF.out.c0 hcD)
    refine wp_region_T (Chg Non w11.drew) 99 (by kernel_rfl) ?_
    have HS := hide (Chg.refl Non w11.drew)
    refine AnyT.take (i := 0) (v := ?_) rfl (by kernel_rfl) (by kernel_rfl) (fun _ _ _ h => h) (by kernel_rfl) (by kernel_rfl) (Or.inl ⟨by rfl, ?_⟩) HS.out ?_
    rotate_left
    · (intro w9 h9; go_simp; try with_reducible rfl)
    try simp only [List.getElem_toArray, List.getElem_cons_succ, List.getElem_cons_zero, Act.put, List.setIfInBounds_toArray, List.set_cons_zero, List.set_cons_succ]
    refine AnyT.take (i := 1) (v := ?_) rfl (by kernel_rfl) (by kernel_rfl) (fun _ _ _ h => h) (by kernel_rfl) (by kernel_rfl) (Or.inl ⟨by rfl, ?_⟩) HS.out ?_
    rotate_left
    · (intro w9 h9; go_simp; try with_reducible rfl)
    try simp only [List.getElem_toArray, List.getElem_cons_succ, List.getElem_cons_zero, Act.put, List.setIfInBounds_toArray, List.set_cons_zero, List.set_cons_succ]
    refine AnyT.take (i := 2) (v := ?_) rfl (by kernel_rfl) (by kernel_rfl) (fun _ _ _ h => h) (by kernel_rfl) (by kernel_rfl) (Or.inl ⟨by rfl, ?_⟩) HS.out ?_
    rotate_left
    · (intro w9 h9; go_simp; try with_reducible rfl)
    try simp only [List.getElem_toArray, List.getElem_cons_succ, List.getElem_cons_zero, Act.put, List.setIfInBounds_toArray, List.set_cons_zero, List.set_cons_succ]
    refine AnyT.take (i := 3) (v := ?_) rfl (by kernel_rfl) (by kernel_rfl) (fun _ _ _ h => h) (by kernel_rfl) (by kernel_rfl) (Or.inl ⟨by rfl, ?_⟩) HS.out ?_
    rotate_left
    · (intro w9 h9; obtain ⟨y0, y1, y2, y3, y4, y5, y6, y7, y8, y9, y10⟩ := rblk (HXF.out.c0 h9); go_simp; try with_reducible rfl)
    try simp only [List.getElem_toArray, List.getElem_cons_succ, List.getElem_cons_zero, Act.put, List.setIfInBounds_toArray, List.set_cons_zero, List.set_cons_succ]
    refine AnyT.take (i := 5) (v := ?_) rfl (by kernel_rfl) (by kernel_rfl) (fun _ _ _ h => h) (by kernel_rfl) (by kernel_rfl) (Or.inl ⟨by rfl, ?_⟩) HS.out ?_
    rotate_left
    · (intro w9 h9; obtain ⟨y0, y1, y2, y3, y4, y5, y6, y7, y8, y9, y10⟩ := rblk (HBF.out.c0 h9); go_simp; try with_reducible rfl)
    try simp only [List.getElem_toArray, List.getElem_cons_succ, List.getElem_cons_zero, Act.put, List.setIfInBounds_toArray, List.set_cons_zero, List.set_cons_succ]
    refine AnyT.one (i := 4) (by kernel_rfl) rfl (fun K hK => ?_)
    go_simp
    go_wp2_with (go_at_call 13; refine (lawTold (hRF.c0 HS.out)).mono ?_; rintro e w12 ⟨rfl, hc12⟩)
    have HS' := hide (HS.out.trans0 hc12)
    clear HS
    have HS := HS'
    clear HS'
    refine hK.out _ _ (fun _ => HS.out) ?_
    clear hK K
    try simp only [List.getElem_toArray, List.getElem_cons_succ, List.getElem_cons_zero, Act.put, List.setIfInBounds_toArray, List.set_cons_zero, List.set_cons_succ]
    refine AnyT.one (i := 6) (by kernel_rfl) rfl (fun K hK => ?_)
    go_simp
    go_wp2_with (go_at_call 15; refine (ref6Trim (hrF.c0 HS.out)).mono ?_; rintro e w13 ⟨z1, z2, z3, z4, rfl, hT, hc13⟩; rw [← HY.out] at hT ⊢)
    have HS' := hide (HS.out.trans0 hc13)
    clear HS
    have HS := HS'
    clear HS'
    refine hK.out _ _ (fun _ => HS.out) ?_
    clear hK K
    try simp only [List.getElem_toArray, List.getElem_cons_succ, List.getElem_cons_zero, Act.put, List.setIfInBounds_toArray, List.set_cons_zero, List.set_cons_succ]
    refine AnyT.one (i := 7) (by kernel_rfl) rfl (fun K hK => ?_)
    go_simp
    go_wp2_with (go_at_call 12; refine (ref6Same (hRF.c0 HS.out) hT).mono ?_; rintro e w14 ⟨rfl, hc14⟩)
    have HS' := hide (HS.out.trans0 hc14)
    clear HS
    have HS := HS'
    clear HS'
    refine hK.out _ _ (fun _ => HS.out) ?_
    clear hK K
    try simp only [List.getElem_toArray, List.getElem_cons_succ, List.getElem_cons_zero, Act.put, List.setIfInBounds_toArray, List.set_cons_zero, List.set_cons_succ]
    refine AnyT.take (i := 8) (v := ?_) rfl (by kernel_rfl) (by kernel_rfl) (fun _ _ _ h => h) (by kernel_rfl) (by kernel_rfl) (Or.inl ⟨by rfl, ?_⟩) HS.out ?_
    rotate_left
    · (intro w9 h9; go_simp; try with_reducible rfl)
    try simp only [List.getElem_toArray, List.getElem_cons_succ, List.getElem_cons_zero, Act.put, List.setIfInBounds_toArray, List.set_cons_zero, List.set_cons_succ]
    refine AnyT.take (i := 9) (v := ?_) rfl (by kernel_rfl) (by kernel_rfl) (fun _ _ _ h => h) (by kernel_rfl) (by kernel_rfl) (Or.inl ⟨by rfl, ?_⟩) HS.out ?_
    rotate_left
    · (intro w9 h9; go_simp; try with_reducible rfl)
    try simp only [List.getElem_toArray, List.getElem_cons_succ, List.getElem_cons_zero, Act.put, List.setIfInBounds_toArray, List.set_cons_zero, List.set_cons_succ]
    refine AnyT.nil (by kernel_rfl) ?_
    go_wp2_with fail
    go_ret
    exact ⟨rfl, (hctF.trans0 hcD).trans0 HS.out⟩
  · go_upto_region 8 with (go_at_call 14; refine (recReadN huE hk).mono ?_; rintro e w10 ⟨er, her, rfl, hc10⟩; unfold zeroC)
    have hX := Blk.new w10 32 #[.int .i64 0, .int .u64 0, .int .u64 0, .int .u64 0, .slice none 0 0, .slice none 0 0, .bool false, .slice none 0 0, .slice none 0 0, .int .u64 0, .string ⟨#[]⟩]
    have hcA := (Chg.refl Non w10).alloc (.cells #[.int .i64 0, .int .u64 0, .int .u64 0, .int .u64 0, .slice none 0 0, .slice none 0 0, .bool false, .slice none 0 0, .slice none 0 0, .int .u64 0, .string ⟨#[]⟩] 32)
    obtain ⟨bz, hbx⟩ : ∃ b, b = w10.heap.size := ⟨_, rfl⟩
    rw [← hbx] at hX ⊢
    generalize World.alloc _ _ = w11 at hX hcA ⊢
    clear hbx
    have hcF := hc10.trans0 hcA
    have hbF := HBE.out.c0 hcF
    have hctF := hctE.trans0 hcF
    obtain ⟨c0, c1, c2, c3, c4, c5, c6, c7, c8, c9, c10⟩ := rblk hbF
    obtain ⟨d0, d1, d2, d3, d4, d5, d6, d7, d8, d9, d10⟩ := rblk hX
    clear HBE hrE huE hctE hc10 hcA hcF hbF hX
    have hne : (er == 0) = false := beq_eq_false_iff_ne.2 her
    have hne2 : (er != 0) = true := bne_iff_ne.2 her
    by_cases hlt : x.kind < 1
    · have hd1 : decide (x.kind < 1) = true := decide_eq_true hlt
      go_wp2_with fail
      go_ret
      exact ⟨rfl, hctF⟩
    · have hd1 : decide (x.kind < 1) = false := decide_eq_false hlt
      have hgt : 9 < x.kind := by omega
      have hd2 : decide (9 < x.kind) = true := decide_eq_true hgt
      go_wp2_with fail
      go_ret
      exact ⟨rfl, hctF⟩

set_option maxRecDepth 100000 in
theorem contract (H : Type) (enc : TypeId × Value → H) (W : World) (base : Nat) (args : Array Value) (ds gs : List (DataW H)) (before : List MemPlace)
    (hval : ∀ (j : Nat) t v, Try.f3.params[j]? = some t → args[j]? = some v → Value.okWide Try.prog W .any base t v)
    (hW : DataW.Whole enc Try.prog Try.f3.params.toList Rows.recBytesSpec.vars false W args.toList ds gs before) (hk : Rows.uptoSmall H (ds ++ gs) = true) :
    Calls Try.prog 3 args W fun e W' => ∃ v, e = .returned v ∧ Rows.recBytesSpec.post enc Try.prog Try.f3 false true false false W args v W' := by
  have hW' := hW
  obtain ⟨p, q, hA0, hV, rfl, hfz, hnd⟩ := hW
  have hA : DataW.TrodAll enc Try.prog W 0 (fun _ => true) true Try.f3.params.toList args.toList ds p := hA0
  rw [Try.params3] at hA hval
  obtain ⟨v0, vs0, d0, ds0, p0, q0, hargs, rfl, rfl, h0, r0⟩ := trodAll_cons hA
  obtain ⟨rfl, rfl, rfl⟩ := trodAll_nil r0
  obtain rfl : args = #[v0] := by cases args; simp_all
  obtain ⟨rfl, rfl⟩ := trodVars_none hV
  have k0 := h0
  have lt0 : ∀ x ∈ p0, x.block < W.heap.size := by obtain ⟨m, hm⟩ := k0; exact DataW.trod_lt m _ _ _ hm
  obtain ⟨x0, ra0, rb0, rc0, rd0, rfl, w0, wf0, sm0⟩ := openRec (hval 0 30 v0 rfl rfl) h0
  have hb := of_decide_eq_true hk
  simp only [List.append_nil, Rows.uptoBulkAll] at hb
  refine (walk w0 wf0 (sm0 (by omega))).mono fun e W' ⟨he, bel0⟩ => ?_
  have bel := bel0.below
  subst he
  exact ⟨_, rfl, _, _, _, [], _, [], hW', trodAll_mk1 (shut_bool Try.underlying4 _), (trodAll_cons_mk (Below.trod laidOut (by kernel_rfl) (of_decide_eq_true (by kernel_rfl)) k0 bel lt0) trodAll_mk0), rfl, bel.frame _, fun h => by cases h⟩

set_option maxRecDepth 100000 in
theorem lifted (os : Os) (started : os.Started) (H : Type) (enc : TypeId × Value → H) (F : Stop.Interp) :
    ReturnsInHanded {} Try.checked os 3 .any ((Rows.OpenSpec.upto Rows.recBytesSpec).pre6 enc Try.prog Try.f3 Rows.recBytesUptoRow.domain false) (((Rows.OpenSpec.upto Rows.recBytesSpec).at F).post enc Try.prog Try.f3 false true false false) := by
  refine returnsInHanded_of_cond (C := Try.checked) (s := Rows.OpenSpec.upto Rows.recBytesSpec) (k := Rows.uptoSmall) rfl own started (by kernel_rfl) Try.func3
    (OpenSpec.witness (enc := enc) (C := Try.checked) (s := Rows.OpenSpec.upto Rows.recBytesSpec) (k := Rows.uptoSmall) rfl false ⟨#[], #[.agg #[.int .i64 0, .int .u64 0, .int .u64 0, .int .u64 0, .slice none 0 0, .slice none 0 0, .bool false, .slice none 0 0, .slice none 0 0, .int .u64 0, .string ⟨#[]⟩]], []⟩ 8 (by kernel_rfl) (by kernel_rfl) (by kernel_rfl)
      (x := ([.agg [.lit (.int .i64 0), .agg [.lit (.int .u64 0), .lit (.int .u64 0), .lit (.int .u64 0)], .nil, .nil, .lit (.bool false), .nil, .nil, .lit (.int .u64 0), .lit (.string [])]], [], [])) (by kernel_rfl) rfl (by kernel_rfl)) ?_
  intro W base args ds gs before hval hW _ hk _
  exact contract H enc W base args ds gs before hval hW hk

theorem over : Rows.recBytesUptoRow.holds Try.pinned (Rows.OpenSpec.upto Rows.recBytesSpec) :=
  OpenClaim.holds_of_cond 3 Try.f3 rfl rfl rfl rfl rfl rfl rfl ⟨rfl, rfl, rfl, rfl, rfl⟩ rfl rfl rfl rfl rfl (by kernel_rfl) Try.func3 (by kernel_rfl)
    (of_decide_eq_true (by kernel_rfl)) (by unfold Func.isWrapper; first | (rw [if_pos (by decide +kernel)]; kernel_rfl) | (rw [if_neg (by decide +kernel)]; exact ⟨rfl, rfl⟩))
    (fun os started H enc _ F => lifted os started H enc F)

theorem proved : Rows.RecBytesUptoSaid := over
end Go.Proofs.Ytpbgjldjipgfeaa.recBytes
