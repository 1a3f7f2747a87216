/- The walk of groyneref06.Bytes, kind by kind. -/
import Derived.Test.YtpbgjldjipgfeaaRecF
namespace Go.Proofs.Ytpbgjldjipgfeaa
open Go.RowKit
set_option linter.unusedVariables false

theorem OwnT.newk {w w' : World} {base : Nat} {v : Value} {ll : List (List UInt8)} (h : OwnT w base v ll) (hc : Chg Non w w') : ∀ b, b = w'.heap.size → v.ownBlock ≠ some b := fun b hb e => by
  have := (h.lt b e).2
  have := hc.size
  omega
theorem run_conv (s : ByteArray) : ∀ w, (convert 9 28 (.string s)).run Try.prog w = .ok (.slice (some ⟨w.heap.size, 0, none⟩) s.size (grownCap w s.size 0 5)) (Lib.bytesWorld w 5 s) := fun w => conv_bytes w s

set_option maxHeartbeats 8000000 in
set_option maxRecDepth 100000 in
theorem ref6Bytes1 {x : RcS} {wv rv sv pv : Value} {F : Nat → Prop} {w : World} (hr : RecR w F x wv rv sv pv) (hs : RcSm x) (hk : x.kind = 1) :
    Calls Try.prog 11 #[.agg (recC x wv rv sv pv)] w fun e w' => ∃ u, e = .returned u ∧ OwnB w' w.heap.size u (recY x) ∧ Chg Non w w' := by
  have hk0 : Chg Non w (w.alloc (.cells (recC x wv rv sv pv) 30)) := (Chg.refl Non w).alloc _
  have hb0 := Blk.new w 30 (recC x wv rv sv pv)
  have hr0 := hr.lt.c0 hk0
  have HY := hide (recY_len x hs)
  have HF := hide (show recY x = joinB ([kiB 1] :: [txB x, triB x.ws, triB x.rs]) from by rw [recY, hk, fldR, hk]; rfl)
  have hh : hasT 1 = true := by decide
  have hhas := fun (w' : World) => ref6HasTxn (k := 1) (w := w')
  simp only [hh] at hhas
  have HH := hide hhas
  clear hr hhas hh
  unfold recC at hk0 hb0 ⊢
  rw [hk] at hk0 hb0 ⊢
  go_enter Try.func11, Try.ntmps11
  go_upto_region 1 with fail
  rw [show (World.alloc w (.cells (recC x wv rv sv pv) 30)) = w.alloc (.cells #[.int .i64 1, .int .u64 (x.boot : Int), .int .u64 (x.sess : Int), .int .u64 (x.seq : Int), wv, rv, .bool x.commit, sv, pv, .int .u64 (x.id : Int), .string x.name] 30) from by rw [recC, hk]] at hr0
  generalize World.alloc _ _ = w0 at hb0 hk0 hr0 ⊢
  have hsz := hk0.size
  have HGL : w.heap.size < w0.heap.size := hb0.lt
  have hlast : Blk w0 w.heap.size 30 _ := hb0
  obtain ⟨c0, c1, c2, c3, c4, c5, c6, c7, c8, c9, c10⟩ := rblk hb0
  clear hb0 hk
  go_upto_region 2 with fail
  have k1 : Chg Non w0 ((w0.alloc (.cells #[.int .u8 1] 5)).alloc (.cells #[.slice (some ⟨w0.heap.size, 0, none⟩) 1 1] 28)) := ((Chg.refl Non w0).alloc _).alloc _
  have hO : OwnT ((w0.alloc (.cells #[.int .u8 1] 5)).alloc (.cells #[.slice (some ⟨w0.heap.size, 0, none⟩) 1 1] 28)) (w0.alloc (.cells #[.int .u8 1] 5)).heap.size (.slice (some ⟨(w0.alloc (.cells #[.int .u8 1] 5)).heap.size, 0, none⟩) 1 1) [[kiB 1]] :=
    OwnT.lit (us := [.slice (some ⟨w0.heap.size, 0, none⟩) 1 1]) (RdsB.cons (own_one w0 (kiB 1) _ (by decide)).rd (fun b hb => by simp [Value.ownBlock]) (RdsB.nil_ _ _)) 1 rfl (by simp [maxLen]) rfl
  have hO := hO.low (show w0.heap.size ≤ _ by simp)
  rw [show (w0.alloc (.cells #[.int .u8 1] 5)).heap.size = w0.heap.size + 1 from by simp] at hO
  have hlast0 := hlast
  have hr00 := hr0
  have hlast := hlast.c0 k1
  have hs1 := k1.size
  have hr0 := hr0.c0 k1
  clear c0 c1 c2 c3 c4 c5 c6 c7 c8 c9 c10
  generalize World.alloc _ _ = w1 at k1 hO hlast hs1 hr0 ⊢
  generalize Value.slice (some ⟨w0.heap.size + 1, 0, none⟩) 1 1 = p0 at hO ⊢
  obtain ⟨c0, c1, c2, c3, c4, c5, c6, c7, c8, c9, c10⟩ := rblk hlast
  have hdl : ([[kiB 1]] : List (List UInt8)).length + 1 ≤ 1000000000000 := by simp
  have htx := fun (w' : World) => ref6Txn (w := w') hr0.u1 hr0.u2 hr0.u3
  have HT := hide htx
  clear htx
  go_upto_region 3 with (go_at_call 21; refine (HH.out _).mono ?_; rintro e w2 ⟨rfl, rfl⟩)
  go_upto_region 4 with (first
    | (go_at_call 27; refine (HT.out _).mono ?_; rintro e w5 ⟨u5, rfl, hu5, hc5⟩; have d5 := OwnT.dsj hO hu5; obtain ⟨A5, n5, k5, rfl⟩ := hu5.sl; have hs5 := hc5.size)
    | (at_builtin; refine append_T rfl _ _ rfl ((hO.c0 hc5).al _) rfl (RdsB.cons (hu5.al _).rd d5 (RdsB.nil_ _ _)) (Blk.new _ _ _) rfl rfl rfl hdl (Nat.le_trans hs1 (Nat.le_trans hs5 (szAl _ _))) ?_; intro v6 w6 hO6 hg6 hat6))
  have k6 := Chg.appT ((k1.trans0 hc5).alloc _) hg6 ((hO.c0 hc5).al _) (Nat.le_refl _)
  have hO6 : OwnT w6 w0.heap.size v6 [[kiB 1], txB x] := hO6
  clear hO hu5 hg6 hat6 d5 hc5 hs5 c0 c1 c2 c3 c4 c5 c6 c7 c8 c9 c10 hlast hr0 k1 hs1 hdl HT HH
  have hs6 := k6.size
  have hr6 := hr00.c0 k6
  have hlast6 := hlast0.c0 k6
  obtain ⟨c0, c1, c2, c3, c4, c5, c6, c7, c8, c9, c10⟩ := rblk hlast6
  clear hlast0 hr00
  have hw1 := triB_len x.ws
  have hw2 := hs.ws
  have hw3 := hs.wn
  have HLws := hide (show (triB x.ws).length + 18 ≤ 140737488355328 by omega)
  have HNws := hide (show x.ws.length ≤ 1000000000 by omega)
  clear hw1 hw2 hw3
  have hw1 := triB_len x.rs
  have hw2 := hs.rs
  have hw3 := hs.rn
  have HLrs := hide (show (triB x.rs).length + 18 ≤ 140737488355328 by omega)
  have HNrs := hide (show x.rs.length ≤ 1000000000 by omega)
  clear hw1 hw2 hw3
  have hgl : w.heap.size < w0.heap.size := HGL
  have hna : ¬ (some w.heap.size = v6.ownBlock) := fun e => by have := (hO6.lt _ e.symm).1; omega
  have hdl : ([[kiB 1], txB x] : List (List UInt8)).length + 2 ≤ 1000000000000 := by simp
  go_upto_region 6 with fail
  have hOd := hO6.c0 ((Chg.refl Non w6).drew)
  have hrd := hr6.c0 ((Chg.refl Non w6).drew)
  have kd := k6.drew
  have hs6d : w0.heap.size ≤ w6.drew.heap.size := hs6
  have c4 : w6.drew.cell? ⟨w.heap.size, 4, none⟩ = some (wv) := c4
  have c5 : w6.drew.cell? ⟨w.heap.size, 5, none⟩ = some (rv) := c5
  have hcw := ref6Writes hrd.ws HLws.out HNws.out
  have HW := hide hcw
  clear hcw hO6 hr6 hlast6 c0 c1 c2 c3 c6 c7 c8 c9 c10 hs
  go_region_held3 (fun w' => w'.cell? ⟨w.heap.size, 4, none⟩ = some (wv) ∧ w'.cell? ⟨w.heap.size, 5, none⟩ = some (rv)) (first | exact ⟨c4, c5⟩ | exact ⟨cell_al c4, cell_al c5⟩) (first
    | (have z := hu7; go_at_call 29; refine (ref6Ranges (hrd.rs.c0 hc7) HLrs.out HNrs.out).mono ?_; rintro e w8 ⟨u8, rfl, hu8, hc8⟩; have d8 := OwnT.dsj (hOd.c0 hc7) hu8; obtain ⟨A8, n8, k8, rfl⟩ := hu8.sl; have c4 := hc8.cell c4 (fun h => h); have c5 := hc8.cell c5 (fun h => h))
    | (go_at_call 28; refine HW.out.mono ?_; rintro e w7 ⟨u7, rfl, hu7, hc7⟩; have d7 := OwnT.dsj hOd hu7; obtain ⟨A7, n7, k7, rfl⟩ := hu7.sl; have c4 := hc7.cell c4 (fun h => h); have c5 := hc7.cell c5 (fun h => h))
    | (refine step_T rfl _ _ rfl (((hOd.c0 hc7).c0 hc8).al _) rfl (RdsB.cons ((hu7.c0 hc8).al _).rd d7 (RdsB.cons (hu8.al _).rd d8 (RdsB.nil_ _ _))) (Blk.new _ _ _) rfl rfl rfl hdl (Nat.le_trans hs6d (Nat.le_trans hc7.size (Nat.le_trans hc8.size (szAl _ _)))) ?_; intro v9 w9 hO9 hg9 hat9; have c4 := (Chg.of_grown hg9).cell (cell_al c4) hna; have c5 := (Chg.of_grown hg9).cell (cell_al c5) hna; have k9 := Chg.appT (((kd.trans0 hc7).trans0 hc8).alloc _) hg9 (((hOd.c0 hc7).c0 hc8).al _) (Nat.le_refl _)))
  have HJ : Hid ((joinB ([kiB 1] :: [txB x, triB x.ws, triB x.rs])).length + 18 ≤ 140737488355328) := hide (by have := HY.out; rw [HF.out] at this; omega)
  have hj := refJoin hO9.rd HJ.out
  go_wp2_with fail
  refine hj.mono ?_
  rintro e w12 ⟨u12, rfl, hu12, hc12⟩
  go_wp2_with fail
  go_ret
  rw [HF.out]
  exact ⟨_, rfl, hu12.low (Nat.le_trans hsz k9.size), (hk0.trans0 k9).trans0 hc12⟩

set_option maxHeartbeats 8000000 in
set_option maxRecDepth 100000 in
theorem ref6Bytes2 {x : RcS} {wv rv sv pv : Value} {F : Nat → Prop} {w : World} (hr : RecR w F x wv rv sv pv) (hs : RcSm x) (hk : x.kind = 2) :
    Calls Try.prog 11 #[.agg (recC x wv rv sv pv)] w fun e w' => ∃ u, e = .returned u ∧ OwnB w' w.heap.size u (recY x) ∧ Chg Non w w' := by
  have hk0 : Chg Non w (w.alloc (.cells (recC x wv rv sv pv) 30)) := (Chg.refl Non w).alloc _
  have hb0 := Blk.new w 30 (recC x wv rv sv pv)
  have hr0 := hr.lt.c0 hk0
  have HY := hide (recY_len x hs)
  have HF := hide (show recY x = joinB ([kiB 2] :: [txB x]) from by rw [recY, hk, fldR, hk]; rfl)
  have hh : hasT 2 = true := by decide
  have hhas := fun (w' : World) => ref6HasTxn (k := 2) (w := w')
  simp only [hh] at hhas
  have HH := hide hhas
  clear hr hhas hh
  unfold recC at hk0 hb0 ⊢
  rw [hk] at hk0 hb0 ⊢
  go_enter Try.func11, Try.ntmps11
  go_upto_region 1 with fail
  rw [show (World.alloc w (.cells (recC x wv rv sv pv) 30)) = w.alloc (.cells #[.int .i64 2, .int .u64 (x.boot : Int), .int .u64 (x.sess : Int), .int .u64 (x.seq : Int), wv, rv, .bool x.commit, sv, pv, .int .u64 (x.id : Int), .string x.name] 30) from by rw [recC, hk]] at hr0
  generalize World.alloc _ _ = w0 at hb0 hk0 hr0 ⊢
  have hsz := hk0.size
  have HGL : w.heap.size < w0.heap.size := hb0.lt
  have hlast : Blk w0 w.heap.size 30 _ := hb0
  obtain ⟨c0, c1, c2, c3, c4, c5, c6, c7, c8, c9, c10⟩ := rblk hb0
  clear hb0 hk
  go_upto_region 2 with fail
  have k1 : Chg Non w0 ((w0.alloc (.cells #[.int .u8 2] 5)).alloc (.cells #[.slice (some ⟨w0.heap.size, 0, none⟩) 1 1] 28)) := ((Chg.refl Non w0).alloc _).alloc _
  have hO : OwnT ((w0.alloc (.cells #[.int .u8 2] 5)).alloc (.cells #[.slice (some ⟨w0.heap.size, 0, none⟩) 1 1] 28)) (w0.alloc (.cells #[.int .u8 2] 5)).heap.size (.slice (some ⟨(w0.alloc (.cells #[.int .u8 2] 5)).heap.size, 0, none⟩) 1 1) [[kiB 2]] :=
    OwnT.lit (us := [.slice (some ⟨w0.heap.size, 0, none⟩) 1 1]) (RdsB.cons (own_one w0 (kiB 2) _ (by decide)).rd (fun b hb => by simp [Value.ownBlock]) (RdsB.nil_ _ _)) 1 rfl (by simp [maxLen]) rfl
  have hO := hO.low (show w0.heap.size ≤ _ by simp)
  rw [show (w0.alloc (.cells #[.int .u8 2] 5)).heap.size = w0.heap.size + 1 from by simp] at hO
  have hlast0 := hlast
  have hr00 := hr0
  have hlast := hlast.c0 k1
  have hs1 := k1.size
  have hr0 := hr0.c0 k1
  clear c0 c1 c2 c3 c4 c5 c6 c7 c8 c9 c10
  generalize World.alloc _ _ = w1 at k1 hO hlast hs1 hr0 ⊢
  generalize Value.slice (some ⟨w0.heap.size + 1, 0, none⟩) 1 1 = p0 at hO ⊢
  obtain ⟨c0, c1, c2, c3, c4, c5, c6, c7, c8, c9, c10⟩ := rblk hlast
  have hdl : ([[kiB 2]] : List (List UInt8)).length + 1 ≤ 1000000000000 := by simp
  have htx := fun (w' : World) => ref6Txn (w := w') hr0.u1 hr0.u2 hr0.u3
  have HT := hide htx
  clear htx
  go_upto_region 3 with (go_at_call 21; refine (HH.out _).mono ?_; rintro e w2 ⟨rfl, rfl⟩)
  go_upto_region 4 with (first
    | (go_at_call 27; refine (HT.out _).mono ?_; rintro e w5 ⟨u5, rfl, hu5, hc5⟩; have d5 := OwnT.dsj hO hu5; obtain ⟨A5, n5, k5, rfl⟩ := hu5.sl; have hs5 := hc5.size)
    | (at_builtin; refine append_T rfl _ _ rfl ((hO.c0 hc5).al _) rfl (RdsB.cons (hu5.al _).rd d5 (RdsB.nil_ _ _)) (Blk.new _ _ _) rfl rfl rfl hdl (Nat.le_trans hs1 (Nat.le_trans hs5 (szAl _ _))) ?_; intro v6 w6 hO6 hg6 hat6))
  have k6 := Chg.appT ((k1.trans0 hc5).alloc _) hg6 ((hO.c0 hc5).al _) (Nat.le_refl _)
  have hO6 : OwnT w6 w0.heap.size v6 [[kiB 2], txB x] := hO6
  clear hO hu5 hg6 hat6 d5 hc5 hs5 c0 c1 c2 c3 c4 c5 c6 c7 c8 c9 c10 hlast hr0 k1 hs1 hdl HT HH
  have hs6 := k6.size
  have hr6 := hr00.c0 k6
  have hlast6 := hlast0.c0 k6
  obtain ⟨c0, c1, c2, c3, c4, c5, c6, c7, c8, c9, c10⟩ := rblk hlast6
  clear hlast0 hr00
  have hO9 := hO6
  have k9 := k6
  have HJ : Hid ((joinB ([kiB 2] :: [txB x])).length + 18 ≤ 140737488355328) := hide (by have := HY.out; rw [HF.out] at this; omega)
  have hj := refJoin hO9.rd HJ.out
  go_wp2_with fail
  refine hj.mono ?_
  rintro e w12 ⟨u12, rfl, hu12, hc12⟩
  go_wp2_with fail
  go_ret
  rw [HF.out]
  exact ⟨_, rfl, hu12.low (Nat.le_trans hsz k9.size), (hk0.trans0 k9).trans0 hc12⟩

set_option maxHeartbeats 8000000 in
set_option maxRecDepth 100000 in
theorem ref6Bytes3 {x : RcS} {wv rv sv pv : Value} {F : Nat → Prop} {w : World} (hr : RecR w F x wv rv sv pv) (hs : RcSm x) (hk : x.kind = 3) :
    Calls Try.prog 11 #[.agg (recC x wv rv sv pv)] w fun e w' => ∃ u, e = .returned u ∧ OwnB w' w.heap.size u (recY x) ∧ Chg Non w w' := by
  have hk0 : Chg Non w (w.alloc (.cells (recC x wv rv sv pv) 30)) := (Chg.refl Non w).alloc _
  have hb0 := Blk.new w 30 (recC x wv rv sv pv)
  have hr0 := hr.lt.c0 hk0
  have HY := hide (recY_len x hs)
  have HF := hide (show recY x = joinB ([kiB 3] :: [txB x]) from by rw [recY, hk, fldR, hk]; rfl)
  have hh : hasT 3 = true := by decide
  have hhas := fun (w' : World) => ref6HasTxn (k := 3) (w := w')
  simp only [hh] at hhas
  have HH := hide hhas
  clear hr hhas hh
  unfold recC at hk0 hb0 ⊢
  rw [hk] at hk0 hb0 ⊢
  go_enter Try.func11, Try.ntmps11
  go_upto_region 1 with fail
  rw [show (World.alloc w (.cells (recC x wv rv sv pv) 30)) = w.alloc (.cells #[.int .i64 3, .int .u64 (x.boot : Int), .int .u64 (x.sess : Int), .int .u64 (x.seq : Int), wv, rv, .bool x.commit, sv, pv, .int .u64 (x.id : Int), .string x.name] 30) from by rw [recC, hk]] at hr0
  generalize World.alloc _ _ = w0 at hb0 hk0 hr0 ⊢
  have hsz := hk0.size
  have HGL : w.heap.size < w0.heap.size := hb0.lt
  have hlast : Blk w0 w.heap.size 30 _ := hb0
  obtain ⟨c0, c1, c2, c3, c4, c5, c6, c7, c8, c9, c10⟩ := rblk hb0
  clear hb0 hk
  go_upto_region 2 with fail
  have k1 : Chg Non w0 ((w0.alloc (.cells #[.int .u8 3] 5)).alloc (.cells #[.slice (some ⟨w0.heap.size, 0, none⟩) 1 1] 28)) := ((Chg.refl Non w0).alloc _).alloc _
  have hO : OwnT ((w0.alloc (.cells #[.int .u8 3] 5)).alloc (.cells #[.slice (some ⟨w0.heap.size, 0, none⟩) 1 1] 28)) (w0.alloc (.cells #[.int .u8 3] 5)).heap.size (.slice (some ⟨(w0.alloc (.cells #[.int .u8 3] 5)).heap.size, 0, none⟩) 1 1) [[kiB 3]] :=
    OwnT.lit (us := [.slice (some ⟨w0.heap.size, 0, none⟩) 1 1]) (RdsB.cons (own_one w0 (kiB 3) _ (by decide)).rd (fun b hb => by simp [Value.ownBlock]) (RdsB.nil_ _ _)) 1 rfl (by simp [maxLen]) rfl
  have hO := hO.low (show w0.heap.size ≤ _ by simp)
  rw [show (w0.alloc (.cells #[.int .u8 3] 5)).heap.size = w0.heap.size + 1 from by simp] at hO
  have hlast0 := hlast
  have hr00 := hr0
  have hlast := hlast.c0 k1
  have hs1 := k1.size
  have hr0 := hr0.c0 k1
  clear c0 c1 c2 c3 c4 c5 c6 c7 c8 c9 c10
  generalize World.alloc _ _ = w1 at k1 hO hlast hs1 hr0 ⊢
  generalize Value.slice (some ⟨w0.heap.size + 1, 0, none⟩) 1 1 = p0 at hO ⊢
  obtain ⟨c0, c1, c2, c3, c4, c5, c6, c7, c8, c9, c10⟩ := rblk hlast
  have hdl : ([[kiB 3]] : List (List UInt8)).length + 1 ≤ 1000000000000 := by simp
  have htx := fun (w' : World) => ref6Txn (w := w') hr0.u1 hr0.u2 hr0.u3
  have HT := hide htx
  clear htx
  go_upto_region 3 with (go_at_call 21; refine (HH.out _).mono ?_; rintro e w2 ⟨rfl, rfl⟩)
  go_upto_region 4 with (first
    | (go_at_call 27; refine (HT.out _).mono ?_; rintro e w5 ⟨u5, rfl, hu5, hc5⟩; have d5 := OwnT.dsj hO hu5; obtain ⟨A5, n5, k5, rfl⟩ := hu5.sl; have hs5 := hc5.size)
    | (at_builtin; refine append_T rfl _ _ rfl ((hO.c0 hc5).al _) rfl (RdsB.cons (hu5.al _).rd d5 (RdsB.nil_ _ _)) (Blk.new _ _ _) rfl rfl rfl hdl (Nat.le_trans hs1 (Nat.le_trans hs5 (szAl _ _))) ?_; intro v6 w6 hO6 hg6 hat6))
  have k6 := Chg.appT ((k1.trans0 hc5).alloc _) hg6 ((hO.c0 hc5).al _) (Nat.le_refl _)
  have hO6 : OwnT w6 w0.heap.size v6 [[kiB 3], txB x] := hO6
  clear hO hu5 hg6 hat6 d5 hc5 hs5 c0 c1 c2 c3 c4 c5 c6 c7 c8 c9 c10 hlast hr0 k1 hs1 hdl HT HH
  have hs6 := k6.size
  have hr6 := hr00.c0 k6
  have hlast6 := hlast0.c0 k6
  obtain ⟨c0, c1, c2, c3, c4, c5, c6, c7, c8, c9, c10⟩ := rblk hlast6
  clear hlast0 hr00
  have hO9 := hO6
  have k9 := k6
  have HJ : Hid ((joinB ([kiB 3] :: [txB x])).length + 18 ≤ 140737488355328) := hide (by have := HY.out; rw [HF.out] at this; omega)
  have hj := refJoin hO9.rd HJ.out
  go_wp2_with fail
  refine hj.mono ?_
  rintro e w12 ⟨u12, rfl, hu12, hc12⟩
  go_wp2_with fail
  go_ret
  rw [HF.out]
  exact ⟨_, rfl, hu12.low (Nat.le_trans hsz k9.size), (hk0.trans0 k9).trans0 hc12⟩

set_option maxHeartbeats 8000000 in
set_option maxRecDepth 100000 in
theorem ref6Bytes9 {x : RcS} {wv rv sv pv : Value} {F : Nat → Prop} {w : World} (hr : RecR w F x wv rv sv pv) (hs : RcSm x) (hk : x.kind = 9) :
    Calls Try.prog 11 #[.agg (recC x wv rv sv pv)] w fun e w' => ∃ u, e = .returned u ∧ OwnB w' w.heap.size u (recY x) ∧ Chg Non w w' := by
  have hk0 : Chg Non w (w.alloc (.cells (recC x wv rv sv pv) 30)) := (Chg.refl Non w).alloc _
  have hb0 := Blk.new w 30 (recC x wv rv sv pv)
  have hr0 := hr.lt.c0 hk0
  have HY := hide (recY_len x hs)
  have HF := hide (show recY x = joinB ([kiB 9] :: [txB x]) from by rw [recY, hk, fldR, hk]; rfl)
  have hh : hasT 9 = true := by decide
  have hhas := fun (w' : World) => ref6HasTxn (k := 9) (w := w')
  simp only [hh] at hhas
  have HH := hide hhas
  clear hr hhas hh
  unfold recC at hk0 hb0 ⊢
  rw [hk] at hk0 hb0 ⊢
  go_enter Try.func11, Try.ntmps11
  go_upto_region 1 with fail
  rw [show (World.alloc w (.cells (recC x wv rv sv pv) 30)) = w.alloc (.cells #[.int .i64 9, .int .u64 (x.boot : Int), .int .u64 (x.sess : Int), .int .u64 (x.seq : Int), wv, rv, .bool x.commit, sv, pv, .int .u64 (x.id : Int), .string x.name] 30) from by rw [recC, hk]] at hr0
  generalize World.alloc _ _ = w0 at hb0 hk0 hr0 ⊢
  have hsz := hk0.size
  have HGL : w.heap.size < w0.heap.size := hb0.lt
  have hlast : Blk w0 w.heap.size 30 _ := hb0
  obtain ⟨c0, c1, c2, c3, c4, c5, c6, c7, c8, c9, c10⟩ := rblk hb0
  clear hb0 hk
  go_upto_region 2 with fail
  have k1 : Chg Non w0 ((w0.alloc (.cells #[.int .u8 9] 5)).alloc (.cells #[.slice (some ⟨w0.heap.size, 0, none⟩) 1 1] 28)) := ((Chg.refl Non w0).alloc _).alloc _
  have hO : OwnT ((w0.alloc (.cells #[.int .u8 9] 5)).alloc (.cells #[.slice (some ⟨w0.heap.size, 0, none⟩) 1 1] 28)) (w0.alloc (.cells #[.int .u8 9] 5)).heap.size (.slice (some ⟨(w0.alloc (.cells #[.int .u8 9] 5)).heap.size, 0, none⟩) 1 1) [[kiB 9]] :=
    OwnT.lit (us := [.slice (some ⟨w0.heap.size, 0, none⟩) 1 1]) (RdsB.cons (own_one w0 (kiB 9) _ (by decide)).rd (fun b hb => by simp [Value.ownBlock]) (RdsB.nil_ _ _)) 1 rfl (by simp [maxLen]) rfl
  have hO := hO.low (show w0.heap.size ≤ _ by simp)
  rw [show (w0.alloc (.cells #[.int .u8 9] 5)).heap.size = w0.heap.size + 1 from by simp] at hO
  have hlast0 := hlast
  have hr00 := hr0
  have hlast := hlast.c0 k1
  have hs1 := k1.size
  have hr0 := hr0.c0 k1
  clear c0 c1 c2 c3 c4 c5 c6 c7 c8 c9 c10
  generalize World.alloc _ _ = w1 at k1 hO hlast hs1 hr0 ⊢
  generalize Value.slice (some ⟨w0.heap.size + 1, 0, none⟩) 1 1 = p0 at hO ⊢
  obtain ⟨c0, c1, c2, c3, c4, c5, c6, c7, c8, c9, c10⟩ := rblk hlast
  have hdl : ([[kiB 9]] : List (List UInt8)).length + 1 ≤ 1000000000000 := by simp
  have htx := fun (w' : World) => ref6Txn (w := w') hr0.u1 hr0.u2 hr0.u3
  have HT := hide htx
  clear htx
  go_upto_region 3 with (go_at_call 21; refine (HH.out _).mono ?_; rintro e w2 ⟨rfl, rfl⟩)
  go_upto_region 4 with (first
    | (go_at_call 27; refine (HT.out _).mono ?_; rintro e w5 ⟨u5, rfl, hu5, hc5⟩; have d5 := OwnT.dsj hO hu5; obtain ⟨A5, n5, k5, rfl⟩ := hu5.sl; have hs5 := hc5.size)
    | (at_builtin; refine append_T rfl _ _ rfl ((hO.c0 hc5).al _) rfl (RdsB.cons (hu5.al _).rd d5 (RdsB.nil_ _ _)) (Blk.new _ _ _) rfl rfl rfl hdl (Nat.le_trans hs1 (Nat.le_trans hs5 (szAl _ _))) ?_; intro v6 w6 hO6 hg6 hat6))
  have k6 := Chg.appT ((k1.trans0 hc5).alloc _) hg6 ((hO.c0 hc5).al _) (Nat.le_refl _)
  have hO6 : OwnT w6 w0.heap.size v6 [[kiB 9], txB x] := hO6
  clear hO hu5 hg6 hat6 d5 hc5 hs5 c0 c1 c2 c3 c4 c5 c6 c7 c8 c9 c10 hlast hr0 k1 hs1 hdl HT HH
  have hs6 := k6.size
  have hr6 := hr00.c0 k6
  have hlast6 := hlast0.c0 k6
  obtain ⟨c0, c1, c2, c3, c4, c5, c6, c7, c8, c9, c10⟩ := rblk hlast6
  clear hlast0 hr00
  have hO9 := hO6
  have k9 := k6
  have HJ : Hid ((joinB ([kiB 9] :: [txB x])).length + 18 ≤ 140737488355328) := hide (by have := HY.out; rw [HF.out] at this; omega)
  have hj := refJoin hO9.rd HJ.out
  go_wp2_with fail
  refine hj.mono ?_
  rintro e w12 ⟨u12, rfl, hu12, hc12⟩
  go_wp2_with fail
  go_ret
  rw [HF.out]
  exact ⟨_, rfl, hu12.low (Nat.le_trans hsz k9.size), (hk0.trans0 k9).trans0 hc12⟩

set_option maxHeartbeats 8000000 in
set_option maxRecDepth 100000 in
theorem ref6Bytes4 {x : RcS} {wv rv sv pv : Value} {F : Nat → Prop} {w : World} (hr : RecR w F x wv rv sv pv) (hs : RcSm x) (hk : x.kind = 4) :
    Calls Try.prog 11 #[.agg (recC x wv rv sv pv)] w fun e w' => ∃ u, e = .returned u ∧ OwnB w' w.heap.size u (recY x) ∧ Chg Non w w' := by
  have hk0 : Chg Non w (w.alloc (.cells (recC x wv rv sv pv) 30)) := (Chg.refl Non w).alloc _
  have hb0 := Blk.new w 30 (recC x wv rv sv pv)
  have hr0 := hr.lt.c0 hk0
  have HY := hide (recY_len x hs)
  have HF := hide (show recY x = joinB ([kiB 4] :: [txB x, triB x.ws, x.reply]) from by rw [recY, hk, fldR, hk]; rfl)
  obtain ⟨P, np, cp, rfl⟩ := hr.rep.sl
  have hh : hasT 4 = true := by decide
  have hhas := fun (w' : World) => ref6HasTxn (k := 4) (w := w')
  simp only [hh] at hhas
  have HH := hide hhas
  clear hr hhas hh
  unfold recC at hk0 hb0 ⊢
  rw [hk] at hk0 hb0 ⊢
  go_enter Try.func11, Try.ntmps11
  go_upto_region 1 with fail
  rw [show (World.alloc w (.cells (recC x wv rv sv (.slice P np cp)) 30)) = w.alloc (.cells #[.int .i64 4, .int .u64 (x.boot : Int), .int .u64 (x.sess : Int), .int .u64 (x.seq : Int), wv, rv, .bool x.commit, sv, (.slice P np cp), .int .u64 (x.id : Int), .string x.name] 30) from by rw [recC, hk]] at hr0
  generalize World.alloc _ _ = w0 at hb0 hk0 hr0 ⊢
  have hsz := hk0.size
  have HGL : w.heap.size < w0.heap.size := hb0.lt
  have hlast : Blk w0 w.heap.size 30 _ := hb0
  obtain ⟨c0, c1, c2, c3, c4, c5, c6, c7, c8, c9, c10⟩ := rblk hb0
  clear hb0 hk
  go_upto_region 2 with fail
  have k1 : Chg Non w0 ((w0.alloc (.cells #[.int .u8 4] 5)).alloc (.cells #[.slice (some ⟨w0.heap.size, 0, none⟩) 1 1] 28)) := ((Chg.refl Non w0).alloc _).alloc _
  have hO : OwnT ((w0.alloc (.cells #[.int .u8 4] 5)).alloc (.cells #[.slice (some ⟨w0.heap.size, 0, none⟩) 1 1] 28)) (w0.alloc (.cells #[.int .u8 4] 5)).heap.size (.slice (some ⟨(w0.alloc (.cells #[.int .u8 4] 5)).heap.size, 0, none⟩) 1 1) [[kiB 4]] :=
    OwnT.lit (us := [.slice (some ⟨w0.heap.size, 0, none⟩) 1 1]) (RdsB.cons (own_one w0 (kiB 4) _ (by decide)).rd (fun b hb => by simp [Value.ownBlock]) (RdsB.nil_ _ _)) 1 rfl (by simp [maxLen]) rfl
  have hO := hO.low (show w0.heap.size ≤ _ by simp)
  rw [show (w0.alloc (.cells #[.int .u8 4] 5)).heap.size = w0.heap.size + 1 from by simp] at hO
  have hlast0 := hlast
  have hr00 := hr0
  have hlast := hlast.c0 k1
  have hs1 := k1.size
  have hr0 := hr0.c0 k1
  clear c0 c1 c2 c3 c4 c5 c6 c7 c8 c9 c10
  generalize World.alloc _ _ = w1 at k1 hO hlast hs1 hr0 ⊢
  generalize Value.slice (some ⟨w0.heap.size + 1, 0, none⟩) 1 1 = p0 at hO ⊢
  obtain ⟨c0, c1, c2, c3, c4, c5, c6, c7, c8, c9, c10⟩ := rblk hlast
  have hdl : ([[kiB 4]] : List (List UInt8)).length + 1 ≤ 1000000000000 := by simp
  have htx := fun (w' : World) => ref6Txn (w := w') hr0.u1 hr0.u2 hr0.u3
  have HT := hide htx
  clear htx
  go_upto_region 3 with (go_at_call 21; refine (HH.out _).mono ?_; rintro e w2 ⟨rfl, rfl⟩)
  go_upto_region 4 with (first
    | (go_at_call 27; refine (HT.out _).mono ?_; rintro e w5 ⟨u5, rfl, hu5, hc5⟩; have d5 := OwnT.dsj hO hu5; obtain ⟨A5, n5, k5, rfl⟩ := hu5.sl; have hs5 := hc5.size)
    | (at_builtin; refine append_T rfl _ _ rfl ((hO.c0 hc5).al _) rfl (RdsB.cons (hu5.al _).rd d5 (RdsB.nil_ _ _)) (Blk.new _ _ _) rfl rfl rfl hdl (Nat.le_trans hs1 (Nat.le_trans hs5 (szAl _ _))) ?_; intro v6 w6 hO6 hg6 hat6))
  have k6 := Chg.appT ((k1.trans0 hc5).alloc _) hg6 ((hO.c0 hc5).al _) (Nat.le_refl _)
  have hO6 : OwnT w6 w0.heap.size v6 [[kiB 4], txB x] := hO6
  clear hO hu5 hg6 hat6 d5 hc5 hs5 c0 c1 c2 c3 c4 c5 c6 c7 c8 c9 c10 hlast hr0 k1 hs1 hdl HT HH
  have hs6 := k6.size
  have hr6 := hr00.c0 k6
  have hlast6 := hlast0.c0 k6
  obtain ⟨c0, c1, c2, c3, c4, c5, c6, c7, c8, c9, c10⟩ := rblk hlast6
  clear hlast0 hr00
  have hw1 := triB_len x.ws
  have hw2 := hs.ws
  have hw3 := hs.wn
  have HLws := hide (show (triB x.ws).length + 18 ≤ 140737488355328 by omega)
  have HNws := hide (show x.ws.length ≤ 1000000000 by omega)
  clear hw1 hw2 hw3
  have hgl : w.heap.size < w0.heap.size := HGL
  have hna : ¬ (some w.heap.size = v6.ownBlock) := fun e => by have := (hO6.lt _ e.symm).1; omega
  have hdl : ([[kiB 4], txB x] : List (List UInt8)).length + 2 ≤ 1000000000000 := by simp
  have hnp : ∀ b, (F b ∧ b < w.heap.size) → v6.ownBlock ≠ some b := fun b hb e => by have := (hO6.lt _ e).1; omega
  go_upto_region 8 with fail
  have hOd := hO6.c0 ((Chg.refl Non w6).drew)
  have hrd := hr6.c0 ((Chg.refl Non w6).drew)
  have kd := k6.drew
  have hs6d : w0.heap.size ≤ w6.drew.heap.size := hs6
  have c4 : w6.drew.cell? ⟨w.heap.size, 4, none⟩ = some (wv) := c4
  have c8 : w6.drew.cell? ⟨w.heap.size, 8, none⟩ = some (.slice P np cp) := c8
  have hcw := ref6Writes hrd.ws HLws.out HNws.out
  have HW := hide hcw
  have hrp := hrd.rep
  clear hcw hO6 hr6 hlast6 c0 c1 c2 c3 c5 c6 c7 c9 c10 hs hrd
  go_region_held3 (fun w' => w'.cell? ⟨w.heap.size, 4, none⟩ = some (wv) ∧ w'.cell? ⟨w.heap.size, 8, none⟩ = some (.slice P np cp)) (first | exact ⟨c4, c8⟩ | exact ⟨cell_al c4, cell_al c8⟩) (first
    | (go_at_call 28; refine HW.out.mono ?_; rintro e w7 ⟨u7, rfl, hu7, hc7⟩; have d7 := OwnT.dsj hOd hu7; obtain ⟨A7, n7, k7, rfl⟩ := hu7.sl; have c4 := hc7.cell c4 (fun h => h); have c8 := hc7.cell c8 (fun h => h))
    | (refine step_T rfl _ _ rfl ((hOd.c0 hc7).al _) rfl (RdsB.cons (hu7.al _).rd d7 (RdsB.cons ((hrp.c0 hc7).al _) hnp (RdsB.nil_ _ _))) (Blk.new _ _ _) rfl rfl rfl hdl (Nat.le_trans hs6d (Nat.le_trans hc7.size (szAl _ _))) ?_; intro v9 w9 hO9 hg9 hat9; have c4 := (Chg.of_grown hg9).cell (cell_al c4) hna; have c8 := (Chg.of_grown hg9).cell (cell_al c8) hna; have k9 := Chg.appT ((kd.trans0 hc7).alloc _) hg9 ((hOd.c0 hc7).al _) (Nat.le_refl _)))
  have HJ : Hid ((joinB ([kiB 4] :: [txB x, triB x.ws, x.reply])).length + 18 ≤ 140737488355328) := hide (by have := HY.out; rw [HF.out] at this; omega)
  have hj := refJoin hO9.rd HJ.out
  go_wp2_with fail
  refine hj.mono ?_
  rintro e w12 ⟨u12, rfl, hu12, hc12⟩
  go_wp2_with fail
  go_ret
  rw [HF.out]
  exact ⟨_, rfl, hu12.low (Nat.le_trans hsz k9.size), (hk0.trans0 k9).trans0 hc12⟩

set_option maxHeartbeats 8000000 in
set_option maxRecDepth 100000 in
theorem ref6Bytes5 {x : RcS} {wv rv sv pv : Value} {F : Nat → Prop} {w : World} (hr : RecR w F x wv rv sv pv) (hs : RcSm x) (hk : x.kind = 5) :
    Calls Try.prog 11 #[.agg (recC x wv rv sv pv)] w fun e w' => ∃ u, e = .returned u ∧ OwnB w' w.heap.size u (recY x) ∧ Chg Non w w' := by
  have hk0 : Chg Non w (w.alloc (.cells (recC x wv rv sv pv) 30)) := (Chg.refl Non w).alloc _
  have hb0 := Blk.new w 30 (recC x wv rv sv pv)
  have hr0 := hr.lt.c0 hk0
  have HY := hide (recY_len x hs)
  have HF := hide (show recY x = joinB ([kiB 5] :: [numB x.id, nmB x.name]) from by rw [recY, hk, fldR, hk]; rfl)
  have hh : hasT 5 = false := by decide
  have hhas := fun (w' : World) => ref6HasTxn (k := 5) (w := w')
  simp only [hh] at hhas
  have HH := hide hhas
  clear hr hhas hh
  unfold recC at hk0 hb0 ⊢
  rw [hk] at hk0 hb0 ⊢
  go_enter Try.func11, Try.ntmps11
  go_upto_region 1 with fail
  rw [show (World.alloc w (.cells (recC x wv rv sv pv) 30)) = w.alloc (.cells #[.int .i64 5, .int .u64 (x.boot : Int), .int .u64 (x.sess : Int), .int .u64 (x.seq : Int), wv, rv, .bool x.commit, sv, pv, .int .u64 (x.id : Int), .string x.name] 30) from by rw [recC, hk]] at hr0
  generalize World.alloc _ _ = w0 at hb0 hk0 hr0 ⊢
  have hsz := hk0.size
  have HGL : w.heap.size < w0.heap.size := hb0.lt
  have hlast : Blk w0 w.heap.size 30 _ := hb0
  obtain ⟨c0, c1, c2, c3, c4, c5, c6, c7, c8, c9, c10⟩ := rblk hb0
  clear hb0 hk
  go_upto_region 2 with fail
  have k1 : Chg Non w0 ((w0.alloc (.cells #[.int .u8 5] 5)).alloc (.cells #[.slice (some ⟨w0.heap.size, 0, none⟩) 1 1] 28)) := ((Chg.refl Non w0).alloc _).alloc _
  have hO : OwnT ((w0.alloc (.cells #[.int .u8 5] 5)).alloc (.cells #[.slice (some ⟨w0.heap.size, 0, none⟩) 1 1] 28)) (w0.alloc (.cells #[.int .u8 5] 5)).heap.size (.slice (some ⟨(w0.alloc (.cells #[.int .u8 5] 5)).heap.size, 0, none⟩) 1 1) [[kiB 5]] :=
    OwnT.lit (us := [.slice (some ⟨w0.heap.size, 0, none⟩) 1 1]) (RdsB.cons (own_one w0 (kiB 5) _ (by decide)).rd (fun b hb => by simp [Value.ownBlock]) (RdsB.nil_ _ _)) 1 rfl (by simp [maxLen]) rfl
  have hO := hO.low (show w0.heap.size ≤ _ by simp)
  rw [show (w0.alloc (.cells #[.int .u8 5] 5)).heap.size = w0.heap.size + 1 from by simp] at hO
  have hlast0 := hlast
  have hr00 := hr0
  have hlast := hlast.c0 k1
  have hs1 := k1.size
  have hr0 := hr0.c0 k1
  clear c0 c1 c2 c3 c4 c5 c6 c7 c8 c9 c10
  generalize World.alloc _ _ = w1 at k1 hO hlast hs1 hr0 ⊢
  generalize Value.slice (some ⟨w0.heap.size + 1, 0, none⟩) 1 1 = p0 at hO ⊢
  obtain ⟨c0, c1, c2, c3, c4, c5, c6, c7, c8, c9, c10⟩ := rblk hlast
  clear hlast hr0
  have k6 := k1
  have hO6 : OwnT w1 w0.heap.size p0 [[kiB 5]] := hO
  go_upto_region 4 with (go_at_call 21; refine (HH.out _).mono ?_; rintro e w6 ⟨rfl, rfl⟩)
  clear hO c0 c1 c2 c3 c4 c5 c6 c7 c8 c9 c10 k1 hs1 HH
  have hs6 := k6.size
  have hr6 := hr00.c0 k6
  have hlast6 := hlast0.c0 k6
  obtain ⟨c0, c1, c2, c3, c4, c5, c6, c7, c8, c9, c10⟩ := rblk hlast6
  clear hlast0 hr00
  have hgl : w.heap.size < w0.heap.size := HGL
  have hna : ¬ (some w.heap.size = p0.ownBlock) := fun e => by have := (hO6.lt _ e.symm).1; omega
  have hdl : ([[kiB 5]] : List (List UInt8)).length + 2 ≤ 1000000000000 := by simp
  have hu4 := hr6.u4
  have hnm := hs.nm
  have hcv := run_conv x.name
  have HN := hide (fun (w' : World) => refNumber (w := w') hu4)
  have HB := hide (fun (w' : World) => bytesWorld_rd w' 5 x.name (by omega))
  clear hnm hu4
  go_upto_region 12 with fail
  have hOd := hO6.c0 ((Chg.refl Non w6).drew)
  have hrd := hr6.c0 ((Chg.refl Non w6).drew)
  have kd := k6.drew
  have hs6d : w0.heap.size ≤ w6.drew.heap.size := hs6
  have c9 : w6.drew.cell? ⟨w.heap.size, 9, none⟩ = some (.int .u64 (x.id : Int)) := c9
  have c10 : w6.drew.cell? ⟨w.heap.size, 10, none⟩ = some (.string x.name) := c10
  clear hr6 hlast6 c0 c1 c2 c3 c4 c5 c6 c7 c8 hs hrd
  have b9 := (bytesWorld_chg w6.drew 5 x.name).cell c9 (fun h => h)
  have b10 := (bytesWorld_chg w6.drew 5 x.name).cell c10 (fun h => h)
  go_region_law (first
    | (go_simp; go_at_call 30; refine (HN.out _).mono ?_; rintro e w7 ⟨u7, rfl, hu7, hc7⟩; obtain ⟨A7, n7, k7, rfl⟩ := hu7.sl; first | (have d7 := OwnT.dsj hOd hu7; have c9 := hc7.cell c9 (fun h => h); have c10 := hc7.cell c10 (fun h => h); have b9 := (bytesWorld_chg w7 5 x.name).cell c9 (fun h => h); have b10 := (bytesWorld_chg w7 5 x.name).cell c10 (fun h => h)) | (have d7 := OwnT.dsj (hOd.c0 (bytesWorld_chg _ _ _)) hu7; have c9 := hc7.cell b9 (fun h => h); have c10 := hc7.cell b10 (fun h => h)))
    | (refine step_T rfl _ _ rfl ((hOd.c0 (hc7.trans0 (bytesWorld_chg w7 5 x.name))).al _) rfl (RdsB.cons ((hu7.c0 (bytesWorld_chg w7 5 x.name)).al _).rd d7 (RdsB.cons ((HB.out w7).al _) (OwnT.newk hOd hc7) (RdsB.nil_ _ _))) (Blk.new _ _ _) rfl rfl rfl hdl (Nat.le_trans hs6d (Nat.le_trans hc7.size (Nat.le_trans (bytesWorld_chg w7 5 x.name).size (szAl _ _)))) ?_; intro v9 w9 hO9 hg9 hat9; have k9 := Chg.appT ((kd.trans0 (hc7.trans0 (bytesWorld_chg w7 5 x.name))).alloc _) hg9 ((hOd.c0 (hc7.trans0 (bytesWorld_chg w7 5 x.name))).al _) (Nat.le_refl _))
    | (refine step_T rfl _ _ rfl ((hOd.c0 ((bytesWorld_chg w6.drew 5 x.name).trans0 hc7)).al _) rfl (RdsB.cons (hu7.al _).rd d7 (RdsB.cons (((HB.out w6.drew).c0 hc7).al _) (OwnT.newk hOd (Chg.refl Non _)) (RdsB.nil_ _ _))) (Blk.new _ _ _) rfl rfl rfl hdl (Nat.le_trans hs6d (Nat.le_trans (bytesWorld_chg w6.drew 5 x.name).size (Nat.le_trans hc7.size (szAl _ _)))) ?_; intro v9 w9 hO9 hg9 hat9; have k9 := Chg.appT ((kd.trans0 ((bytesWorld_chg w6.drew 5 x.name).trans0 hc7)).alloc _) hg9 ((hOd.c0 ((bytesWorld_chg w6.drew 5 x.name).trans0 hc7)).al _) (Nat.le_refl _)))
  all_goals
    have HJ : Hid ((joinB ([kiB 5] :: [numB x.id, nmB x.name])).length + 18 ≤ 140737488355328) := hide (by have := HY.out; rw [HF.out] at this; omega)
    have hj := refJoin hO9.rd HJ.out
    go_wp2_with fail
    refine hj.mono ?_
    rintro e w12 ⟨u12, rfl, hu12, hc12⟩
    go_wp2_with fail
    go_ret
    rw [HF.out]
    exact ⟨_, rfl, hu12.low (Nat.le_trans hsz k9.size), (hk0.trans0 k9).trans0 hc12⟩

set_option maxHeartbeats 8000000 in
set_option maxRecDepth 100000 in
theorem ref6Bytes7 {x : RcS} {wv rv sv pv : Value} {F : Nat → Prop} {w : World} (hr : RecR w F x wv rv sv pv) (hs : RcSm x) (hk : x.kind = 7) :
    Calls Try.prog 11 #[.agg (recC x wv rv sv pv)] w fun e w' => ∃ u, e = .returned u ∧ OwnB w' w.heap.size u (recY x) ∧ Chg Non w w' := by
  have hk0 : Chg Non w (w.alloc (.cells (recC x wv rv sv pv) 30)) := (Chg.refl Non w).alloc _
  have hb0 := Blk.new w 30 (recC x wv rv sv pv)
  have hr0 := hr.lt.c0 hk0
  have HY := hide (recY_len x hs)
  have HF := hide (show recY x = joinB ([kiB 7] :: [numB x.id, nmB x.name]) from by rw [recY, hk, fldR, hk]; rfl)
  have hh : hasT 7 = false := by decide
  have hhas := fun (w' : World) => ref6HasTxn (k := 7) (w := w')
  simp only [hh] at hhas
  have HH := hide hhas
  clear hr hhas hh
  unfold recC at hk0 hb0 ⊢
  rw [hk] at hk0 hb0 ⊢
  go_enter Try.func11, Try.ntmps11
  go_upto_region 1 with fail
  rw [show (World.alloc w (.cells (recC x wv rv sv pv) 30)) = w.alloc (.cells #[.int .i64 7, .int .u64 (x.boot : Int), .int .u64 (x.sess : Int), .int .u64 (x.seq : Int), wv, rv, .bool x.commit, sv, pv, .int .u64 (x.id : Int), .string x.name] 30) from by rw [recC, hk]] at hr0
  generalize World.alloc _ _ = w0 at hb0 hk0 hr0 ⊢
  have hsz := hk0.size
  have HGL : w.heap.size < w0.heap.size := hb0.lt
  have hlast : Blk w0 w.heap.size 30 _ := hb0
  obtain ⟨c0, c1, c2, c3, c4, c5, c6, c7, c8, c9, c10⟩ := rblk hb0
  clear hb0 hk
  go_upto_region 2 with fail
  have k1 : Chg Non w0 ((w0.alloc (.cells #[.int .u8 7] 5)).alloc (.cells #[.slice (some ⟨w0.heap.size, 0, none⟩) 1 1] 28)) := ((Chg.refl Non w0).alloc _).alloc _
  have hO : OwnT ((w0.alloc (.cells #[.int .u8 7] 5)).alloc (.cells #[.slice (some ⟨w0.heap.size, 0, none⟩) 1 1] 28)) (w0.alloc (.cells #[.int .u8 7] 5)).heap.size (.slice (some ⟨(w0.alloc (.cells #[.int .u8 7] 5)).heap.size, 0, none⟩) 1 1) [[kiB 7]] :=
    OwnT.lit (us := [.slice (some ⟨w0.heap.size, 0, none⟩) 1 1]) (RdsB.cons (own_one w0 (kiB 7) _ (by decide)).rd (fun b hb => by simp [Value.ownBlock]) (RdsB.nil_ _ _)) 1 rfl (by simp [maxLen]) rfl
  have hO := hO.low (show w0.heap.size ≤ _ by simp)
  rw [show (w0.alloc (.cells #[.int .u8 7] 5)).heap.size = w0.heap.size + 1 from by simp] at hO
  have hlast0 := hlast
  have hr00 := hr0
  have hlast := hlast.c0 k1
  have hs1 := k1.size
  have hr0 := hr0.c0 k1
  clear c0 c1 c2 c3 c4 c5 c6 c7 c8 c9 c10
  generalize World.alloc _ _ = w1 at k1 hO hlast hs1 hr0 ⊢
  generalize Value.slice (some ⟨w0.heap.size + 1, 0, none⟩) 1 1 = p0 at hO ⊢
  obtain ⟨c0, c1, c2, c3, c4, c5, c6, c7, c8, c9, c10⟩ := rblk hlast
  clear hlast hr0
  have k6 := k1
  have hO6 : OwnT w1 w0.heap.size p0 [[kiB 7]] := hO
  go_upto_region 4 with (go_at_call 21; refine (HH.out _).mono ?_; rintro e w6 ⟨rfl, rfl⟩)
  clear hO c0 c1 c2 c3 c4 c5 c6 c7 c8 c9 c10 k1 hs1 HH
  have hs6 := k6.size
  have hr6 := hr00.c0 k6
  have hlast6 := hlast0.c0 k6
  obtain ⟨c0, c1, c2, c3, c4, c5, c6, c7, c8, c9, c10⟩ := rblk hlast6
  clear hlast0 hr00
  have hgl : w.heap.size < w0.heap.size := HGL
  have hna : ¬ (some w.heap.size = p0.ownBlock) := fun e => by have := (hO6.lt _ e.symm).1; omega
  have hdl : ([[kiB 7]] : List (List UInt8)).length + 2 ≤ 1000000000000 := by simp
  have hu4 := hr6.u4
  have hnm := hs.nm
  have hcv := run_conv x.name
  have HN := hide (fun (w' : World) => refNumber (w := w') hu4)
  have HB := hide (fun (w' : World) => bytesWorld_rd w' 5 x.name (by omega))
  clear hnm hu4
  go_upto_region 12 with fail
  have hOd := hO6.c0 ((Chg.refl Non w6).drew)
  have hrd := hr6.c0 ((Chg.refl Non w6).drew)
  have kd := k6.drew
  have hs6d : w0.heap.size ≤ w6.drew.heap.size := hs6
  have c9 : w6.drew.cell? ⟨w.heap.size, 9, none⟩ = some (.int .u64 (x.id : Int)) := c9
  have c10 : w6.drew.cell? ⟨w.heap.size, 10, none⟩ = some (.string x.name) := c10
  clear hr6 hlast6 c0 c1 c2 c3 c4 c5 c6 c7 c8 hs hrd
  have b9 := (bytesWorld_chg w6.drew 5 x.name).cell c9 (fun h => h)
  have b10 := (bytesWorld_chg w6.drew 5 x.name).cell c10 (fun h => h)
  go_region_law (first
    | (go_simp; go_at_call 30; refine (HN.out _).mono ?_; rintro e w7 ⟨u7, rfl, hu7, hc7⟩; obtain ⟨A7, n7, k7, rfl⟩ := hu7.sl; first | (have d7 := OwnT.dsj hOd hu7; have c9 := hc7.cell c9 (fun h => h); have c10 := hc7.cell c10 (fun h => h); have b9 := (bytesWorld_chg w7 5 x.name).cell c9 (fun h => h); have b10 := (bytesWorld_chg w7 5 x.name).cell c10 (fun h => h)) | (have d7 := OwnT.dsj (hOd.c0 (bytesWorld_chg _ _ _)) hu7; have c9 := hc7.cell b9 (fun h => h); have c10 := hc7.cell b10 (fun h => h)))
    | (refine step_T rfl _ _ rfl ((hOd.c0 (hc7.trans0 (bytesWorld_chg w7 5 x.name))).al _) rfl (RdsB.cons ((hu7.c0 (bytesWorld_chg w7 5 x.name)).al _).rd d7 (RdsB.cons ((HB.out w7).al _) (OwnT.newk hOd hc7) (RdsB.nil_ _ _))) (Blk.new _ _ _) rfl rfl rfl hdl (Nat.le_trans hs6d (Nat.le_trans hc7.size (Nat.le_trans (bytesWorld_chg w7 5 x.name).size (szAl _ _)))) ?_; intro v9 w9 hO9 hg9 hat9; have k9 := Chg.appT ((kd.trans0 (hc7.trans0 (bytesWorld_chg w7 5 x.name))).alloc _) hg9 ((hOd.c0 (hc7.trans0 (bytesWorld_chg w7 5 x.name))).al _) (Nat.le_refl _))
    | (refine step_T rfl _ _ rfl ((hOd.c0 ((bytesWorld_chg w6.drew 5 x.name).trans0 hc7)).al _) rfl (RdsB.cons (hu7.al _).rd d7 (RdsB.cons (((HB.out w6.drew).c0 hc7).al _) (OwnT.newk hOd (Chg.refl Non _)) (RdsB.nil_ _ _))) (Blk.new _ _ _) rfl rfl rfl hdl (Nat.le_trans hs6d (Nat.le_trans (bytesWorld_chg w6.drew 5 x.name).size (Nat.le_trans hc7.size (szAl _ _)))) ?_; intro v9 w9 hO9 hg9 hat9; have k9 := Chg.appT ((kd.trans0 ((bytesWorld_chg w6.drew 5 x.name).trans0 hc7)).alloc _) hg9 ((hOd.c0 ((bytesWorld_chg w6.drew 5 x.name).trans0 hc7)).al _) (Nat.le_refl _)))
  all_goals
    have HJ : Hid ((joinB ([kiB 7] :: [numB x.id, nmB x.name])).length + 18 ≤ 140737488355328) := hide (by have := HY.out; rw [HF.out] at this; omega)
    have hj := refJoin hO9.rd HJ.out
    go_wp2_with fail
    refine hj.mono ?_
    rintro e w12 ⟨u12, rfl, hu12, hc12⟩
    go_wp2_with fail
    go_ret
    rw [HF.out]
    exact ⟨_, rfl, hu12.low (Nat.le_trans hsz k9.size), (hk0.trans0 k9).trans0 hc12⟩

set_option maxHeartbeats 8000000 in
set_option maxRecDepth 100000 in
theorem ref6Bytes8 {x : RcS} {wv rv sv pv : Value} {F : Nat → Prop} {w : World} (hr : RecR w F x wv rv sv pv) (hs : RcSm x) (hk : x.kind = 8) :
    Calls Try.prog 11 #[.agg (recC x wv rv sv pv)] w fun e w' => ∃ u, e = .returned u ∧ OwnB w' w.heap.size u (recY x) ∧ Chg Non w w' := by
  have hk0 : Chg Non w (w.alloc (.cells (recC x wv rv sv pv) 30)) := (Chg.refl Non w).alloc _
  have hb0 := Blk.new w 30 (recC x wv rv sv pv)
  have hr0 := hr.lt.c0 hk0
  have HY := hide (recY_len x hs)
  have HF := hide (show recY x = joinB ([kiB 8] :: [numB x.id, nmB x.name]) from by rw [recY, hk, fldR, hk]; rfl)
  have hh : hasT 8 = false := by decide
  have hhas := fun (w' : World) => ref6HasTxn (k := 8) (w := w')
  simp only [hh] at hhas
  have HH := hide hhas
  clear hr hhas hh
  unfold recC at hk0 hb0 ⊢
  rw [hk] at hk0 hb0 ⊢
  go_enter Try.func11, Try.ntmps11
  go_upto_region 1 with fail
  rw [show (World.alloc w (.cells (recC x wv rv sv pv) 30)) = w.alloc (.cells #[.int .i64 8, .int .u64 (x.boot : Int), .int .u64 (x.sess : Int), .int .u64 (x.seq : Int), wv, rv, .bool x.commit, sv, pv, .int .u64 (x.id : Int), .string x.name] 30) from by rw [recC, hk]] at hr0
  generalize World.alloc _ _ = w0 at hb0 hk0 hr0 ⊢
  have hsz := hk0.size
  have HGL : w.heap.size < w0.heap.size := hb0.lt
  have hlast : Blk w0 w.heap.size 30 _ := hb0
  obtain ⟨c0, c1, c2, c3, c4, c5, c6, c7, c8, c9, c10⟩ := rblk hb0
  clear hb0 hk
  go_upto_region 2 with fail
  have k1 : Chg Non w0 ((w0.alloc (.cells #[.int .u8 8] 5)).alloc (.cells #[.slice (some ⟨w0.heap.size, 0, none⟩) 1 1] 28)) := ((Chg.refl Non w0).alloc _).alloc _
  have hO : OwnT ((w0.alloc (.cells #[.int .u8 8] 5)).alloc (.cells #[.slice (some ⟨w0.heap.size, 0, none⟩) 1 1] 28)) (w0.alloc (.cells #[.int .u8 8] 5)).heap.size (.slice (some ⟨(w0.alloc (.cells #[.int .u8 8] 5)).heap.size, 0, none⟩) 1 1) [[kiB 8]] :=
    OwnT.lit (us := [.slice (some ⟨w0.heap.size, 0, none⟩) 1 1]) (RdsB.cons (own_one w0 (kiB 8) _ (by decide)).rd (fun b hb => by simp [Value.ownBlock]) (RdsB.nil_ _ _)) 1 rfl (by simp [maxLen]) rfl
  have hO := hO.low (show w0.heap.size ≤ _ by simp)
  rw [show (w0.alloc (.cells #[.int .u8 8] 5)).heap.size = w0.heap.size + 1 from by simp] at hO
  have hlast0 := hlast
  have hr00 := hr0
  have hlast := hlast.c0 k1
  have hs1 := k1.size
  have hr0 := hr0.c0 k1
  clear c0 c1 c2 c3 c4 c5 c6 c7 c8 c9 c10
  generalize World.alloc _ _ = w1 at k1 hO hlast hs1 hr0 ⊢
  generalize Value.slice (some ⟨w0.heap.size + 1, 0, none⟩) 1 1 = p0 at hO ⊢
  obtain ⟨c0, c1, c2, c3, c4, c5, c6, c7, c8, c9, c10⟩ := rblk hlast
  clear hlast hr0
  have k6 := k1
  have hO6 : OwnT w1 w0.heap.size p0 [[kiB 8]] := hO
  go_upto_region 4 with (go_at_call 21; refine (HH.out _).mono ?_; rintro e w6 ⟨rfl, rfl⟩)
  clear hO c0 c1 c2 c3 c4 c5 c6 c7 c8 c9 c10 k1 hs1 HH
  have hs6 := k6.size
  have hr6 := hr00.c0 k6
  have hlast6 := hlast0.c0 k6
  obtain ⟨c0, c1, c2, c3, c4, c5, c6, c7, c8, c9, c10⟩ := rblk hlast6
  clear hlast0 hr00
  have hgl : w.heap.size < w0.heap.size := HGL
  have hna : ¬ (some w.heap.size = p0.ownBlock) := fun e => by have := (hO6.lt _ e.symm).1; omega
  have hdl : ([[kiB 8]] : List (List UInt8)).length + 2 ≤ 1000000000000 := by simp
  have hu4 := hr6.u4
  have hnm := hs.nm
  have hcv := run_conv x.name
  have HN := hide (fun (w' : World) => refNumber (w := w') hu4)
  have HB := hide (fun (w' : World) => bytesWorld_rd w' 5 x.name (by omega))
  clear hnm hu4
  go_upto_region 12 with fail
  have hOd := hO6.c0 ((Chg.refl Non w6).drew)
  have hrd := hr6.c0 ((Chg.refl Non w6).drew)
  have kd := k6.drew
  have hs6d : w0.heap.size ≤ w6.drew.heap.size := hs6
  have c9 : w6.drew.cell? ⟨w.heap.size, 9, none⟩ = some (.int .u64 (x.id : Int)) := c9
  have c10 : w6.drew.cell? ⟨w.heap.size, 10, none⟩ = some (.string x.name) := c10
  clear hr6 hlast6 c0 c1 c2 c3 c4 c5 c6 c7 c8 hs hrd
  have b9 := (bytesWorld_chg w6.drew 5 x.name).cell c9 (fun h => h)
  have b10 := (bytesWorld_chg w6.drew 5 x.name).cell c10 (fun h => h)
  go_region_law (first
    | (go_simp; go_at_call 30; refine (HN.out _).mono ?_; rintro e w7 ⟨u7, rfl, hu7, hc7⟩; obtain ⟨A7, n7, k7, rfl⟩ := hu7.sl; first | (have d7 := OwnT.dsj hOd hu7; have c9 := hc7.cell c9 (fun h => h); have c10 := hc7.cell c10 (fun h => h); have b9 := (bytesWorld_chg w7 5 x.name).cell c9 (fun h => h); have b10 := (bytesWorld_chg w7 5 x.name).cell c10 (fun h => h)) | (have d7 := OwnT.dsj (hOd.c0 (bytesWorld_chg _ _ _)) hu7; have c9 := hc7.cell b9 (fun h => h); have c10 := hc7.cell b10 (fun h => h)))
    | (refine step_T rfl _ _ rfl ((hOd.c0 (hc7.trans0 (bytesWorld_chg w7 5 x.name))).al _) rfl (RdsB.cons ((hu7.c0 (bytesWorld_chg w7 5 x.name)).al _).rd d7 (RdsB.cons ((HB.out w7).al _) (OwnT.newk hOd hc7) (RdsB.nil_ _ _))) (Blk.new _ _ _) rfl rfl rfl hdl (Nat.le_trans hs6d (Nat.le_trans hc7.size (Nat.le_trans (bytesWorld_chg w7 5 x.name).size (szAl _ _)))) ?_; intro v9 w9 hO9 hg9 hat9; have k9 := Chg.appT ((kd.trans0 (hc7.trans0 (bytesWorld_chg w7 5 x.name))).alloc _) hg9 ((hOd.c0 (hc7.trans0 (bytesWorld_chg w7 5 x.name))).al _) (Nat.le_refl _))
    | (refine step_T rfl _ _ rfl ((hOd.c0 ((bytesWorld_chg w6.drew 5 x.name).trans0 hc7)).al _) rfl (RdsB.cons (hu7.al _).rd d7 (RdsB.cons (((HB.out w6.drew).c0 hc7).al _) (OwnT.newk hOd (Chg.refl Non _)) (RdsB.nil_ _ _))) (Blk.new _ _ _) rfl rfl rfl hdl (Nat.le_trans hs6d (Nat.le_trans (bytesWorld_chg w6.drew 5 x.name).size (Nat.le_trans hc7.size (szAl _ _)))) ?_; intro v9 w9 hO9 hg9 hat9; have k9 := Chg.appT ((kd.trans0 ((bytesWorld_chg w6.drew 5 x.name).trans0 hc7)).alloc _) hg9 ((hOd.c0 ((bytesWorld_chg w6.drew 5 x.name).trans0 hc7)).al _) (Nat.le_refl _)))
  all_goals
    have HJ : Hid ((joinB ([kiB 8] :: [numB x.id, nmB x.name])).length + 18 ≤ 140737488355328) := hide (by have := HY.out; rw [HF.out] at this; omega)
    have hj := refJoin hO9.rd HJ.out
    go_wp2_with fail
    refine hj.mono ?_
    rintro e w12 ⟨u12, rfl, hu12, hc12⟩
    go_wp2_with fail
    go_ret
    rw [HF.out]
    exact ⟨_, rfl, hu12.low (Nat.le_trans hsz k9.size), (hk0.trans0 k9).trans0 hc12⟩

set_option maxHeartbeats 8000000 in
set_option maxRecDepth 100000 in
theorem ref6Bytes6 {x : RcS} {wv rv sv pv : Value} {F : Nat → Prop} {w : World} (hr : RecR w F x wv rv sv pv) (hs : RcSm x) (hk : x.kind = 6) :
    Calls Try.prog 11 #[.agg (recC x wv rv sv pv)] w fun e w' => ∃ u, e = .returned u ∧ OwnB w' w.heap.size u (recY x) ∧ Chg Non w w' := by
  have hk0 : Chg Non w (w.alloc (.cells (recC x wv rv sv pv) 30)) := (Chg.refl Non w).alloc _
  have hb0 := Blk.new w 30 (recC x wv rv sv pv)
  have hr0 := hr.lt.c0 hk0
  have HY := hide (recY_len x hs)
  have HF := hide (show recY x = joinB ([kiB 6] :: [txB x, flB x.commit, shB x.shards, x.reply]) from by rw [recY, hk, fldR, hk]; rfl)
  obtain ⟨P, np, cp, rfl⟩ := hr.rep.sl
  have hh : hasT 6 = true := by decide
  have hhas := fun (w' : World) => ref6HasTxn (k := 6) (w := w')
  simp only [hh] at hhas
  have HH := hide hhas
  clear hr hhas hh
  unfold recC at hk0 hb0 ⊢
  rw [hk] at hk0 hb0 ⊢
  go_enter Try.func11, Try.ntmps11
  go_upto_region 1 with fail
  rw [show (World.alloc w (.cells (recC x wv rv sv (.slice P np cp)) 30)) = w.alloc (.cells #[.int .i64 6, .int .u64 (x.boot : Int), .int .u64 (x.sess : Int), .int .u64 (x.seq : Int), wv, rv, .bool x.commit, sv, (.slice P np cp), .int .u64 (x.id : Int), .string x.name] 30) from by rw [recC, hk]] at hr0
  generalize World.alloc _ _ = w0 at hb0 hk0 hr0 ⊢
  have hsz := hk0.size
  have HGL : w.heap.size < w0.heap.size := hb0.lt
  have hlast : Blk w0 w.heap.size 30 _ := hb0
  obtain ⟨c0, c1, c2, c3, c4, c5, c6, c7, c8, c9, c10⟩ := rblk hb0
  clear hb0 hk
  go_upto_region 2 with fail
  have k1 : Chg Non w0 ((w0.alloc (.cells #[.int .u8 6] 5)).alloc (.cells #[.slice (some ⟨w0.heap.size, 0, none⟩) 1 1] 28)) := ((Chg.refl Non w0).alloc _).alloc _
  have hO : OwnT ((w0.alloc (.cells #[.int .u8 6] 5)).alloc (.cells #[.slice (some ⟨w0.heap.size, 0, none⟩) 1 1] 28)) (w0.alloc (.cells #[.int .u8 6] 5)).heap.size (.slice (some ⟨(w0.alloc (.cells #[.int .u8 6] 5)).heap.size, 0, none⟩) 1 1) [[kiB 6]] :=
    OwnT.lit (us := [.slice (some ⟨w0.heap.size, 0, none⟩) 1 1]) (RdsB.cons (own_one w0 (kiB 6) _ (by decide)).rd (fun b hb => by simp [Value.ownBlock]) (RdsB.nil_ _ _)) 1 rfl (by simp [maxLen]) rfl
  have hO := hO.low (show w0.heap.size ≤ _ by simp)
  rw [show (w0.alloc (.cells #[.int .u8 6] 5)).heap.size = w0.heap.size + 1 from by simp] at hO
  have hlast0 := hlast
  have hr00 := hr0
  have hlast := hlast.c0 k1
  have hs1 := k1.size
  have hr0 := hr0.c0 k1
  clear c0 c1 c2 c3 c4 c5 c6 c7 c8 c9 c10
  generalize World.alloc _ _ = w1 at k1 hO hlast hs1 hr0 ⊢
  generalize Value.slice (some ⟨w0.heap.size + 1, 0, none⟩) 1 1 = p0 at hO ⊢
  obtain ⟨c0, c1, c2, c3, c4, c5, c6, c7, c8, c9, c10⟩ := rblk hlast
  have hdl : ([[kiB 6]] : List (List UInt8)).length + 1 ≤ 1000000000000 := by simp
  have htx := fun (w' : World) => ref6Txn (w := w') hr0.u1 hr0.u2 hr0.u3
  have HT := hide htx
  clear htx
  go_upto_region 3 with (go_at_call 21; refine (HH.out _).mono ?_; rintro e w2 ⟨rfl, rfl⟩)
  go_upto_region 4 with (first
    | (go_at_call 27; refine (HT.out _).mono ?_; rintro e w5 ⟨u5, rfl, hu5, hc5⟩; have d5 := OwnT.dsj hO hu5; obtain ⟨A5, n5, k5, rfl⟩ := hu5.sl; have hs5 := hc5.size)
    | (at_builtin; refine append_T rfl _ _ rfl ((hO.c0 hc5).al _) rfl (RdsB.cons (hu5.al _).rd d5 (RdsB.nil_ _ _)) (Blk.new _ _ _) rfl rfl rfl hdl (Nat.le_trans hs1 (Nat.le_trans hs5 (szAl _ _))) ?_; intro v6 w6 hO6 hg6 hat6))
  have k6 := Chg.appT ((k1.trans0 hc5).alloc _) hg6 ((hO.c0 hc5).al _) (Nat.le_refl _)
  have hO6 : OwnT w6 w0.heap.size v6 [[kiB 6], txB x] := hO6
  clear hO hu5 hg6 hat6 d5 hc5 hs5 c0 c1 c2 c3 c4 c5 c6 c7 c8 c9 c10 hlast hr0 k1 hs1 hdl HT HH
  have hs6 := k6.size
  have hr6 := hr00.c0 k6
  have hlast6 := hlast0.c0 k6
  obtain ⟨c0, c1, c2, c3, c4, c5, c6, c7, c8, c9, c10⟩ := rblk hlast6
  clear hlast0 hr00
  have hgl : w.heap.size < w0.heap.size := HGL
  have hn := hs.sh
  have hrw := hr6.sh
  obtain ⟨l, hl0⟩ : ∃ l, l = x.shards := ⟨_, rfl⟩
  rw [← hl0] at hn hrw
  have HE := hide hl0
  obtain ⟨A, c, rfl, hc, hm⟩ := hrw.shape
  unfold maxLen at hm
  have hlast7 := hlast6
  clear hl0 c0 c1 c2 c3 c4 c5 c6 c7 c8 c9 c10
  obtain ⟨c0, c1, c2, c3, c4, c5, c6, c7, c8, c9, c10⟩ := rblk hlast6
  clear hlast6
  go_upto_region 15 with fail
  clear c0 c1 c2 c3 c4 c5 c6 c7 c8 c9 c10
  go_wp2_with fail
  go_loopw [4, 5] (fun ov iv wr => ∃ (k : Nat), k ≤ l.length ∧ iv = .int .i64 k ∧ OwnB wr w6.heap.size ov (shB (l.take k)) ∧ Chg Non w6 wr) (fun _ iv _ => l.length - (intOf iv).toNat)
  case atStart => exact ⟨0, Nat.zero_le _, rfl, OwnB.nil_ _ _, Chg.refl _ _⟩
  case round =>
    obtain ⟨k, hk, rfl, hO, hcw⟩ := hrel
    have hb := hlast7.c0 hcw
    have c7 := hb.cell 7
    simp at c7
    by_cases h1 : k < l.length
    · obtain ⟨ad, rfl, had, e1⟩ := (RdI.c0 hrw hcw).at_ h1
      have HT := hide (show shB (l.take (k + 1)) = shB (l.take k) ++ numB (u64z l[k]) from by rw [List.take_succ_eq_append_getElem h1]; simp only [shB, List.flatMap_append, List.flatMap_singleton])
      have hnn := shB_len (l.take k)
      rw [List.length_take, Nat.min_eq_left hk] at hnn
      obtain ⟨n, hn0⟩ : ∃ n, n = l[k] := ⟨_, rfl⟩
      rw [← hn0] at HT e1
      have hw : IntKind.u64.wrap n = ((u64z n : Nat) : Int) := by rw [IntKind.wrap_u64]; unfold u64z; omega
      have hu : U64 (u64z n) := u64z_lt n
      obtain ⟨m, hm0⟩ : ∃ m, m = u64z n := ⟨_, rfl⟩
      rw [← hm0] at HT hw hu
      have hn9 := numB_length m
      have hcall := refNumber (w := wr) hu
      have HC := hide hcall
      have hlen : (shB (l.take k)).length + (numB m).length ≤ 140737488355328 := by omega
      have hs7 := hcw.size
      clear hcall hu hn0 hm0 hnn hn9 hb
      go_wp2_with (first
        | (go_at_call 30; refine HC.out.mono ?_; rintro e w2 ⟨u2, rfl, hu2, hc2⟩; have hs3 := hc2.size)
        | (at_builtin; refine append_B rfl _ _ rfl (hO.c0 hc2) rfl hu2.rd rfl hlen (Nat.le_trans hs7 hs3) ?_; intro v3 w3 hO3 hg3 hat3))
      go_roundw
      case rel =>
        refine ⟨k + 1, by omega, by go_num, ?_, Chg.app (hcw.trans0 hc2) hg3 (hO.c0 hc2) (Nat.le_refl _)⟩
        rw [HT.out]; exact hO3
      case measure => simp [intOf]; omega
    · have HK := hide (show l.take k = l from List.take_of_length_le (by omega))
      rw [HK.out, HE.out] at hO
      have hrep := (hr6.c0 hcw).rep
      have hO7 := hO6.c0 hcw
      have k7 := k6.trans0 hcw
      have hs7 : w0.heap.size ≤ wr.drew.heap.size := k7.size
      have hna : ¬ (some w.heap.size = v6.ownBlock) := fun e => by have := (hO6.lt _ e.symm).1; omega
      have hdl : ([[kiB 6], txB x] : List (List UInt8)).length + 3 ≤ 1000000000000 := by simp
      have hnp : ∀ b, (F b ∧ b < w.heap.size) → v6.ownBlock ≠ some b := fun b hb e => by have := (hO6.lt _ e).1; omega
      obtain ⟨A4, n4, k4, rfl⟩ := hO.sl
      have d4 : ∀ b, (Value.slice A4 n4 k4).ownBlock = some b → v6.ownBlock ≠ some b := fun b hb e => by have := (hO6.lt _ e).2; have := (hO.lt _ hb).1; omega
      go_upto_region 19 with fail
      have hOd := hO7.c0 ((Chg.refl Non wr).drew)
      have hrp := hrep.c0 ((Chg.refl Non wr).drew)
      have h4d := hO.c0 ((Chg.refl Non wr).drew)
      have kd := k7.drew
      have c6 : wr.drew.cell? ⟨w.heap.size, 6, none⟩ = some (.bool x.commit) := hb.cell 6
      have c8 : wr.drew.cell? ⟨w.heap.size, 8, none⟩ = some (.slice P np cp) := hb.cell 8
      clear hO6 hO7 hO hr6 hb hlast7 c7 hs hrep hrw
      go_region_held3 (fun w' => w'.cell? ⟨w.heap.size, 6, none⟩ = some (.bool x.commit) ∧ w'.cell? ⟨w.heap.size, 8, none⟩ = some (.slice P np cp)) (first | exact ⟨c6, c8⟩ | exact ⟨cell_al c6, cell_al c8⟩) (first
        | (go_at_call 31; refine ref6Flag.mono ?_; rintro e w7 ⟨u7, rfl, hu7, hc7⟩; have d7 := OwnT.dsj hOd hu7; obtain ⟨A7, n7, k7', rfl⟩ := hu7.sl; have c6 := hc7.cell c6 (fun h => h); have c8 := hc7.cell c8 (fun h => h))
        | (refine step_T rfl _ _ rfl ((hOd.c0 hc7).al _) rfl (RdsB.cons (hu7.al _).rd d7 (RdsB.cons ((h4d.c0 hc7).al _).rd d4 (RdsB.cons ((hrp.c0 hc7).al _) hnp (RdsB.nil_ _ _)))) (Blk.new _ _ _) rfl rfl rfl hdl (Nat.le_trans hs7 (Nat.le_trans hc7.size (szAl _ _))) ?_; intro v9 w9 hO9 hg9 hat9; have c6 := (Chg.of_grown hg9).cell (cell_al c6) hna; have c8 := (Chg.of_grown hg9).cell (cell_al c8) hna; have k9 := Chg.appT ((kd.trans0 hc7).alloc _) hg9 ((hOd.c0 hc7).al _) (Nat.le_refl _)))
      have HJ : Hid ((joinB ([kiB 6] :: [txB x, flB x.commit, shB x.shards, x.reply])).length + 18 ≤ 140737488355328) := hide (by have := HY.out; rw [HF.out] at this; omega)
      have hj := refJoin hO9.rd HJ.out
      go_wp2_with fail
      refine hj.mono ?_
      rintro e w12 ⟨u12, rfl, hu12, hc12⟩
      go_wp2_with fail
      go_ret
      rw [HF.out]
      exact ⟨_, rfl, hu12.low (Nat.le_trans hsz k9.size), (hk0.trans0 k9).trans0 hc12⟩
end Go.Proofs.Ytpbgjldjipgfeaa

namespace Go.Proofs.Ytpbgjldjipgfeaa
open Go.RowKit
set_option linter.unusedVariables false

theorem hasT_not {k : Int} (h : ¬ (1 ≤ k ∧ k ≤ 9)) : hasT k = false := by
  unfold hasT
  have h6 : (k == 6) = false := beq_eq_false_iff_ne.2 (by omega)
  have h9 : (k == 9) = false := beq_eq_false_iff_ne.2 (by omega)
  rw [h6, h9]
  by_cases h1 : 1 ≤ k
  · rw [decide_eq_false (by omega : ¬ k ≤ 4)]; simp
  · rw [decide_eq_false h1]; simp
theorem fldR_not {x : RcS} (h : ¬ (1 ≤ x.kind ∧ x.kind ≤ 9)) : fldR x = [] := by
  rw [fldR, if_neg (by omega), if_neg (by omega), if_neg (by omega), if_neg (by omega), if_neg (by omega)]

set_option maxHeartbeats 8000000 in
set_option maxRecDepth 100000 in
theorem ref6BytesO {x : RcS} {wv rv sv pv : Value} {F : Nat → Prop} {w : World} (hr : RecR w F x wv rv sv pv) (hk : ¬ (1 ≤ x.kind ∧ x.kind ≤ 9)) :
    Calls Try.prog 11 #[.agg (recC x wv rv sv pv)] w fun e w' => ∃ u, e = .returned u ∧ OwnB w' w.heap.size u (recY x) ∧ Chg Non w w' := by
  have hk0 : Chg Non w (w.alloc (.cells (recC x wv rv sv pv) 30)) := (Chg.refl Non w).alloc _
  have hb0 := Blk.new w 30 (recC x wv rv sv pv)
  have HF := hide (show recY x = joinB [[kiB x.kind]] from by rw [recY, fldR_not hk])
  have hhas := fun (w' : World) => ref6HasTxn (k := x.kind) (w := w')
  simp only [hasT_not hk] at hhas
  have HH := hide hhas
  have hki := kiB_int x.kind
  have hj1 := joinB_len [[kiB x.kind]]
  have q1 : (x.kind == 1) = false := beq_eq_false_iff_ne.2 (by omega)
  have q4 : (x.kind == 4) = false := beq_eq_false_iff_ne.2 (by omega)
  have q5 : (x.kind == 5) = false := beq_eq_false_iff_ne.2 (by omega)
  have q7 : (x.kind == 7) = false := beq_eq_false_iff_ne.2 (by omega)
  have q8 : (x.kind == 8) = false := beq_eq_false_iff_ne.2 (by omega)
  have q6 : (x.kind == 6) = false := beq_eq_false_iff_ne.2 (by omega)
  clear hr hhas hk
  unfold recC at hk0 hb0 ⊢
  go_enter Try.func11, Try.ntmps11
  go_upto_region 1 with fail
  generalize World.alloc _ _ = w0 at hb0 hk0 ⊢
  have hsz := hk0.size
  obtain ⟨c0, c1, c2, c3, c4, c5, c6, c7, c8, c9, c10⟩ := rblk hb0
  have hlast := hb0
  clear hb0
  go_upto_region 2 with fail
  have k1 : Chg Non w0 ((w0.alloc (.cells #[.int .u8 ((kiB x.kind).toNat : Int)] 5)).alloc (.cells #[.slice (some ⟨w0.heap.size, 0, none⟩) 1 1] 28)) := ((Chg.refl Non w0).alloc _).alloc _
  have hO : OwnT ((w0.alloc (.cells #[.int .u8 ((kiB x.kind).toNat : Int)] 5)).alloc (.cells #[.slice (some ⟨w0.heap.size, 0, none⟩) 1 1] 28)) (w0.alloc (.cells #[.int .u8 ((kiB x.kind).toNat : Int)] 5)).heap.size (.slice (some ⟨(w0.alloc (.cells #[.int .u8 ((kiB x.kind).toNat : Int)] 5)).heap.size, 0, none⟩) 1 1) [[kiB x.kind]] :=
    OwnT.lit (us := [.slice (some ⟨w0.heap.size, 0, none⟩) 1 1]) (RdsB.cons (own_one w0 (kiB x.kind) _ rfl).rd (fun b hb => by simp [Value.ownBlock]) (RdsB.nil_ _ _)) 1 rfl (by simp [maxLen]) rfl
  rw [show (w0.alloc (.cells #[.int .u8 ((kiB x.kind).toNat : Int)] 5)).heap.size = w0.heap.size + 1 from by simp] at hO
  have hlast := hlast.c0 k1
  clear c0 c1 c2 c3 c4 c5 c6 c7 c8 c9 c10 hki
  generalize World.alloc _ _ = w1 at k1 hO hlast ⊢
  generalize Value.slice (some ⟨w0.heap.size + 1, 0, none⟩) 1 1 = p0 at hO ⊢
  obtain ⟨c0, c1, c2, c3, c4, c5, c6, c7, c8, c9, c10⟩ := rblk hlast
  have HJ : Hid ((joinB [[kiB x.kind]]).length + 18 ≤ 140737488355328) := hide (by simp at hj1 ⊢; omega)
  clear hj1
  go_wp2_with fail
  refine (HH.out _).mono ?_
  rintro e w2 ⟨rfl, rfl⟩
  have hj := refJoin hO.rd HJ.out
  go_wp2_with fail
  refine hj.mono ?_
  rintro e w12 ⟨u12, rfl, hu12, hc12⟩
  go_wp2_with fail
  go_ret
  rw [HF.out]
  exact ⟨_, rfl, hu12.low (Nat.le_trans hsz k1.size), (hk0.trans0 k1).trans0 hc12⟩
theorem ref6Bytes {x : RcS} {wv rv sv pv : Value} {F : Nat → Prop} {w : World} (hr : RecR w F x wv rv sv pv) (hs : RcSm x) :
    Calls Try.prog 11 #[.agg (recC x wv rv sv pv)] w fun e w' => ∃ u, e = .returned u ∧ OwnB w' w.heap.size u (recY x) ∧ Chg Non w w' := by
  by_cases h : 1 ≤ x.kind ∧ x.kind ≤ 9
  · rcases (show x.kind = 1 ∨ x.kind = 2 ∨ x.kind = 3 ∨ x.kind = 4 ∨ x.kind = 5 ∨ x.kind = 6 ∨ x.kind = 7 ∨ x.kind = 8 ∨ x.kind = 9 by omega) with h | h | h | h | h | h | h | h | h
    · exact ref6Bytes1 hr hs h
    · exact ref6Bytes2 hr hs h
    · exact ref6Bytes3 hr hs h
    · exact ref6Bytes4 hr hs h
    · exact ref6Bytes5 hr hs h
    · exact ref6Bytes6 hr hs h
    · exact ref6Bytes7 hr hs h
    · exact ref6Bytes8 hr hs h
    · exact ref6Bytes9 hr hs h
  · exact ref6BytesO hr h
end Go.Proofs.Ytpbgjldjipgfeaa
