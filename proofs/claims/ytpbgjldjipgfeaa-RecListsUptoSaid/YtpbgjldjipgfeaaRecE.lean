/- The walk of (rec.Rec).part. -/
import Derived.Test.YtpbgjldjipgfeaaRecD
import Derived.Test.YtpbgjldjipgfeaaConv
import Derived.Deep.Cut
import Derived.LoopN
namespace Go.Proofs.Ytpbgjldjipgfeaa
open Go.RowKit
set_option linter.unusedVariables false

theorem rblk {w : World} {g : Nat} {t : TypeId} {a0 a1 a2 a3 a4 a5 a6 a7 a8 a9 a10 : Value} (h : Blk w g t #[a0, a1, a2, a3, a4, a5, a6, a7, a8, a9, a10]) :
    w.cell? ⟨g, 0, none⟩ = some a0 ∧ w.cell? ⟨g, 1, none⟩ = some a1 ∧ w.cell? ⟨g, 2, none⟩ = some a2 ∧ w.cell? ⟨g, 3, none⟩ = some a3 ∧ w.cell? ⟨g, 4, none⟩ = some a4 ∧ w.cell? ⟨g, 5, none⟩ = some a5 ∧ w.cell? ⟨g, 6, none⟩ = some a6 ∧ w.cell? ⟨g, 7, none⟩ = some a7 ∧ w.cell? ⟨g, 8, none⟩ = some a8 ∧ w.cell? ⟨g, 9, none⟩ = some a9 ∧ w.cell? ⟨g, 10, none⟩ = some a10 :=
  ⟨h.cell 0, h.cell 1, h.cell 2, h.cell 3, h.cell 4, h.cell 5, h.cell 6, h.cell 7, h.cell 8, h.cell 9, h.cell 10⟩
/-- the part that a letter names -/
def fldP (x : RcS) (c : Int) : List UInt8 :=
  if c = 84 then txB x else if c = 87 then triB x.ws else if c = 82 then triB x.rs else if c = 67 then flB x.commit
  else if c = 83 then shB x.shards else if c = 65 then x.reply else if c = 73 then numB x.id else nmB x.name
/-- small enough -/
structure RcSm (x : RcS) : Prop where
  ws : triW x.ws ≤ 1048576
  rs : triW x.rs ≤ 1048576
  wn : x.ws.length ≤ 1048576
  rn : x.rs.length ≤ 1048576
  sh : x.shards.length ≤ 1048576
  rep : x.reply.length ≤ 1048576
  nm : x.name.size ≤ 1048576
theorem numsB3 (a b c : Nat) : numsB [a, b, c] = numB a ++ (numB b ++ numB c) := by simp [numsB]
theorem numsB1 (a : Nat) : numsB [a] = numB a := by simp [numsB]
theorem RdB.wide {w : World} {F : Nat → Prop} {b : Nat} {v : Value} {l : List UInt8} (h : OwnB w b v l) : RdB w (fun k => F k ∨ b ≤ k) v l := h.rd.mono fun k hk => .inr (h.lt k hk).1
theorem RdB.wideL {w : World} {F : Nat → Prop} {b : Nat} {v : Value} {l : List UInt8} (h : RdB w F v l) : RdB w (fun k => F k ∨ b ≤ k) v l := h.mono fun k hk => .inl hk

set_option maxHeartbeats 4000000 in
set_option maxRecDepth 100000 in
theorem recPartT {x : RcS} {wv rv sv pv : Value} {F : Nat → Prop} {w : World} (hr : RecR w F x wv rv sv pv) (hs : RcSm x) :
    Calls Try.prog 24 #[.agg (recC x wv rv sv pv), .int .i32 84] w fun e w' => ∃ u, e = .returned u ∧ RdB w' (fun b => F b ∨ w.heap.size ≤ b) u (txB x) ∧ Chg Non w w' := by
  have hk0 : Chg Non w (w.alloc (.cells (recC x wv rv sv pv) 32)) := (Chg.refl Non w).alloc _
  have hb0 := Blk.new w 32 (recC x wv rv sv pv)
  have hr0 := hr.c0 hk0
  clear hr
  unfold recC at hk0 hb0 hr0 ⊢
  go_enter Try.func24, Try.ntmps24
  go_upto_region 1 with fail
  generalize World.alloc _ _ = w0 at hb0 hk0 hr0 ⊢
  have hsz := hk0.size
  obtain ⟨c0, c1, c2, c3, c4, c5, c6, c7, c8, c9, c10⟩ := rblk hb0
  obtain ⟨_, _, _, _, ha, hb, hc, _, _⟩ := hr0
  have hlit := RdU.lit w0 22 (0, 0) #[.int .u64 (x.boot : Int), .int .u64 (x.sess : Int), .int .u64 (x.seq : Int)] [x.boot, x.sess, x.seq] 3 rfl rfl (by simp [maxLen]) (by simp [ha, hb, hc])
  have hcall := recNumbers hlit (by simp)
  rw [numsB3] at hcall
  have HC := hide hcall
  have hk1 := hk0.alloc (.cells #[.int .u64 (x.boot : Int), .int .u64 (x.sess : Int), .int .u64 (x.seq : Int)] 22)
  have hs1 := hk1.size
  clear hcall hlit ha hb hc hb0 hk0
  go_wp2_with fail
  refine HC.out.mono ?_
  rintro e w2 ⟨u2, rfl, hu2, hc2⟩
  go_wp2_with fail
  go_ret
  exact ⟨_, rfl, RdB.wide (hu2.low hs1), hk1.trans0 hc2⟩

set_option maxHeartbeats 4000000 in
set_option maxRecDepth 100000 in
theorem recPartW {x : RcS} {wv rv sv pv : Value} {F : Nat → Prop} {w : World} (hr : RecR w F x wv rv sv pv) (hs : RcSm x) :
    Calls Try.prog 24 #[.agg (recC x wv rv sv pv), .int .i32 87] w fun e w' => ∃ u, e = .returned u ∧ RdB w' (fun b => F b ∨ w.heap.size ≤ b) u (triB x.ws) ∧ Chg Non w w' := by
  have hk0 : Chg Non w (w.alloc (.cells (recC x wv rv sv pv) 32)) := (Chg.refl Non w).alloc _
  have hb0 := Blk.new w 32 (recC x wv rv sv pv)
  have hr0 := hr.c0 hk0
  clear hr
  unfold recC at hk0 hb0 hr0 ⊢
  go_enter Try.func24, Try.ntmps24
  go_upto_region 1 with fail
  generalize World.alloc _ _ = w0 at hb0 hk0 hr0 ⊢
  have hsz := hk0.size
  obtain ⟨c0, c1, c2, c3, c4, c5, c6, c7, c8, c9, c10⟩ := rblk hb0
  have hn := hs.wn
  have hl := triB_len x.ws
  have hw := hs.ws
  have HL := hide (show (triB x.ws).length + 18 ≤ 140737488355328 by omega)
  have hrw := hr0.ws
  obtain ⟨l, hl0⟩ : ∃ l, l = x.ws := ⟨_, rfl⟩
  rw [← hl0] at hn HL hrw
  have HE := hide hl0
  obtain ⟨A, c, rfl, hc, hm⟩ := hrw.shape
  unfold maxLen at hm
  have hrw := hrw.lt
  have hb0s := hk0.size
  clear hl0 hw hl hs hr0
  go_wp2_with fail
  go_loopw [5, 35] (fun ov iv wr => ∃ (k : Nat), k ≤ l.length ∧ iv = .int .i64 k ∧ OwnT wr w0.heap.size ov (triL (l.take k)) ∧ Chg Non w0 wr) (fun _ iv _ => l.length - (intOf iv).toNat)
  case atStart => exact ⟨0, Nat.zero_le _, rfl, OwnT.nil_ _ _, Chg.refl _ _⟩
  case round =>
    clear c0 c1 c2 c3 c4 c5 c6 c7 c8 c9 c10
    obtain ⟨k, hk, rfl, hO, hcw⟩ := hrel
    by_cases h1 : k < l.length
    · obtain ⟨ad, p, q, rfl, had, e1, e2, e3, rp, rq⟩ := (hrw.c0 hcw).at_ h1
      have HT := hide (show triL (l.take (k + 1)) = triL (l.take k) ++ [flB l[k].f, l[k].a, l[k].b] from by rw [List.take_succ_eq_append_getElem h1, triL_snoc])
      obtain ⟨y, hy⟩ : ∃ y, y = l[k] := ⟨_, rfl⟩
      rw [← hy] at HT e3 rp rq
      have hdl : (triL (l.take k)).length + 3 ≤ 1000000000000 := by rw [triL_len, List.length_take]; omega
      have hsz2 := hcw.size
      have hnot : ∀ b, (F b ∧ b < w0.heap.size) → u5.ownBlock ≠ some b := fun b hb e => by have := (hO.lt b e).1; have := hb.2; omega
      obtain ⟨P, np, cp, rfl⟩ := rp.sl
      obtain ⟨R, nq, cq, rfl⟩ := rq.sl
      obtain ⟨f, hf⟩ : ∃ f, f = y.f := ⟨_, rfl⟩
      rw [← hf] at HT e3
      have h1i : (k : Int) < (l.length : Int) := by omega
      have h0i : (0 : Int) ≤ (k : Int) := by omega
      clear hy hf had hrw
      go_upto_region 10 with fail
      have hb1 := Blk.new wr 49 #[.slice P np cp, .slice R nq cq, .bool f]
      have hk1 : Chg Non wr (wr.alloc (.cells #[.slice P np cp, .slice R nq cq, .bool f] 49)).drew := ((Chg.refl Non wr).alloc _).drew
      have hna : ¬ (some wr.heap.size = u5.ownBlock) := fun e => by have := (hO.lt _ e.symm).2; omega
      have e1 : (wr.alloc (.cells #[.slice P np cp, .slice R nq cq, .bool f] 49)).drew.cell? ⟨wr.heap.size, 0, none⟩ = some (.slice P np cp) := hb1.cell 0
      have e2 : (wr.alloc (.cells #[.slice P np cp, .slice R nq cq, .bool f] 49)).drew.cell? ⟨wr.heap.size, 1, none⟩ = some (.slice R nq cq) := hb1.cell 1
      have e3 : (wr.alloc (.cells #[.slice P np cp, .slice R nq cq, .bool f] 49)).drew.cell? ⟨wr.heap.size, 2, none⟩ = some (.bool f) := hb1.cell 2
      have hOd := hO.c0 hk1
      have rp := rp.c0 hk1
      have rq := rq.c0 hk1
      have hcd := hcw.trans0 hk1
      have hsz3 := hcd.size
      clear hb1 hO hcw hb0
      generalize World.alloc _ _ = w1 at e1 e2 e3 hk1 hOd rp rq hcd hsz3 ⊢
      obtain ⟨g, hg⟩ : ∃ g, g = wr.heap.size := ⟨_, rfl⟩
      rw [← hg] at e1 e2 e3 hna ⊢
      clear hg
      go_region_held3 (fun w' => w'.cell? ⟨g, 0, none⟩ = some (.slice P np cp) ∧ w'.cell? ⟨g, 1, none⟩ = some (.slice R nq cq) ∧ w'.cell? ⟨g, 2, none⟩ = some (.bool f)) (first | exact ⟨e1, e2, e3⟩ | exact ⟨cell_al e1, cell_al e2, cell_al e3⟩) (first
        | (go_at_call 44; refine recTruth.mono ?_; rintro e w2 ⟨u2, rfl, hu2, hc2⟩; have d2 := OwnT.dsj hOd hu2; obtain ⟨A2, n2, k2, rfl⟩ := hu2.sl; have e1 := hc2.cell e1 (fun h => h); have e2 := hc2.cell e2 (fun h => h); have e3 := hc2.cell e3 (fun h => h))
        | (refine step_T rfl _ _ rfl ((hOd.c0 hc2).al _) rfl (RdsB.cons (hu2.al _).rd d2 (RdsB.cons ((rp.c0 hc2).al _) hnot (RdsB.cons ((rq.c0 hc2).al _) hnot (RdsB.nil_ _ _)))) (Blk.new _ _ _) rfl rfl rfl hdl (Nat.le_trans hsz3 (Nat.le_trans hc2.size (szAl _ _))) ?_; intro v3 w3 hO3 hg3 hat3; have e1 := (Chg.of_grown hg3).cell (cell_al e1) hna; have e2 := (Chg.of_grown hg3).cell (cell_al e2) hna; have e3 := (Chg.of_grown hg3).cell (cell_al e3) hna; have k3 := Chg.appT ((hcd.trans0 hc2).alloc _) hg3 ((hOd.c0 hc2).al _) (Nat.le_refl _)))
      go_wp2_with fail
      go_round
      case rel => exact ⟨k + 1, by omega, by go_num, by rw [HT.out]; exact hO3, k3⟩
      case measure => simp [intOf]; omega
    · have HK := hide (show l.take k = l from List.take_of_length_le (by omega))
      rw [HK.out] at hO
      have hj := packJoin hO.rd HL.out
      go_wp2_with fail
      refine hj.mono ?_
      rintro e w2 ⟨u2, rfl, hu2, hc2⟩
      go_wp2_with fail
      go_ret
      rw [← HE.out]
      exact ⟨_, rfl, RdB.wide (hu2.low (Nat.le_trans hb0s hcw.size)), (hk0.trans0 hcw).trans0 hc2⟩

set_option maxHeartbeats 4000000 in
set_option maxRecDepth 100000 in
theorem recPartR {x : RcS} {wv rv sv pv : Value} {F : Nat → Prop} {w : World} (hr : RecR w F x wv rv sv pv) (hs : RcSm x) :
    Calls Try.prog 24 #[.agg (recC x wv rv sv pv), .int .i32 82] w fun e w' => ∃ u, e = .returned u ∧ RdB w' (fun b => F b ∨ w.heap.size ≤ b) u (triB x.rs) ∧ Chg Non w w' := by
  have hk0 : Chg Non w (w.alloc (.cells (recC x wv rv sv pv) 32)) := (Chg.refl Non w).alloc _
  have hb0 := Blk.new w 32 (recC x wv rv sv pv)
  have hr0 := hr.c0 hk0
  clear hr
  unfold recC at hk0 hb0 hr0 ⊢
  go_enter Try.func24, Try.ntmps24
  go_upto_region 1 with fail
  generalize World.alloc _ _ = w0 at hb0 hk0 hr0 ⊢
  have hsz := hk0.size
  obtain ⟨c0, c1, c2, c3, c4, c5, c6, c7, c8, c9, c10⟩ := rblk hb0
  have hn := hs.rn
  have hl := triB_len x.rs
  have hw := hs.rs
  have HL := hide (show (triB x.rs).length + 18 ≤ 140737488355328 by omega)
  have hrw := hr0.rs
  obtain ⟨l, hl0⟩ : ∃ l, l = x.rs := ⟨_, rfl⟩
  rw [← hl0] at hn HL hrw
  have HE := hide hl0
  obtain ⟨A, c, rfl, hc, hm⟩ := hrw.shape
  unfold maxLen at hm
  have hrw := hrw.lt
  have hb0s := hk0.size
  clear hl0 hw hl hs hr0
  go_wp2_with fail
  go_loopw [5, 55] (fun ov iv wr => ∃ (k : Nat), k ≤ l.length ∧ iv = .int .i64 k ∧ OwnT wr w0.heap.size ov (triL (l.take k)) ∧ Chg Non w0 wr) (fun _ iv _ => l.length - (intOf iv).toNat)
  case atStart => exact ⟨0, Nat.zero_le _, rfl, OwnT.nil_ _ _, Chg.refl _ _⟩
  case round =>
    clear c0 c1 c2 c3 c4 c5 c6 c7 c8 c9 c10
    obtain ⟨k, hk, rfl, hO, hcw⟩ := hrel
    by_cases h1 : k < l.length
    · obtain ⟨ad, p, q, rfl, had, e1, e2, e3, rp, rq⟩ := (hrw.c0 hcw).at_ h1
      have HT := hide (show triL (l.take (k + 1)) = triL (l.take k) ++ [flB l[k].f, l[k].a, l[k].b] from by rw [List.take_succ_eq_append_getElem h1, triL_snoc])
      obtain ⟨y, hy⟩ : ∃ y, y = l[k] := ⟨_, rfl⟩
      rw [← hy] at HT e3 rp rq
      have hdl : (triL (l.take k)).length + 3 ≤ 1000000000000 := by rw [triL_len, List.length_take]; omega
      have hsz2 := hcw.size
      have hnot : ∀ b, (F b ∧ b < w0.heap.size) → u5.ownBlock ≠ some b := fun b hb e => by have := (hO.lt b e).1; have := hb.2; omega
      obtain ⟨P, np, cp, rfl⟩ := rp.sl
      obtain ⟨R, nq, cq, rfl⟩ := rq.sl
      obtain ⟨f, hf⟩ : ∃ f, f = y.f := ⟨_, rfl⟩
      rw [← hf] at HT e3
      have h1i : (k : Int) < (l.length : Int) := by omega
      have h0i : (0 : Int) ≤ (k : Int) := by omega
      clear hy hf had hrw
      go_upto_region 16 with fail
      have hb1 := Blk.new wr 63 #[.slice P np cp, .slice R nq cq, .bool f]
      have hk1 : Chg Non wr (wr.alloc (.cells #[.slice P np cp, .slice R nq cq, .bool f] 63)).drew := ((Chg.refl Non wr).alloc _).drew
      have hna : ¬ (some wr.heap.size = u5.ownBlock) := fun e => by have := (hO.lt _ e.symm).2; omega
      have e1 : (wr.alloc (.cells #[.slice P np cp, .slice R nq cq, .bool f] 63)).drew.cell? ⟨wr.heap.size, 0, none⟩ = some (.slice P np cp) := hb1.cell 0
      have e2 : (wr.alloc (.cells #[.slice P np cp, .slice R nq cq, .bool f] 63)).drew.cell? ⟨wr.heap.size, 1, none⟩ = some (.slice R nq cq) := hb1.cell 1
      have e3 : (wr.alloc (.cells #[.slice P np cp, .slice R nq cq, .bool f] 63)).drew.cell? ⟨wr.heap.size, 2, none⟩ = some (.bool f) := hb1.cell 2
      have hOd := hO.c0 hk1
      have rp := rp.c0 hk1
      have rq := rq.c0 hk1
      have hcd := hcw.trans0 hk1
      have hsz3 := hcd.size
      clear hb1 hO hcw hb0
      generalize World.alloc _ _ = w1 at e1 e2 e3 hk1 hOd rp rq hcd hsz3 ⊢
      obtain ⟨g, hg⟩ : ∃ g, g = wr.heap.size := ⟨_, rfl⟩
      rw [← hg] at e1 e2 e3 hna ⊢
      clear hg
      go_region_held3 (fun w' => w'.cell? ⟨g, 0, none⟩ = some (.slice P np cp) ∧ w'.cell? ⟨g, 1, none⟩ = some (.slice R nq cq) ∧ w'.cell? ⟨g, 2, none⟩ = some (.bool f)) (first | exact ⟨e1, e2, e3⟩ | exact ⟨cell_al e1, cell_al e2, cell_al e3⟩) (first
        | (go_at_call 44; refine recTruth.mono ?_; rintro e w2 ⟨u2, rfl, hu2, hc2⟩; have d2 := OwnT.dsj hOd hu2; obtain ⟨A2, n2, k2, rfl⟩ := hu2.sl; have e1 := hc2.cell e1 (fun h => h); have e2 := hc2.cell e2 (fun h => h); have e3 := hc2.cell e3 (fun h => h))
        | (refine step_T rfl _ _ rfl ((hOd.c0 hc2).al _) rfl (RdsB.cons (hu2.al _).rd d2 (RdsB.cons ((rp.c0 hc2).al _) hnot (RdsB.cons ((rq.c0 hc2).al _) hnot (RdsB.nil_ _ _)))) (Blk.new _ _ _) rfl rfl rfl hdl (Nat.le_trans hsz3 (Nat.le_trans hc2.size (szAl _ _))) ?_; intro v3 w3 hO3 hg3 hat3; have e1 := (Chg.of_grown hg3).cell (cell_al e1) hna; have e2 := (Chg.of_grown hg3).cell (cell_al e2) hna; have e3 := (Chg.of_grown hg3).cell (cell_al e3) hna; have k3 := Chg.appT ((hcd.trans0 hc2).alloc _) hg3 ((hOd.c0 hc2).al _) (Nat.le_refl _)))
      go_wp2_with fail
      go_round
      case rel => exact ⟨k + 1, by omega, by go_num, by rw [HT.out]; exact hO3, k3⟩
      case measure => simp [intOf]; omega
    · have HK := hide (show l.take k = l from List.take_of_length_le (by omega))
      rw [HK.out] at hO
      have hj := packJoin hO.rd HL.out
      go_wp2_with fail
      refine hj.mono ?_
      rintro e w2 ⟨u2, rfl, hu2, hc2⟩
      go_wp2_with fail
      go_ret
      rw [← HE.out]
      exact ⟨_, rfl, RdB.wide (hu2.low (Nat.le_trans hb0s hcw.size)), (hk0.trans0 hcw).trans0 hc2⟩

set_option maxHeartbeats 4000000 in
set_option maxRecDepth 100000 in
theorem recPartC {x : RcS} {wv rv sv pv : Value} {F : Nat → Prop} {w : World} (hr : RecR w F x wv rv sv pv) (hs : RcSm x) :
    Calls Try.prog 24 #[.agg (recC x wv rv sv pv), .int .i32 67] w fun e w' => ∃ u, e = .returned u ∧ RdB w' (fun b => F b ∨ w.heap.size ≤ b) u (flB x.commit) ∧ Chg Non w w' := by
  have hk0 : Chg Non w (w.alloc (.cells (recC x wv rv sv pv) 32)) := (Chg.refl Non w).alloc _
  have hb0 := Blk.new w 32 (recC x wv rv sv pv)
  have hr0 := hr.c0 hk0
  clear hr
  unfold recC at hk0 hb0 hr0 ⊢
  go_enter Try.func24, Try.ntmps24
  go_upto_region 1 with fail
  generalize World.alloc _ _ = w0 at hb0 hk0 hr0 ⊢
  have hsz := hk0.size
  obtain ⟨c0, c1, c2, c3, c4, c5, c6, c7, c8, c9, c10⟩ := rblk hb0
  clear hb0 hr0
  go_wp2_with fail
  refine recTruth.mono ?_
  rintro e w2 ⟨u2, rfl, hu2, hc2⟩
  go_wp2_with fail
  go_ret
  exact ⟨_, rfl, RdB.wide (hu2.low hsz), hk0.trans0 hc2⟩

set_option maxHeartbeats 4000000 in
set_option maxRecDepth 100000 in
theorem recPartA {x : RcS} {wv rv sv pv : Value} {F : Nat → Prop} {w : World} (hr : RecR w F x wv rv sv pv) (hs : RcSm x) :
    Calls Try.prog 24 #[.agg (recC x wv rv sv pv), .int .i32 65] w fun e w' => ∃ u, e = .returned u ∧ RdB w' (fun b => F b ∨ w.heap.size ≤ b) u (x.reply) ∧ Chg Non w w' := by
  have hk0 : Chg Non w (w.alloc (.cells (recC x wv rv sv pv) 32)) := (Chg.refl Non w).alloc _
  have hb0 := Blk.new w 32 (recC x wv rv sv pv)
  have hr0 := hr.c0 hk0
  clear hr
  unfold recC at hk0 hb0 hr0 ⊢
  go_enter Try.func24, Try.ntmps24
  go_upto_region 1 with fail
  generalize World.alloc _ _ = w0 at hb0 hk0 hr0 ⊢
  have hsz := hk0.size
  obtain ⟨c0, c1, c2, c3, c4, c5, c6, c7, c8, c9, c10⟩ := rblk hb0
  have hp := hr0.rep
  clear hb0 hr0
  go_wp2_with fail
  go_ret
  exact ⟨_, rfl, RdB.wideL hp, hk0⟩

set_option maxHeartbeats 4000000 in
set_option maxRecDepth 100000 in
theorem recPartI {x : RcS} {wv rv sv pv : Value} {F : Nat → Prop} {w : World} (hr : RecR w F x wv rv sv pv) (hs : RcSm x) :
    Calls Try.prog 24 #[.agg (recC x wv rv sv pv), .int .i32 73] w fun e w' => ∃ u, e = .returned u ∧ RdB w' (fun b => F b ∨ w.heap.size ≤ b) u (numB x.id) ∧ Chg Non w w' := by
  have hk0 : Chg Non w (w.alloc (.cells (recC x wv rv sv pv) 32)) := (Chg.refl Non w).alloc _
  have hb0 := Blk.new w 32 (recC x wv rv sv pv)
  have hr0 := hr.c0 hk0
  clear hr
  unfold recC at hk0 hb0 hr0 ⊢
  go_enter Try.func24, Try.ntmps24
  go_upto_region 1 with fail
  generalize World.alloc _ _ = w0 at hb0 hk0 hr0 ⊢
  have hsz := hk0.size
  obtain ⟨c0, c1, c2, c3, c4, c5, c6, c7, c8, c9, c10⟩ := rblk hb0
  have hi := hr0.u4
  have hlit := RdU.lit w0 22 (0, 0) #[.int .u64 (x.id : Int)] [x.id] 1 rfl rfl (by simp [maxLen]) (by simpa using hi)
  have hcall := packNumber hlit (by simp)
  rw [numsB1] at hcall
  have HC := hide hcall
  have hk1 := hk0.alloc (.cells #[.int .u64 (x.id : Int)] 22)
  have hs1 := hk1.size
  clear hcall hlit hi hb0 hk0 hr0
  go_wp2_with fail
  refine HC.out.mono ?_
  rintro e w2 ⟨u2, rfl, hu2, hc2⟩
  go_wp2_with fail
  go_ret
  exact ⟨_, rfl, RdB.wide (hu2.low hs1), hk1.trans0 hc2⟩

set_option maxHeartbeats 4000000 in
set_option maxRecDepth 100000 in
theorem recPartS {x : RcS} {wv rv sv pv : Value} {F : Nat → Prop} {w : World} (hr : RecR w F x wv rv sv pv) (hs : RcSm x) :
    Calls Try.prog 24 #[.agg (recC x wv rv sv pv), .int .i32 83] w fun e w' => ∃ u, e = .returned u ∧ RdB w' (fun b => F b ∨ w.heap.size ≤ b) u (shB x.shards) ∧ Chg Non w w' := by
  have hk0 : Chg Non w (w.alloc (.cells (recC x wv rv sv pv) 32)) := (Chg.refl Non w).alloc _
  have hb0 := Blk.new w 32 (recC x wv rv sv pv)
  have hr0 := hr.c0 hk0
  clear hr
  unfold recC at hk0 hb0 hr0 ⊢
  go_enter Try.func24, Try.ntmps24
  go_upto_region 1 with fail
  generalize World.alloc _ _ = w0 at hb0 hk0 hr0 ⊢
  have hsz := hk0.size
  obtain ⟨c0, c1, c2, c3, c4, c5, c6, c7, c8, c9, c10⟩ := rblk hb0
  have hn := hs.sh
  have hrw := hr0.sh
  obtain ⟨l, hl0⟩ : ∃ l, l = x.shards := ⟨_, rfl⟩
  rw [← hl0] at hn hrw
  have HE := hide hl0
  obtain ⟨A, c, rfl, hc, hm⟩ := hrw.shape
  unfold maxLen at hm
  clear hl0 hs hr0
  go_wp2_with fail
  go_loopw [10, 80] (fun ov iv wr => ∃ (k : Nat), k ≤ l.length ∧ iv = .int .i64 k ∧ OwnB wr w0.heap.size ov (shB (l.take k)) ∧ Chg Non w0 wr) (fun _ iv _ => l.length - (intOf iv).toNat)
  case atStart => exact ⟨0, Nat.zero_le _, rfl, OwnB.nil_ _ _, Chg.refl _ _⟩
  case round =>
    clear c0 c1 c2 c3 c4 c5 c6 c7 c8 c9 c10
    obtain ⟨k, hk, rfl, hO, hcw⟩ := hrel
    by_cases h1 : k < l.length
    · obtain ⟨ad, rfl, had, e1⟩ := (RdI.c0 hrw hcw).at_ h1
      have HT := hide (show shB (l.take (k + 1)) = shB (l.take k) ++ numB (u64z l[k]) from by rw [List.take_succ_eq_append_getElem h1]; simp only [shB, List.flatMap_append, List.flatMap_singleton])
      have hnn := shB_len (l.take k)
      rw [List.length_take, Nat.min_eq_left hk] at hnn
      obtain ⟨n, hn0⟩ : ∃ n, n = l[k] := ⟨_, rfl⟩
      rw [← hn0] at HT e1
      have hw : IntKind.u64.wrap n = ((u64z n : Nat) : Int) := by rw [IntKind.wrap_u64]; unfold u64z; omega
      have hu : U64 (u64z n) := u64z_lt n
      obtain ⟨m, hm0⟩ : ∃ m, m = u64z n := ⟨_, rfl⟩
      rw [← hm0] at HT hw hu
      have hn9 := numB_length m
      have hlit := RdU.lit wr 22 (0, 0) #[.int .u64 (m : Int)] [m] 1 rfl rfl (by simp [maxLen]) (by simpa using hu)
      have hcall := packNumber hlit (by simp)
      rw [numsB1] at hcall
      have HC := hide hcall
      have hlen : (shB (l.take k)).length + (numB m).length ≤ 140737488355328 := by omega
      have hk1 := hcw.alloc (.cells #[.int .u64 (m : Int)] 22)
      have hs1 := hk1.size
      have hO1 := hO.al (.cells #[.int .u64 (m : Int)] 22)
      clear hcall hlit hu hn0 hm0 hnn hn9
      go_wp2_with (first
        | (go_at_call 45; refine HC.out.mono ?_; rintro e w2 ⟨u2, rfl, hu2, hc2⟩; have hs3 := hc2.size)
        | (at_builtin; refine append_B rfl _ _ rfl (hO1.c0 hc2) rfl hu2.rd rfl hlen (Nat.le_trans hs1 hs3) ?_; intro v3 w3 hO3 hg3 hat3))
      go_roundw
      case rel =>
        refine ⟨k + 1, by omega, by go_num, ?_, Chg.app (hk1.trans0 hc2) hg3 (hO1.c0 hc2) (Nat.le_refl _)⟩
        rw [HT.out]; exact hO3
      case measure => simp [intOf]; omega
    · have HK := hide (show l.take k = l from List.take_of_length_le (by omega))
      rw [HK.out] at hO
      go_wp2_with fail
      go_ret
      rw [← HE.out]
      exact ⟨_, rfl, RdB.wide (hO.low hsz), hk0.trans0 hcw⟩

set_option maxHeartbeats 4000000 in
set_option maxRecDepth 100000 in
theorem recPartN {x : RcS} {wv rv sv pv : Value} {F : Nat → Prop} {w : World} {c : Int} (hr : RecR w F x wv rv sv pv) (hs : RcSm x) (hc : c ≠ 84 ∧ c ≠ 87 ∧ c ≠ 82 ∧ c ≠ 67 ∧ c ≠ 83 ∧ c ≠ 65 ∧ c ≠ 73) :
    Calls Try.prog 24 #[.agg (recC x wv rv sv pv), .int .i32 c] w fun e w' => ∃ u, e = .returned u ∧ RdB w' (fun b => F b ∨ w.heap.size ≤ b) u (nmB x.name) ∧ Chg Non w w' := by
  have hk0 : Chg Non w (w.alloc (.cells (recC x wv rv sv pv) 32)) := (Chg.refl Non w).alloc _
  have hb0 := Blk.new w 32 (recC x wv rv sv pv)
  have hr0 := hr.c0 hk0
  clear hr
  unfold recC at hk0 hb0 hr0 ⊢
  go_enter Try.func24, Try.ntmps24
  go_upto_region 1 with fail
  generalize World.alloc _ _ = w0 at hb0 hk0 hr0 ⊢
  have hsz := hk0.size
  obtain ⟨c0, c1, c2, c3, c4, c5, c6, c7, c8, c9, c10⟩ := rblk hb0
  have hcv := conv_bytes w0 x.name
  have hck := bytesWorld_chg w0 5 x.name
  have hcr := bytesWorld_rd w0 5 x.name (by have := hs.nm; omega)
  have q1 : (c == 84) = false := beq_eq_false_iff_ne.2 hc.1
  have q2 : (c == 87) = false := beq_eq_false_iff_ne.2 hc.2.1
  have q3 : (c == 82) = false := beq_eq_false_iff_ne.2 hc.2.2.1
  have q4 : (c == 67) = false := beq_eq_false_iff_ne.2 hc.2.2.2.1
  have q5 : (c == 83) = false := beq_eq_false_iff_ne.2 hc.2.2.2.2.1
  have q6 : (c == 65) = false := beq_eq_false_iff_ne.2 hc.2.2.2.2.2.1
  have q7 : (c == 73) = false := beq_eq_false_iff_ne.2 hc.2.2.2.2.2.2
  have HR := hide hcr
  have HK := hide hck
  clear hb0 hr0 hc hs hcr hck
  go_wp2_with fail
  go_ret
  exact ⟨_, rfl, HR.out.mono fun k hk => .inr (by omega), hk0.trans0 HK.out⟩

theorem recPart {x : RcS} {wv rv sv pv : Value} {F : Nat → Prop} {w : World} {c : Int} (hr : RecR w F x wv rv sv pv) (hs : RcSm x) :
    Calls Try.prog 24 #[.agg (recC x wv rv sv pv), .int .i32 c] w fun e w' => ∃ u, e = .returned u ∧ RdB w' (fun b => F b ∨ w.heap.size ≤ b) u (fldP x c) ∧ Chg Non w w' := by
  by_cases h1 : c = 84
  · subst h1; exact recPartT hr hs
  by_cases h2 : c = 87
  · subst h2; exact recPartW hr hs
  by_cases h3 : c = 82
  · subst h3; exact recPartR hr hs
  by_cases h4 : c = 67
  · subst h4; exact recPartC hr hs
  by_cases h5 : c = 83
  · subst h5; exact recPartS hr hs
  by_cases h6 : c = 65
  · subst h6; exact recPartA hr hs
  by_cases h7 : c = 73
  · subst h7; exact recPartI hr hs
  have e : fldP x c = nmB x.name := by rw [fldP, if_neg h1, if_neg h2, if_neg h3, if_neg h4, if_neg h5, if_neg h6, if_neg h7]
  rw [e]
  exact recPartN hr hs ⟨h1, h2, h3, h4, h5, h6, h7⟩
end Go.Proofs.Ytpbgjldjipgfeaa
