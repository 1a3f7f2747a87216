/- The walk of rec.twin: a copy of a record, memory of its own. -/
import Derived.Test.YtpbgjldjipgfeaaTwnA
import Derived.Test.YtpbgjldjipgfeaaOrdT
import Derived.Test.YtpbgjldjipgfeaaRecOw
namespace Go.Proofs.Ytpbgjldjipgfeaa
open Go.RowKit
set_option linter.unusedVariables false
set_option linter.unusedSimpArgs false

theorem pcs_one {w : World} {F : Nat → Prop} {xs : List (Value × Value)} {l : List WrS} (hl : xs.length = l.length) (h : ∀ (i : Nat) (x : Value × Value) (y : WrS), xs[i]? = some x → l[i]? = some y → RdB w F x.1 y.a ∧ RdB w F x.2 y.b) : ∀ u ∈ flW xs l, u.oneCell' = true := by
  intro u hu
  rcases flW_one xs l u hu with ⟨p, hp, hu⟩ | ⟨b, rfl⟩
  · obtain ⟨i, hi, rfl⟩ := List.mem_iff_getElem.1 hp
    obtain ⟨r1, r2⟩ := h i _ _ (List.getElem?_eq_getElem hi) (List.getElem?_eq_getElem (by omega))
    obtain ⟨A, n, c, e1⟩ := r1.sl
    obtain ⟨B, m, d, e2⟩ := r2.sl
    rcases hu with rfl | rfl
    · rw [e1]; rfl
    · rw [e2]; rfl
  · rfl
theorem OwnPs.two {w : World} {b1 b2 : Nat} {u v : Value} {l m : List UInt8} (h1 : OwnB w b1 u l) (h2 : OwnB w b2 v m) (hlt : ∀ k, u.ownBlock = some k → k < b2) (hb : b1 ≤ b2) : OwnPs w b1 [(u, l), (v, m)] := by
  refine ⟨fun p hp => ?_, List.pairwise_cons.2 ⟨fun q hq k hk e => ?_, List.pairwise_cons.2 ⟨fun q hq => by simp at hq, .nil⟩⟩⟩
  · simp at hp
    rcases hp with rfl | rfl
    · exact h1
    · exact h2.low hb
  · simp at hq
    subst hq
    have h3 := hlt k hk
    have h4 := (h2.lt k e).1
    omega
/-- the elements that are left read as they did -/
def Olds (w : World) (F : Nat → Prop) (xs : List (Value × Value)) (l : List WrS) : Prop := ∀ (i : Nat) (x : Value × Value) (y : WrS), xs[i]? = some x → l[i]? = some y → RdB w F x.1 y.a ∧ RdB w F x.2 y.b
theorem Olds.chg {w w' : World} {F S : Nat → Prop} {xs : List (Value × Value)} {l : List WrS} (h : Olds w F xs l) (hc : Chg S w w') (hF : ∀ k, F k → ¬ S k) : Olds w' F xs l := fun i x y hx hy => ⟨(h i x y hx hy).1.chg hc hF, (h i x y hx hy).2.chg hc hF⟩
theorem Olds.tl {w : World} {F : Nat → Prop} {x : Value × Value} {y : WrS} {xs : List (Value × Value)} {l : List WrS} (h : Olds w F (x :: xs) (y :: l)) : RdB w F x.1 y.a ∧ RdB w F x.2 y.b ∧ Olds w F xs l := ⟨(h 0 x y rfl rfl).1, (h 0 x y rfl rfl).2, fun i a b ha hb => h (i + 1) a b (by simpa using ha) (by simpa using hb)⟩
theorem ownB_ne {w : World} {o b : Nat} {t : TypeId} {cs : Array Value} {v : Value} {l : List UInt8} (h : OwnB w b v l) (hb : Blk w o t cs) (ht : 5 ≠ t) : ∀ k, v.ownBlock = some k → k ≠ o := own_ne h hb ht

set_option maxHeartbeats 16000000 in
set_option maxRecDepth 100000 in
theorem recTwin {x : RcS} {wv rv sv pv : Value} {F : Nat → Prop} {w : World} (hr : RecR w F x wv rv sv pv) (hs : RcSm x) :
    Calls Try.prog 40 #[.agg (recC x wv rv sv pv)] w fun e w' => ∃ a b c d xs ys, e = .returned (.agg (recC x a b c d)) ∧ RecOwn w' w.heap.size x a b c d xs ys ∧ Chg Non w w' := by
  obtain ⟨A1, n1, k1, rfl⟩ := hr.ws.sl
  obtain ⟨A2, n2, k2, rfl⟩ := hr.rs.sl
  obtain ⟨A3, n3, k3, rfl⟩ := RdV.sl hr.sh
  obtain ⟨A4, n4, k4, rfl⟩ := hr.rep.sl
  obtain ⟨hb0, hz0, hk0⟩ := box2 w (recC x (.slice A1 n1 k1) (.slice A2 n2 k2) (.slice A3 n3 k3) (.slice A4 n4 k4)) zeroC 32 32
  have hr0 := hr.lt.c0 hk0
  have hsz0 : ((w.alloc (.cells (recC x (.slice A1 n1 k1) (.slice A2 n2 k2) (.slice A3 n3 k3) (.slice A4 n4 k4)) 32)).alloc (.cells zeroC 32)).heap.size = w.heap.size + 2 := by simp
  have HSM := hide hs
  clear hr hs
  unfold recC zeroC at *
  go_enter Try.func40, Try.ntmps40
  go_upto_region 1 with fail
  generalize World.alloc _ _ = w0 at hb0 hz0 hk0 hr0 hsz0 ⊢
  obtain ⟨bo, hbo⟩ : ∃ b, b = w.heap.size := ⟨_, rfl⟩
  rw [← hbo] at hb0 hz0 ⊢
  have HBO := hide hbo
  clear hbo
  have hd : Chg Non w0 w0.drew := (Chg.refl Non w0).drew
  have hb1 := hb0.c0 hd
  have hr1 := hr0.c0 hd
  obtain ⟨xs0, hx0, hV1, hE1⟩ := hr1.ws
  obtain ⟨ys0, hy0, hV2, hE2⟩ := hr1.rs
  have hV1 : RdV w0.drew _ 3 (.slice A1 n1 k1) x.ws.length (flW xs0 x.ws) := hV1
  have hV2 : RdV w0.drew _ 3 (.slice A2 n2 k2) x.rs.length (flW ys0 x.rs) := hV2
  have hE1 : Olds w0.drew _ xs0 x.ws := hE1
  have hE2 : Olds w0.drew _ ys0 x.rs := hE2
  have hV3 : RdV w0.drew _ 1 (.slice A3 n3 k3) x.shards.length _ := hr1.sh
  have hV4 := hr1.rep
  have hon1 := pcs_one hx0 hE1
  have hon2 := pcs_one hy0 hE2
  have hon3 : ∀ u ∈ x.shards.map (fun n => Value.int .i64 n), u.oneCell' = true := fun y hy => by obtain ⟨m, _, rfl⟩ := List.mem_map.1 hy; rfl
  have hw1 : x.ws.length ≤ 1000000000000 := by have := HSM.out.wn; omega
  have hw2 : x.rs.length ≤ 1000000000000 := by have := HSM.out.rn; omega
  have hw3 : x.shards.length ≤ 1000000000000 := by have := HSM.out.sh; omega
  have hw4 : x.reply.length ≤ 140737488355328 := by have := HSM.out.rep; omega
  have HB := hide hb1
  have HON := hide (And.intro hon1 (And.intro hon2 hon3))
  have HV := hide (And.intro hV1 (And.intro hV2 (And.intro hV3 hV4)))
  have HE := hide (And.intro hE1 hE2)
  have hcur := Chg.refl Non w0.drew
  clear hb1 hb0 hr0 hr1 hon1 hon2 hon3 hV1 hV2 hV3 hV4 hE1 hE2
  refine wp_region_T (Chg Non w0.drew) 12 (by kernel_rfl) ?_
  have HS := hide (Chg.refl Non w0.drew)
  refine AnyT.take (i := 0) (v := ?_) rfl (by kernel_rfl) (by kernel_rfl) (fun _ _ _ h => h) (by kernel_rfl) (by kernel_rfl) (Or.inl ⟨by rfl, ?_⟩) HS.out ?_
  rotate_left
  · (intro w9 h9; go_simp; try with_reducible rfl)
  try simp only [List.getElem_toArray, List.getElem_cons_succ, List.getElem_cons_zero, Act.put, List.setIfInBounds_toArray, List.set_cons_zero, List.set_cons_succ]
  refine AnyT.take (i := 1) (v := ?_) rfl (by kernel_rfl) (by kernel_rfl) (fun _ _ _ h => h) (by kernel_rfl) (by kernel_rfl) (Or.inl ⟨by rfl, ?_⟩) HS.out ?_
  rotate_left
  · (intro w9 h9; have y4 : w9.cell? ⟨bo, 4, none⟩ = some (.slice A1 n1 k1) := (HB.out.c0 h9).cell 4; go_simp; try with_reducible rfl)
  try simp only [List.getElem_toArray, List.getElem_cons_succ, List.getElem_cons_zero, Act.put, List.setIfInBounds_toArray, List.set_cons_zero, List.set_cons_succ]
  refine AnyT.take (i := 3) (v := ?_) rfl (by kernel_rfl) (by kernel_rfl) (fun _ _ _ h => h) (by kernel_rfl) (by kernel_rfl) (Or.inl ⟨by rfl, ?_⟩) HS.out ?_
  rotate_left
  · (intro w9 h9; go_simp; try with_reducible rfl)
  try simp only [List.getElem_toArray, List.getElem_cons_succ, List.getElem_cons_zero, Act.put, List.setIfInBounds_toArray, List.set_cons_zero, List.set_cons_succ]
  refine AnyT.take (i := 4) (v := ?_) rfl (by kernel_rfl) (by kernel_rfl) (fun _ _ _ h => h) (by kernel_rfl) (by kernel_rfl) (Or.inl ⟨by rfl, ?_⟩) HS.out ?_
  rotate_left
  · (intro w9 h9; have y5 : w9.cell? ⟨bo, 5, none⟩ = some (.slice A2 n2 k2) := (HB.out.c0 h9).cell 5; go_simp; try with_reducible rfl)
  try simp only [List.getElem_toArray, List.getElem_cons_succ, List.getElem_cons_zero, Act.put, List.setIfInBounds_toArray, List.set_cons_zero, List.set_cons_succ]
  refine AnyT.take (i := 6) (v := ?_) rfl (by kernel_rfl) (by kernel_rfl) (fun _ _ _ h => h) (by kernel_rfl) (by kernel_rfl) (Or.inl ⟨by rfl, ?_⟩) HS.out ?_
  rotate_left
  · (intro w9 h9; go_simp; try with_reducible rfl)
  try simp only [List.getElem_toArray, List.getElem_cons_succ, List.getElem_cons_zero, Act.put, List.setIfInBounds_toArray, List.set_cons_zero, List.set_cons_succ]
  refine AnyT.take (i := 7) (v := ?_) rfl (by kernel_rfl) (by kernel_rfl) (fun _ _ _ h => h) (by kernel_rfl) (by kernel_rfl) (Or.inl ⟨by rfl, ?_⟩) HS.out ?_
  rotate_left
  · (intro w9 h9; have y7 : w9.cell? ⟨bo, 7, none⟩ = some (.slice A3 n3 k3) := (HB.out.c0 h9).cell 7; go_simp; try with_reducible rfl)
  try simp only [List.getElem_toArray, List.getElem_cons_succ, List.getElem_cons_zero, Act.put, List.setIfInBounds_toArray, List.set_cons_zero, List.set_cons_succ]
  refine AnyT.take (i := 9) (v := ?_) rfl (by kernel_rfl) (by kernel_rfl) (fun _ _ _ h => h) (by kernel_rfl) (by kernel_rfl) (Or.inl ⟨by rfl, ?_⟩) HS.out ?_
  rotate_left
  · (intro w9 h9; go_simp; try with_reducible rfl)
  try simp only [List.getElem_toArray, List.getElem_cons_succ, List.getElem_cons_zero, Act.put, List.setIfInBounds_toArray, List.set_cons_zero, List.set_cons_succ]
  refine AnyT.take (i := 10) (v := ?_) rfl (by kernel_rfl) (by kernel_rfl) (fun _ _ _ h => h) (by kernel_rfl) (by kernel_rfl) (Or.inl ⟨by rfl, ?_⟩) HS.out ?_
  rotate_left
  · (intro w9 h9; have y8 : w9.cell? ⟨bo, 8, none⟩ = some (.slice A4 n4 k4) := (HB.out.c0 h9).cell 8; go_simp; try with_reducible rfl)
  try simp only [List.getElem_toArray, List.getElem_cons_succ, List.getElem_cons_zero, Act.put, List.setIfInBounds_toArray, List.set_cons_zero, List.set_cons_succ]
  refine AnyT.one (i := 2) (by kernel_rfl) rfl (fun K hK => ?_)
  go_simp
  go_wp2_with (go_at_call 59; refine (cloneW HV.out.1 HON.out.1 hw1).mono ?_; rintro e w1 ⟨u1, rfl, hu1, hc1⟩; obtain ⟨Q1, q1, d1, rfl⟩ := row_sl hu1)
  have HS' := hide (HS.out.trans0 hc1)
  clear HS
  have HS := HS'
  clear HS'
  refine hK.out _ _ (fun _ => HS.out) ?_
  clear hK K
  try simp only [List.getElem_toArray, List.getElem_cons_succ, List.getElem_cons_zero, Act.put, List.setIfInBounds_toArray, List.set_cons_zero, List.set_cons_succ]
  refine AnyT.takeL (i := 12) (v := ?_) rfl (by kernel_rfl) (by kernel_rfl) (fun _ _ _ h => h) (by kernel_rfl) (by kernel_rfl) (Or.inl ⟨by rfl, ?_⟩) ?_
  rotate_left
  · (intro w9; go_simp; try with_reducible rfl)
  try simp only [List.getElem_toArray, List.getElem_cons_succ, List.getElem_cons_zero, Act.put, List.setIfInBounds_toArray, List.set_cons_zero, List.set_cons_succ]
  refine AnyT.one (i := 5) (by kernel_rfl) rfl (fun K hK => ?_)
  go_simp
  go_wp2_with (go_at_call 60; refine (cloneR (HV.out.2.1.chg HS.out (fun _ _ h => h)) HON.out.2.1 hw2).mono ?_; rintro e w2 ⟨u2, rfl, hu2, hc2⟩; obtain ⟨Q2, q2, d2, rfl⟩ := row_sl hu2)
  have HS' := hide (HS.out.trans0 hc2)
  clear HS
  have HS := HS'
  clear HS'
  refine hK.out _ _ (fun _ => HS.out) ?_
  clear hK K
  try simp only [List.getElem_toArray, List.getElem_cons_succ, List.getElem_cons_zero, Act.put, List.setIfInBounds_toArray, List.set_cons_zero, List.set_cons_succ]
  refine AnyT.one (i := 8) (by kernel_rfl) rfl (fun K hK => ?_)
  go_simp
  go_wp2_with (go_at_call 61; refine (cloneI (HV.out.2.2.1.chg HS.out (fun _ _ h => h)) HON.out.2.2 hw3).mono ?_; rintro e w3 ⟨u3, rfl, hu3, hc3⟩; obtain ⟨Q3, q3, d3, rfl⟩ := row_sl hu3)
  have HS' := hide (HS.out.trans0 hc3)
  clear HS
  have HS := HS'
  clear HS'
  refine hK.out _ _ (fun _ => HS.out) ?_
  clear hK K
  try simp only [List.getElem_toArray, List.getElem_cons_succ, List.getElem_cons_zero, Act.put, List.setIfInBounds_toArray, List.set_cons_zero, List.set_cons_succ]
  refine AnyT.one (i := 11) (by kernel_rfl) rfl (fun K hK => ?_)
  go_simp
  go_wp2_with (go_at_call 62; refine (bytesClone (HV.out.2.2.2.c0 HS.out) hw4).mono ?_; rintro e w4 ⟨u4, rfl, hu4, hc4⟩; obtain ⟨Q4, q4, d4, rfl⟩ := hu4.sl)
  have HS' := hide (HS.out.trans0 hc4)
  clear HS
  have HS := HS'
  clear HS'
  refine hK.out _ _ (fun _ => HS.out) ?_
  clear hK K
  try simp only [List.getElem_toArray, List.getElem_cons_succ, List.getElem_cons_zero, Act.put, List.setIfInBounds_toArray, List.set_cons_zero, List.set_cons_succ]
  have hb4 := HB.out.c0 HS.out
  obtain ⟨c0, c1, c2, c3, c4, c5, c6, c7, c8, c9, c10⟩ := rblk hb4
  obtain ⟨f0, f1, f2, f3, f4, f5, f6, f7, f8, f9, f10⟩ := rfrz hb4
  refine AnyT.one (i := 13) (by kernel_rfl) rfl (fun K hK => ?_)
  go_simp
  refine hK.out _ _ (fun h => absurd h (by decide)) ?_
  clear hK K
  try simp only [List.getElem_toArray, List.getElem_cons_succ, List.getElem_cons_zero, Act.put, List.setIfInBounds_toArray, List.set_cons_zero, List.set_cons_succ]
  refine AnyT.one (i := 14) (by kernel_rfl) rfl (fun K hK => ?_)
  go_simp
  refine hK.out _ _ (fun h => absurd h (by decide)) ?_
  clear hK K
  try simp only [List.getElem_toArray, List.getElem_cons_succ, List.getElem_cons_zero, Act.put, List.setIfInBounds_toArray, List.set_cons_zero, List.set_cons_succ]
  refine AnyT.one (i := 15) (by kernel_rfl) rfl (fun K hK => ?_)
  go_simp
  refine hK.out _ _ (fun h => absurd h (by decide)) ?_
  clear hK K
  try simp only [List.getElem_toArray, List.getElem_cons_succ, List.getElem_cons_zero, Act.put, List.setIfInBounds_toArray, List.set_cons_zero, List.set_cons_succ]
  refine AnyT.one (i := 16) (by kernel_rfl) rfl (fun K hK => ?_)
  go_simp
  refine hK.out _ _ (fun h => absurd h (by decide)) ?_
  clear hK K
  try simp only [List.getElem_toArray, List.getElem_cons_succ, List.getElem_cons_zero, Act.put, List.setIfInBounds_toArray, List.set_cons_zero, List.set_cons_succ]
  refine AnyT.one (i := 17) (by kernel_rfl) rfl (fun K hK => ?_)
  go_simp
  refine hK.out _ _ (fun h => absurd h (by decide)) ?_
  clear hK K
  try simp only [List.getElem_toArray, List.getElem_cons_succ, List.getElem_cons_zero, Act.put, List.setIfInBounds_toArray, List.set_cons_zero, List.set_cons_succ]
  refine AnyT.one (i := 18) (by kernel_rfl) rfl (fun K hK => ?_)
  go_simp
  refine hK.out _ _ (fun h => absurd h (by decide)) ?_
  clear hK K
  try simp only [List.getElem_toArray, List.getElem_cons_succ, List.getElem_cons_zero, Act.put, List.setIfInBounds_toArray, List.set_cons_zero, List.set_cons_succ]
  refine AnyT.one (i := 19) (by kernel_rfl) rfl (fun K hK => ?_)
  go_simp
  refine hK.out _ _ (fun h => absurd h (by decide)) ?_
  clear hK K
  try simp only [List.getElem_toArray, List.getElem_cons_succ, List.getElem_cons_zero, Act.put, List.setIfInBounds_toArray, List.set_cons_zero, List.set_cons_succ]
  refine AnyT.nil (by kernel_rfl) ?_
  have hs6 := (((hb4.set_ 4 (.slice Q1 q1 d1)).set_ 5 (.slice Q2 q2 d2)).set_ 7 (.slice Q3 q3 d3)).set_ 8 (.slice Q4 q4 d4)
  simp only [List.setIfInBounds_toArray, List.set_cons_succ, List.set_cons_zero] at hs6
  have hc6 : Chg (fun k => k = bo) w4 ((((w4.setCell ⟨bo, 4, none⟩ (.slice Q1 q1 d1)).setCell ⟨bo, 5, none⟩ (.slice Q2 q2 d2)).setCell ⟨bo, 7, none⟩ (.slice Q3 q3 d3)).setCell ⟨bo, 8, none⟩ (.slice Q4 q4 d4)) := (((((Chg.refl (fun k => k = bo) w4).setCell (p := ⟨bo, 4, none⟩) (fun _ => rfl) _).setCell (p := ⟨bo, 5, none⟩) (fun _ => rfl) _).setCell (p := ⟨bo, 7, none⟩) (fun _ => rfl) _).setCell (p := ⟨bo, 8, none⟩) (fun _ => rfl) _)
  generalize World.setCell _ _ _ = wc at hs6 hc6 ⊢
  clear c0 c1 c2 c3 c4 c5 c6 c7 c8 c9 c10 f0 f1 f2 f3 f4 f5 f6 f7 f8 f9 f10 hb4
  have hz1 := hz0.c0 (hd.trans0 HS.out)
  have hct := (hd.trans0 HS.out)
  have hbw : bo < w0.heap.size := by have := HBO.out; omega
  have hd0 : w0.drew.heap.size = w0.heap.size := rfl
  have hz2 := hz1.chg hc6 (fun (e : bo + 1 = bo) => by omega)
  have hfar : ∀ (u : Value) (n sz : Nat) (t : TypeId) (b : Nat) (wz : World) (l : List Value), wz.ownsRow b t sz u n l → w0.heap.size ≤ b → ∀ k, u.ownBlock = some k → ¬ (k = bo) := fun u n sz t b wz l h hb k hk e => by have := (World.ownsRow.lt h k hk).1; omega
  have g1 := hc1.size
  have g2 := hc2.size
  have g3 := hc3.size
  have g4 := hc4.size
  have g6 := hc6.size
  have row1 := row_low (row_chg (row_chg hu1 ((hc2.trans0 hc3).trans0 hc4) (fun _ _ h => h)) hc6 (hfar _ _ _ _ _ _ _ hu1 (by omega))) (show w0.heap.size ≤ w0.drew.heap.size by omega)
  have row2 := row_low (row_chg (row_chg hu2 (hc3.trans0 hc4) (fun _ _ h => h)) hc6 (hfar _ _ _ _ _ _ _ hu2 (by omega))) (show w0.heap.size ≤ w1.heap.size by omega)
  have row3 := row_low (row_chg (row_chg hu3 hc4 (fun _ _ h => h)) hc6 (hfar _ _ _ _ _ _ _ hu3 (by omega))) (show w0.heap.size ≤ w2.heap.size by omega)
  have rep := (hu4.chg hc6 (hfar _ _ _ _ _ _ _ hu4 (by omega))).low (show w0.heap.size ≤ w3.heap.size by omega)
  have hcc : Chg (fun k => k = bo) w0.drew wc := (chgN HS.out).trans hc6 (fun _ _ h => h)
  have old1 := HE.out.1.chg hcc (fun k hk (e : k = bo) => by have := hk.2; have := HBO.out; omega)
  have old2 := HE.out.2.chg hcc (fun k hk (e : k = bo) => by have := hk.2; have := HBO.out; omega)
  have hcz : Chg (fun k => k = bo) w0 wc := (chgN hd).trans hcc (fun _ _ h => h)
  have hszc := hcz.size
  have m1 : q1 = x.ws.length := by obtain ⟨A', c', e, _, _⟩ := RdV.shape (RdV.of_own row1); injection e
  have m2 : q2 = x.rs.length := by obtain ⟨A', c', e, _, _⟩ := RdV.shape (RdV.of_own row2); injection e
  have HM := hide (And.intro m1 m2)
  clear m1 m2 hfar g1 g2 g3 g4 g6 hu1 hu2 hu3 hu4 hc1 hc2 hc3 hc4 hc6 hcc hct hz1 hz0 HS HE HV HON HB hcur hd hw1 hw2 hw3 hw4
  obtain ⟨c0, c1, c2, c3, c4, c5, c6, c7, c8, c9, c10⟩ := rblk hs6
  go_wp2_with fail
  clear c0 c1 c2 c3 c4 c5 c6 c7 c8 c9 c10
  go_loopw [26] (fun iv wr => ∃ (l1 l2 : List WrS) (xs1 xs2 : List (Value × Value)), iv = .int .i64 (l1.length : Int) ∧ Hid (x.ws = l1 ++ l2) ∧ xs1.length = l1.length ∧ xs2.length = l2.length ∧ wr.ownsRow w0.heap.size 49 3 (Value.slice Q1 q1 d1) x.ws.length (flW xs1 l1 ++ flW xs2 l2) ∧ Hid (Olds wr (fun k => F k ∧ k < w.heap.size) xs2 l2) ∧ OwnPs wr wc.heap.size (pcW xs1 l1) ∧ Chg (fun k => some k = (Value.slice Q1 q1 d1).ownBlock) wc wr) (fun iv _ => x.ws.length - (intOf iv).toNat)
  case atStart => exact ⟨[], x.ws, [], xs0, rfl, hide rfl, rfl, hx0, row1, hide old1, OwnPs.nil_ _ _, Chg.refl _ _⟩
  case round =>
    obtain ⟨l1, l2, xs1, xs2, rfl, HL, hx1, hx2, hrow, HO, hps, hcw⟩ := hrel
    have hlen : x.ws.length = l1.length + l2.length := by rw [HL.out, List.length_append]
    have hm : q1 = x.ws.length := HM.out.1
    rcases l2 with _ | ⟨y, l2⟩
    · have hL : l1 = x.ws := by have := HL.out; simpa using this.symm
      have hxe : xs2 = [] := List.eq_nil_of_length_eq_zero hx2
      subst hL; subst hxe
      have hge : ¬ ((x.ws.length : Int) < (q1 : Int)) := by omega
      clear hlen hm HL
      have rowA : wr.ownsRow w0.heap.size 49 3 (.slice Q1 q1 d1) x.ws.length (flW xs1 x.ws) := by simpa [flW] using hrow
      have hneU : ∀ (k : Nat), some k = (Value.slice Q1 q1 d1).ownBlock → w0.heap.size ≤ k := fun k e => (World.ownsRow.lt rowA k e.symm).1
      have hbB := hs6.chg hcw (fun e => own_ne row1 hs6 (by decide) bo e.symm rfl)
      have hzB := hz2.chg hcw (fun e => own_ne row1 hz2 (by decide) (bo + 1) e.symm rfl)
      have rowB := row_chg row2 hcw (own_ne2 row2 row1 (by decide))
      have row3B := row_chg row3 hcw (own_ne2 row3 row1 (by decide))
      have repB := rep.chg hcw (own_ne2 rep row1 (by decide))
      have old2B := old2.chg hcw (fun k hk e => by have := hneU k e; have := hk.2; have := HBO.out; omega)
      have hcB := hcz.trans hcw (fun k hk e => by have := hneU k e; omega)
      have hcBs := hcw.size
      have hpA := hps
      have hxA := hx1
      obtain ⟨xsA, hxsA⟩ : ∃ z, z = xs1 := ⟨_, rfl⟩
      rw [← hxsA] at rowA hpA hxA
      clear hps hcw hrow HO hx1 hx2 hxsA hneU
      obtain ⟨c0, c1, c2, c3, c4, c5, c6, c7, c8, c9, c10⟩ := rblk hbB
      obtain ⟨wb, rfl⟩ : ∃ b, b = wr := ⟨_, rfl⟩
      go_wp2_with fail
      clear c0 c1 c2 c3 c4 c5 c6 c7 c8 c9 c10 hge
      go_loopw [51] (fun iv wr => ∃ (l1 l2 : List WrS) (xs1 xs2 : List (Value × Value)), iv = .int .i64 (l1.length : Int) ∧ Hid (x.rs = l1 ++ l2) ∧ xs1.length = l1.length ∧ xs2.length = l2.length ∧ wr.ownsRow w0.heap.size 63 3 (Value.slice Q2 q2 d2) x.rs.length (flW xs1 l1 ++ flW xs2 l2) ∧ Hid (Olds wr (fun k => F k ∧ k < w.heap.size) xs2 l2) ∧ OwnPs wr wb.heap.size (pcW xs1 l1) ∧ Chg (fun k => some k = (Value.slice Q2 q2 d2).ownBlock) wb wr) (fun iv _ => x.rs.length - (intOf iv).toNat)
      case atStart => exact ⟨[], x.rs, [], ys0, rfl, hide rfl, rfl, hy0, rowB, hide old2B, OwnPs.nil_ _ _, Chg.refl _ _⟩
      case round =>
        obtain ⟨l1, l2, xs1, xs2, rfl, HL, hx1, hx2, hrow, HO, hps, hcw⟩ := hrel
        have hlen : x.rs.length = l1.length + l2.length := by rw [HL.out, List.length_append]
        have hm : q2 = x.rs.length := HM.out.2
        rcases l2 with _ | ⟨y, l2⟩
        · have hL : l1 = x.rs := by have := HL.out; simpa using this.symm
          have hxe : xs2 = [] := List.eq_nil_of_length_eq_zero hx2
          subst hL; subst hxe
          have hge : ¬ ((x.rs.length : Int) < (q2 : Int)) := by omega
          clear hlen hm HL
          have rowR : wr.ownsRow w0.heap.size 63 3 (.slice Q2 q2 d2) x.rs.length (flW xs1 x.rs) := by simpa [flW] using hrow
          have hneU : ∀ (k : Nat), some k = (Value.slice Q2 q2 d2).ownBlock → w0.heap.size ≤ k := fun k e => (World.ownsRow.lt rowR k e.symm).1
          have hbC := hbB.chg hcw (fun e => own_ne rowB hbB (by decide) bo e.symm rfl)
          have hzC := hzB.chg hcw (fun e => own_ne rowB hzB (by decide) (bo + 1) e.symm rfl)
          have rowA2 := row_chg rowA hcw (own_ne2 rowA rowB (by decide))
          have row3C := row_chg row3B hcw (own_ne2 row3B rowB (by decide))
          have repC := repB.chg hcw (own_ne2 repB rowB (by decide))
          have hpA2 := hpA.chg' hcw (fun p hp k hk => own_ne2 (hpA.1 p hp) rowB (by decide) k hk)
          have hcC := hcB.trans hcw (fun k hk e => by have := hneU k e; omega)
          have HPS := hide (And.intro hps hpA2)
          have HRO := hide (And.intro rowA2 (And.intro rowR (And.intro row3C repC)))
          have HXL := hide (And.intro hxA hx1)
          have hlA := hpA.lt
          have hlR := rep.lt
          have hs1 := hcBs
          have hwb := hcw.size
          clear hps hpA hpA2 rowA rowA2 rowB rowR row3B row3C repB repC hcw hrow HO hx1 hxA hx2
          obtain ⟨a0, a1, a2, a3, a4, a5, a6, a7, a8, a9, a10⟩ := rblk hbC
          obtain ⟨z0, z1, z2, z3, z4, z5, z6, z7, z8, z9, z10⟩ := rblk hzC
          obtain ⟨f0, f1, f2, f3, f4, f5, f6, f7, f8, f9, f10⟩ := rfrz hzC
          obtain ⟨hB9, hC9⟩ := rput hzC (.int .i64 x.kind) (.int .u64 (x.boot : Int)) (.int .u64 (x.sess : Int)) (.int .u64 (x.seq : Int)) (.slice Q1 q1 d1) (.slice Q2 q2 d2) (.bool x.commit) (.slice Q3 q3 d3) (.slice Q4 q4 d4) (.int .u64 (x.id : Int)) (.string x.name)
          clear hbC hzC
          go_wp2_with fail
          generalize World.setCell _ _ _ = wz at hB9 hC9 ⊢
          clear a0 a1 a2 a3 a4 a5 a6 a7 a8 a9 a10 z0 z1 z2 z3 z4 z5 z6 z7 z8 z9 z10 f0 f1 f2 f3 f4 f5 f6 f7 f8 f9 f10
          obtain ⟨a0, a1, a2, a3, a4, a5, a6, a7, a8, a9, a10⟩ := rblk hB9
          refine bodyPost_ret (v := .agg #[.int .i64 x.kind, .int .u64 (x.boot : Int), .int .u64 (x.sess : Int), .int .u64 (x.seq : Int), .slice Q1 q1 d1, .slice Q2 q2 d2, .bool x.commit, .slice Q3 q3 d3, .slice Q4 q4 d4, .int .u64 (x.id : Int), .string x.name]) (by simp [results, Try.results40, go_sem, a0, a1, a2, a3, a4, a5, a6, a7, a8, a9, a10]) rfl ?_
          obtain ⟨ra, rr, rs3, rb⟩ := HRO.out
          obtain ⟨pb, pa⟩ := HPS.out
          have hbo := HBO.out
          have hne9 : ∀ (k : Nat), w0.heap.size ≤ k → ¬ (k = bo + 1) := fun k h e => by omega
          have rb9 := rb.chg hC9 (fun k hk => hne9 k (rb.lt k hk).1)
          have pa9 := pa.chg hC9 (fun k hk _ (e : k = bo + 1) => by omega)
          have pb9 := pb.chg hC9 (fun k hk _ (e : k = bo + 1) => by omega)
          have hlow : w.heap.size ≤ w0.heap.size := by omega
          refine ⟨_, _, _, _, rfl, ⟨xsA, xs1, HXL.out.1, HXL.out.2, row_low (row_chg ra hC9 fun k hk => hne9 k (World.ownsRow.lt ra k hk).1) hlow, row_low (row_chg rr hC9 fun k hk => hne9 k (World.ownsRow.lt rr k hk).1) hlow, row_low (row_chg rs3 hC9 fun k hk => hne9 k (World.ownsRow.lt rs3 k hk).1) hlow, ?_⟩, ?_⟩
          · refine OwnPs.perm (OwnPs.app (base := w.heap.size) (m := wc.heap.size) (OwnPs.one rb9) (OwnPs.app (base := wc.heap.size) (m := wb.heap.size) pa9 pb9 hlA (Nat.le_refl _) (Nat.le_refl _) hs1) ?_ (Nat.le_refl _) (by omega) (by omega)) List.perm_append_comm
            intro p hp k hk
            simp at hp
            subst hp
            exact (hlR k hk).2
          · exact (hk0.trans hcC (fun k hk (e : k = bo) => by omega)).trans hC9 (fun k hk (e : k = bo + 1) => by omega)
        · rcases xs2 with _ | ⟨x0, xs2⟩
          · simp at hx2
          · simp only [List.length_cons] at hlen hx2
            have h1 : l1.length < q2 := by omega
            obtain ⟨g, cg, e, hgb, hgl, hfr⟩ := row_some hrow (by omega)
            injection e with e1 e2 e3
            clear e2 e3
            obtain ⟨ad, had⟩ : ∃ ad : Addr, ad = ⟨g, 0, none⟩ := ⟨_, rfl⟩
            rw [← had] at e1
            subst e1
            have HA := hide had
            clear had
            obtain ⟨rp, rq, ho2⟩ := HO.out.tl
            have HO2 := hide ho2
            rw [flW_cons] at hrow
            have hA3 : (flW xs1 l1).length = l1.length * 3 := flW_len xs1 l1 hx1
            obtain ⟨c1, c2, c3, _, _⟩ := row_at hrow hA3
            obtain ⟨p, q0⟩ := x0
            obtain ⟨P, np, cp, rfl⟩ := rp.sl
            obtain ⟨R, nq, cq, rfl⟩ := rq.sl
            simp only at c1 c2 rp rq hrow
            obtain ⟨f, hf⟩ : ∃ f, f = y.f := ⟨_, rfl⟩
            rw [← hf] at c3 hrow
            have hyL : y ∈ x.rs := by rw [HL.out]; simp
            have hla : y.a.length ≤ 140737488355328 := by have := triW_le hyL; have := HSM.out.rs; omega
            have hlb : y.b.length ≤ 140737488355328 := by have := triW_le hyL; have := HSM.out.rs; omega
            have h1i : (l1.length : Int) < (q2 : Int) := by omega
            have h0i : (0 : Int) ≤ (l1.length : Int) := by omega
            have h9 : l1.length ≤ 1048576 := by have := HSM.out.rn; omega
            have hs0 := hcw.size
            have hbr := hbB.chg hcw (fun e => own_ne rowB hbB (by decide) bo e.symm rfl)
            have HLEN := hide hlen
            have HF := hide hf
            have HROW := hide hrow
            have HA3 := hide hA3
            have HX := hide (And.intro hx1 hx2)
            have HMM := hide hm
            clear hf hlen hyL hm hx1 hx2 ho2 HO hrow hA3
            go_wp2_with fail
            have hBX := Blk.new wr 63 #[.slice P np cp, .slice R nq cq, .bool f]
            have hcA := (Chg.refl Non wr).alloc (.cells #[.slice P np cp, .slice R nq cq, .bool f] 63)
            obtain ⟨bx, hbx⟩ : ∃ bx, bx = wr.heap.size := ⟨_, rfl⟩
            rw [← hbx] at hBX ⊢
            generalize World.alloc _ _ = wA at hBX hcA ⊢
            have hgx : g ≠ bx := by omega
            clear c1 c2 c3 hbx
            obtain ⟨S, hSd⟩ : ∃ S : World → Prop, ∀ w', S w' ↔ (Blk w' bo 32 #[.int .i64 x.kind, .int .u64 (x.boot : Int), .int .u64 (x.sess : Int), .int .u64 (x.seq : Int), .slice Q1 q1 d1, .slice (some ad) q2 d2, .bool x.commit, .slice Q3 q3 d3, .slice Q4 q4 d4, .int .u64 (x.id : Int), .string x.name] ∧ Blk w' bx 63 #[.slice P np cp, .slice R nq cq, .bool f]) := ⟨_, fun _ => Iff.rfl⟩
            have HSd := hide hSd
            have HS := hide ((hSd wA.drew).2 ⟨(hbr.c0 hcA).c0 (Chg.refl Non wA).drew, hBX.c0 (Chg.refl Non wA).drew⟩)
            have hcD : Chg Non wr wA.drew := hcA.drew
            have rp := rp.c0 hcD
            have rq := rq.c0 hcD
            clear hSd hbr hBX
            refine wp_region_T S 99 (by kernel_rfl) ?_
            refine AnyT.take (i := 0) (v := ?_) rfl (by kernel_rfl) (by kernel_rfl) (fun _ _ _ h => h) (by kernel_rfl) (by kernel_rfl) (Or.inl ⟨by rfl, ?_⟩) HS.out ?_
            rotate_left
            · (intro w9 h9; go_simp; try with_reducible rfl)
            try simp only [List.getElem_toArray, List.getElem_cons_succ, List.getElem_cons_zero, Act.put, List.setIfInBounds_toArray, List.set_cons_zero, List.set_cons_succ]
            refine AnyT.take (i := 1) (v := ?_) rfl (by kernel_rfl) (by kernel_rfl) (fun _ _ _ h => h) (by kernel_rfl) (by kernel_rfl) (Or.inl ⟨by rfl, ?_⟩) HS.out ?_
            rotate_left
            · (intro w9 h9; have y0 : w9.cell? ⟨bo, 5, none⟩ = some (.slice (some ad) q2 d2) := ((HSd.out _).1 h9).1.cell 5; go_simp; try with_reducible rfl)
            try simp only [List.getElem_toArray, List.getElem_cons_succ, List.getElem_cons_zero, Act.put, List.setIfInBounds_toArray, List.set_cons_zero, List.set_cons_succ]
            refine AnyT.take (i := 2) (v := ?_) rfl (by kernel_rfl) (by kernel_rfl) (fun _ _ _ h => h) (by kernel_rfl) (by kernel_rfl) (Or.inl ⟨by rfl, ?_⟩) HS.out ?_
            rotate_left
            · (intro w9 h9; go_simp; try with_reducible rfl)
            try simp only [List.getElem_toArray, List.getElem_cons_succ, List.getElem_cons_zero, Act.put, List.setIfInBounds_toArray, List.set_cons_zero, List.set_cons_succ]
            refine AnyT.take (i := 3) (v := ?_) rfl (by kernel_rfl) (by kernel_rfl) (fun _ _ _ h => h) (by kernel_rfl) (by kernel_rfl) (Or.inl ⟨by rfl, ?_⟩) HS.out ?_
            rotate_left
            · (intro w9 h9; go_simp; try with_reducible rfl)
            try simp only [List.getElem_toArray, List.getElem_cons_succ, List.getElem_cons_zero, Act.put, List.setIfInBounds_toArray, List.set_cons_zero, List.set_cons_succ]
            refine AnyT.take (i := 4) (v := ?_) rfl (by kernel_rfl) (by kernel_rfl) (fun _ _ _ h => h) (by kernel_rfl) (by kernel_rfl) (Or.inl ⟨by rfl, ?_⟩) HS.out ?_
            rotate_left
            · (intro w9 h9; have y0 : w9.cell? ⟨bo, 5, none⟩ = some (.slice (some ad) q2 d2) := ((HSd.out _).1 h9).1.cell 5; go_simp; try with_reducible rfl)
            try simp only [List.getElem_toArray, List.getElem_cons_succ, List.getElem_cons_zero, Act.put, List.setIfInBounds_toArray, List.set_cons_zero, List.set_cons_succ]
            refine AnyT.take (i := 5) (v := ?_) rfl (by kernel_rfl) (by kernel_rfl) (fun _ _ _ h => h) (by kernel_rfl) (by kernel_rfl) (Or.inl ⟨by rfl, ?_⟩) HS.out ?_
            rotate_left
            · (intro w9 h9; go_simp; try with_reducible rfl)
            try simp only [List.getElem_toArray, List.getElem_cons_succ, List.getElem_cons_zero, Act.put, List.setIfInBounds_toArray, List.set_cons_zero, List.set_cons_succ]
            refine AnyT.take (i := 6) (v := ?_) rfl (by kernel_rfl) (by kernel_rfl) (fun _ _ _ h => h) (by kernel_rfl) (by kernel_rfl) (Or.inl ⟨by rfl, ?_⟩) HS.out ?_
            rotate_left
            · (intro w9 h9; go_simp; try with_reducible rfl)
            try simp only [List.getElem_toArray, List.getElem_cons_succ, List.getElem_cons_zero, Act.put, List.setIfInBounds_toArray, List.set_cons_zero, List.set_cons_succ]
            refine AnyT.take (i := 7) (v := ?_) rfl (by kernel_rfl) (by kernel_rfl) (fun _ _ _ h => h) (by kernel_rfl) (by kernel_rfl) (Or.inl ⟨by rfl, ?_⟩) HS.out ?_
            rotate_left
            · (intro w9 h9; have z0 : w9.cell? ⟨bx, 0, none⟩ = some (.slice P np cp) := ((HSd.out _).1 h9).2.cell 0; go_simp; try with_reducible rfl)
            try simp only [List.getElem_toArray, List.getElem_cons_succ, List.getElem_cons_zero, Act.put, List.setIfInBounds_toArray, List.set_cons_zero, List.set_cons_succ]
            refine AnyT.take (i := 9) (v := ?_) rfl (by kernel_rfl) (by kernel_rfl) (fun _ _ _ h => h) (by kernel_rfl) (by kernel_rfl) (Or.inl ⟨by rfl, ?_⟩) HS.out ?_
            rotate_left
            · (intro w9 h9; go_simp; try with_reducible rfl)
            try simp only [List.getElem_toArray, List.getElem_cons_succ, List.getElem_cons_zero, Act.put, List.setIfInBounds_toArray, List.set_cons_zero, List.set_cons_succ]
            refine AnyT.take (i := 10) (v := ?_) rfl (by kernel_rfl) (by kernel_rfl) (fun _ _ _ h => h) (by kernel_rfl) (by kernel_rfl) (Or.inl ⟨by rfl, ?_⟩) HS.out ?_
            rotate_left
            · (intro w9 h9; have z1 : w9.cell? ⟨bx, 1, none⟩ = some (.slice R nq cq) := ((HSd.out _).1 h9).2.cell 1; go_simp; try with_reducible rfl)
            try simp only [List.getElem_toArray, List.getElem_cons_succ, List.getElem_cons_zero, Act.put, List.setIfInBounds_toArray, List.set_cons_zero, List.set_cons_succ]
            refine AnyT.one (i := 8) (by kernel_rfl) rfl (fun K hK => ?_)
            go_simp
            go_wp2_with (go_at_call 62; refine (bytesClone rp hla).mono ?_; rintro e w1 ⟨ua, rfl, hu1, hc1⟩; obtain ⟨A1c, n1c, k1c, rfl⟩ := hu1.sl)
            have HS' := hide ((HSd.out w1).2 ⟨((HSd.out _).1 HS.out).1.c0 hc1, ((HSd.out _).1 HS.out).2.c0 hc1⟩)
            clear HS
            have HS := HS'
            clear HS'
            refine hK.out _ _ (fun _ => HS.out) ?_
            clear hK K
            try simp only [List.getElem_toArray, List.getElem_cons_succ, List.getElem_cons_zero, Act.put, List.setIfInBounds_toArray, List.set_cons_zero, List.set_cons_succ]
            refine AnyT.one (i := 11) (by kernel_rfl) rfl (fun K hK => ?_)
            go_simp
            go_wp2_with (go_at_call 62; refine (bytesClone (rq.c0 hc1) hlb).mono ?_; rintro e w2 ⟨ub, rfl, hu2, hc2⟩; obtain ⟨A2c, n2c, k2c, rfl⟩ := hu2.sl)
            have HS' := hide ((HSd.out w2).2 ⟨((HSd.out _).1 HS.out).1.c0 hc2, ((HSd.out _).1 HS.out).2.c0 hc2⟩)
            clear HS
            have HS := HS'
            clear HS'
            refine hK.out _ _ (fun _ => HS.out) ?_
            clear hK K
            try simp only [List.getElem_toArray, List.getElem_cons_succ, List.getElem_cons_zero, Act.put, List.setIfInBounds_toArray, List.set_cons_zero, List.set_cons_succ]
            have hcE := (hcD.trans0 hc1).trans0 hc2
            have hrow2 := row_chg HROW.out hcE (fun _ _ h => h)
            obtain ⟨c1, c2, c3, f1, f2⟩ := row_at hrow2 HA3.out
            have hblk : (ad.add (l1.length * 3)).block = g := by rw [HA.out, add_none]
            have HBLK := hide hblk
            clear hblk
            refine AnyT.one (i := 12) (by kernel_rfl) rfl (fun K hK => ?_)
            go_simp
            refine hK.out _ _ (fun _ => HS.out) ?_
            clear hK K
            try simp only [List.getElem_toArray, List.getElem_cons_succ, List.getElem_cons_zero, Act.put, List.setIfInBounds_toArray, List.set_cons_zero, List.set_cons_succ]
            refine AnyT.one (i := 13) (by kernel_rfl) rfl (fun K hK => ?_)
            go_simp
            refine hK.out _ _ (fun _ => HS.out) ?_
            clear hK K
            try simp only [List.getElem_toArray, List.getElem_cons_succ, List.getElem_cons_zero, Act.put, List.setIfInBounds_toArray, List.set_cons_zero, List.set_cons_succ]
            clear c3
            refine AnyT.one (i := 14) (by kernel_rfl) rfl (fun K hK => ?_)
            go_simp
            have hq14 : Chg (fun j => j = g) w2 (w2.setCell (ad.add (l1.length * 3)) (.slice A1c n1c k1c)) := (Chg.refl _ w2).setCell (p := (ad.add (l1.length * 3))) (fun _ => HBLK.out) _
            have hrow14 := row_put hrow2 HA3.out (.slice A1c n1c k1c)
            generalize w2.setCell (ad.add (l1.length * 3)) (.slice A1c n1c k1c) = w3 at hq14 hrow14 ⊢
            have HS' := hide ((HSd.out w3).2 ⟨((HSd.out _).1 HS.out).1.chg hq14 (fun (e : bo = g) => by omega), ((HSd.out _).1 HS.out).2.chg hq14 (fun (e : bx = g) => hgx e.symm)⟩)
            clear HS
            have HS := HS'
            clear HS'
            refine hK.out _ _ (fun _ => HS.out) ?_
            clear hK K
            try simp only [List.getElem_toArray, List.getElem_cons_succ, List.getElem_cons_zero, Act.put, List.setIfInBounds_toArray, List.set_cons_zero, List.set_cons_succ]
            clear c1 c2 f1 f2
            obtain ⟨c1, c2, c3, f1, f2⟩ := row_at hrow14 HA3.out
            clear c3
            refine AnyT.one (i := 15) (by kernel_rfl) rfl (fun K hK => ?_)
            go_simp
            refine hK.out _ _ (fun _ => HS.out) ?_
            clear hK K
            try simp only [List.getElem_toArray, List.getElem_cons_succ, List.getElem_cons_zero, Act.put, List.setIfInBounds_toArray, List.set_cons_zero, List.set_cons_succ]
            refine AnyT.one (i := 16) (by kernel_rfl) rfl (fun K hK => ?_)
            go_simp
            refine hK.out _ _ (fun _ => HS.out) ?_
            clear hK K
            try simp only [List.getElem_toArray, List.getElem_cons_succ, List.getElem_cons_zero, Act.put, List.setIfInBounds_toArray, List.set_cons_zero, List.set_cons_succ]
            refine AnyT.one (i := 17) (by kernel_rfl) rfl (fun K hK => ?_)
            go_simp
            have hq17 : Chg (fun j => j = g) w3 (w3.setCell ⟨(ad.add (l1.length * 3)).block, (ad.add (l1.length * 3)).off + 1, none⟩ (.slice A2c n2c k2c)) := (Chg.refl _ w3).setCell (p := ⟨(ad.add (l1.length * 3)).block, (ad.add (l1.length * 3)).off + 1, none⟩) (fun _ => HBLK.out) _
            have hrow17 := row_put2 hrow14 HA3.out (.slice A2c n2c k2c)
            generalize w3.setCell ⟨(ad.add (l1.length * 3)).block, (ad.add (l1.length * 3)).off + 1, none⟩ (.slice A2c n2c k2c) = w4 at hq17 hrow17 ⊢
            have HS' := hide ((HSd.out w4).2 ⟨((HSd.out _).1 HS.out).1.chg hq17 (fun (e : bo = g) => by omega), ((HSd.out _).1 HS.out).2.chg hq17 (fun (e : bx = g) => hgx e.symm)⟩)
            clear HS
            have HS := HS'
            clear HS'
            refine hK.out _ _ (fun _ => HS.out) ?_
            clear hK K
            try simp only [List.getElem_toArray, List.getElem_cons_succ, List.getElem_cons_zero, Act.put, List.setIfInBounds_toArray, List.set_cons_zero, List.set_cons_succ]
            clear c1 c2 f1 f2
            refine AnyT.nil (by kernel_rfl) ?_
            have hrowF : w4.ownsRow _ _ _ _ _ _ := hrow17
            have hq : Chg (fun j => j = g) w2 w4 := hq14.trans hq17 (fun _ _ h => h)
            have hsg : some g = (Value.slice (some ad) q2 d2).ownBlock := by rw [HA.out]; rfl
            have hou1 : OwnB w4 wA.drew.heap.size (.slice A1c n1c k1c) y.a := (hu1.c0 hc2).chg hq (fun k hk (e : k = g) => by have h3 := (hu1.lt k hk).1; have h4 := hcD.size; omega)
            have hou2 : OwnB w4 w1.heap.size (.slice A2c n2c k2c) y.b := hu2.chg hq (fun k hk (e : k = g) => by have h3 := (hu2.lt k hk).1; have h4 := hcD.size; have h5 := hc1.size; omega)
            have holt := hu1.lt
            have hsE := hcE.size
            have hs1 := hc1.size
            have hsD := hcD.size
            have hgw := (World.ownsRow.lt rowB g hsg.symm).2
            have hpsF : OwnPs w4 wb.heap.size (pcW xs1 l1) := (hps.c0 hcE).chg hq (fun k hk hk2 (e : k = g) => by omega)
            have hpsL := hps.lt
            have hps2 := OwnPs.two hou1 hou2 (fun k hk => (holt k hk).2) (by omega)
            have HPS := hide (And.intro hpsF (And.intro hps2 hpsL))
            clear hpsF hps2 hpsL hps
            go_wp2_with fail
            go_roundw
            case rel =>
              refine ⟨l1 ++ [y], l2, xs1 ++ [(.slice A1c n1c k1c, .slice A2c n2c k2c)], xs2, by rw [List.length_append]; go_num, hide (by rw [HL.out, List.append_assoc]; rfl), by simp [HX.out.1], by have := HX.out.2; omega, ?_, hide ?_, ?_, ?_⟩
              · rw [flW_snoc xs1 l1 _ y HX.out.1, ← HF.out, List.append_assoc]; exact hrowF
              · exact (HO2.out.chg hcE (fun _ _ h => h)).chg hq (fun k hk (e : k = g) => by have := hk.2; have := HBO.out; omega)
              · rw [pcW_snoc xs1 l1 _ y HX.out.1]
                exact OwnPs.app (m := wA.drew.heap.size) HPS.out.1 HPS.out.2.1 (fun p hp k hk => by have := HPS.out.2.2 p hp k hk; omega) (Nat.le_refl _) (Nat.le_refl _) (by omega)
              · exact (hcw.trans0 hcE).trans hq (fun k _ (e : k = g) => by rw [e]; exact hsg)
            case measure => (have hlen := HLEN.out; have hm := HMM.out; simp [intOf]; omega)
    · rcases xs2 with _ | ⟨x0, xs2⟩
      · simp at hx2
      · simp only [List.length_cons] at hlen hx2
        have h1 : l1.length < q1 := by omega
        obtain ⟨g, cg, e, hgb, hgl, hfr⟩ := row_some hrow (by omega)
        injection e with e1 e2 e3
        clear e2 e3
        obtain ⟨ad, had⟩ : ∃ ad : Addr, ad = ⟨g, 0, none⟩ := ⟨_, rfl⟩
        rw [← had] at e1
        subst e1
        have HA := hide had
        clear had
        obtain ⟨rp, rq, ho2⟩ := HO.out.tl
        have HO2 := hide ho2
        rw [flW_cons] at hrow
        have hA3 : (flW xs1 l1).length = l1.length * 3 := flW_len xs1 l1 hx1
        obtain ⟨c1, c2, c3, _, _⟩ := row_at hrow hA3
        obtain ⟨p, q0⟩ := x0
        obtain ⟨P, np, cp, rfl⟩ := rp.sl
        obtain ⟨R, nq, cq, rfl⟩ := rq.sl
        simp only at c1 c2 rp rq hrow
        obtain ⟨f, hf⟩ : ∃ f, f = y.f := ⟨_, rfl⟩
        rw [← hf] at c3 hrow
        have hyL : y ∈ x.ws := by rw [HL.out]; simp
        have hla : y.a.length ≤ 140737488355328 := by have := triW_le hyL; have := HSM.out.ws; omega
        have hlb : y.b.length ≤ 140737488355328 := by have := triW_le hyL; have := HSM.out.ws; omega
        have h1i : (l1.length : Int) < (q1 : Int) := by omega
        have h0i : (0 : Int) ≤ (l1.length : Int) := by omega
        have h9 : l1.length ≤ 1048576 := by have := HSM.out.wn; omega
        have hs0 := hcw.size
        have hbr := hs6.chg hcw (fun e => own_ne row1 hs6 (by decide) bo e.symm rfl)
        have HLEN := hide hlen
        have HF := hide hf
        have HROW := hide hrow
        have HA3 := hide hA3
        have HX := hide (And.intro hx1 hx2)
        have HMM := hide hm
        clear hf hlen hyL hm hx1 hx2 ho2 HO hrow hA3
        go_wp2_with fail
        have hBX := Blk.new wr 49 #[.slice P np cp, .slice R nq cq, .bool f]
        have hcA := (Chg.refl Non wr).alloc (.cells #[.slice P np cp, .slice R nq cq, .bool f] 49)
        obtain ⟨bx, hbx⟩ : ∃ bx, bx = wr.heap.size := ⟨_, rfl⟩
        rw [← hbx] at hBX ⊢
        generalize World.alloc _ _ = wA at hBX hcA ⊢
        have hgx : g ≠ bx := by omega
        clear c1 c2 c3 hbx
        obtain ⟨S, hSd⟩ : ∃ S : World → Prop, ∀ w', S w' ↔ (Blk w' bo 32 #[.int .i64 x.kind, .int .u64 (x.boot : Int), .int .u64 (x.sess : Int), .int .u64 (x.seq : Int), .slice (some ad) q1 d1, .slice Q2 q2 d2, .bool x.commit, .slice Q3 q3 d3, .slice Q4 q4 d4, .int .u64 (x.id : Int), .string x.name] ∧ Blk w' bx 49 #[.slice P np cp, .slice R nq cq, .bool f]) := ⟨_, fun _ => Iff.rfl⟩
        have HSd := hide hSd
        have HS := hide ((hSd wA.drew).2 ⟨(hbr.c0 hcA).c0 (Chg.refl Non wA).drew, hBX.c0 (Chg.refl Non wA).drew⟩)
        have hcD : Chg Non wr wA.drew := hcA.drew
        have rp := rp.c0 hcD
        have rq := rq.c0 hcD
        clear hSd hbr hBX
        refine wp_region_T S 99 (by kernel_rfl) ?_
        refine AnyT.take (i := 0) (v := ?_) rfl (by kernel_rfl) (by kernel_rfl) (fun _ _ _ h => h) (by kernel_rfl) (by kernel_rfl) (Or.inl ⟨by rfl, ?_⟩) HS.out ?_
        rotate_left
        · (intro w9 h9; go_simp; try with_reducible rfl)
        try simp only [List.getElem_toArray, List.getElem_cons_succ, List.getElem_cons_zero, Act.put, List.setIfInBounds_toArray, List.set_cons_zero, List.set_cons_succ]
        refine AnyT.take (i := 1) (v := ?_) rfl (by kernel_rfl) (by kernel_rfl) (fun _ _ _ h => h) (by kernel_rfl) (by kernel_rfl) (Or.inl ⟨by rfl, ?_⟩) HS.out ?_
        rotate_left
        · (intro w9 h9; have y0 : w9.cell? ⟨bo, 4, none⟩ = some (.slice (some ad) q1 d1) := ((HSd.out _).1 h9).1.cell 4; go_simp; try with_reducible rfl)
        try simp only [List.getElem_toArray, List.getElem_cons_succ, List.getElem_cons_zero, Act.put, List.setIfInBounds_toArray, List.set_cons_zero, List.set_cons_succ]
        refine AnyT.take (i := 2) (v := ?_) rfl (by kernel_rfl) (by kernel_rfl) (fun _ _ _ h => h) (by kernel_rfl) (by kernel_rfl) (Or.inl ⟨by rfl, ?_⟩) HS.out ?_
        rotate_left
        · (intro w9 h9; go_simp; try with_reducible rfl)
        try simp only [List.getElem_toArray, List.getElem_cons_succ, List.getElem_cons_zero, Act.put, List.setIfInBounds_toArray, List.set_cons_zero, List.set_cons_succ]
        refine AnyT.take (i := 3) (v := ?_) rfl (by kernel_rfl) (by kernel_rfl) (fun _ _ _ h => h) (by kernel_rfl) (by kernel_rfl) (Or.inl ⟨by rfl, ?_⟩) HS.out ?_
        rotate_left
        · (intro w9 h9; go_simp; try with_reducible rfl)
        try simp only [List.getElem_toArray, List.getElem_cons_succ, List.getElem_cons_zero, Act.put, List.setIfInBounds_toArray, List.set_cons_zero, List.set_cons_succ]
        refine AnyT.take (i := 4) (v := ?_) rfl (by kernel_rfl) (by kernel_rfl) (fun _ _ _ h => h) (by kernel_rfl) (by kernel_rfl) (Or.inl ⟨by rfl, ?_⟩) HS.out ?_
        rotate_left
        · (intro w9 h9; have y0 : w9.cell? ⟨bo, 4, none⟩ = some (.slice (some ad) q1 d1) := ((HSd.out _).1 h9).1.cell 4; go_simp; try with_reducible rfl)
        try simp only [List.getElem_toArray, List.getElem_cons_succ, List.getElem_cons_zero, Act.put, List.setIfInBounds_toArray, List.set_cons_zero, List.set_cons_succ]
        refine AnyT.take (i := 5) (v := ?_) rfl (by kernel_rfl) (by kernel_rfl) (fun _ _ _ h => h) (by kernel_rfl) (by kernel_rfl) (Or.inl ⟨by rfl, ?_⟩) HS.out ?_
        rotate_left
        · (intro w9 h9; go_simp; try with_reducible rfl)
        try simp only [List.getElem_toArray, List.getElem_cons_succ, List.getElem_cons_zero, Act.put, List.setIfInBounds_toArray, List.set_cons_zero, List.set_cons_succ]
        refine AnyT.take (i := 6) (v := ?_) rfl (by kernel_rfl) (by kernel_rfl) (fun _ _ _ h => h) (by kernel_rfl) (by kernel_rfl) (Or.inl ⟨by rfl, ?_⟩) HS.out ?_
        rotate_left
        · (intro w9 h9; go_simp; try with_reducible rfl)
        try simp only [List.getElem_toArray, List.getElem_cons_succ, List.getElem_cons_zero, Act.put, List.setIfInBounds_toArray, List.set_cons_zero, List.set_cons_succ]
        refine AnyT.take (i := 7) (v := ?_) rfl (by kernel_rfl) (by kernel_rfl) (fun _ _ _ h => h) (by kernel_rfl) (by kernel_rfl) (Or.inl ⟨by rfl, ?_⟩) HS.out ?_
        rotate_left
        · (intro w9 h9; have z0 : w9.cell? ⟨bx, 0, none⟩ = some (.slice P np cp) := ((HSd.out _).1 h9).2.cell 0; go_simp; try with_reducible rfl)
        try simp only [List.getElem_toArray, List.getElem_cons_succ, List.getElem_cons_zero, Act.put, List.setIfInBounds_toArray, List.set_cons_zero, List.set_cons_succ]
        refine AnyT.take (i := 9) (v := ?_) rfl (by kernel_rfl) (by kernel_rfl) (fun _ _ _ h => h) (by kernel_rfl) (by kernel_rfl) (Or.inl ⟨by rfl, ?_⟩) HS.out ?_
        rotate_left
        · (intro w9 h9; go_simp; try with_reducible rfl)
        try simp only [List.getElem_toArray, List.getElem_cons_succ, List.getElem_cons_zero, Act.put, List.setIfInBounds_toArray, List.set_cons_zero, List.set_cons_succ]
        refine AnyT.take (i := 10) (v := ?_) rfl (by kernel_rfl) (by kernel_rfl) (fun _ _ _ h => h) (by kernel_rfl) (by kernel_rfl) (Or.inl ⟨by rfl, ?_⟩) HS.out ?_
        rotate_left
        · (intro w9 h9; have z1 : w9.cell? ⟨bx, 1, none⟩ = some (.slice R nq cq) := ((HSd.out _).1 h9).2.cell 1; go_simp; try with_reducible rfl)
        try simp only [List.getElem_toArray, List.getElem_cons_succ, List.getElem_cons_zero, Act.put, List.setIfInBounds_toArray, List.set_cons_zero, List.set_cons_succ]
        refine AnyT.one (i := 8) (by kernel_rfl) rfl (fun K hK => ?_)
        go_simp
        go_wp2_with (go_at_call 62; refine (bytesClone rp hla).mono ?_; rintro e w1 ⟨ua, rfl, hu1, hc1⟩; obtain ⟨A1c, n1c, k1c, rfl⟩ := hu1.sl)
        have HS' := hide ((HSd.out w1).2 ⟨((HSd.out _).1 HS.out).1.c0 hc1, ((HSd.out _).1 HS.out).2.c0 hc1⟩)
        clear HS
        have HS := HS'
        clear HS'
        refine hK.out _ _ (fun _ => HS.out) ?_
        clear hK K
        try simp only [List.getElem_toArray, List.getElem_cons_succ, List.getElem_cons_zero, Act.put, List.setIfInBounds_toArray, List.set_cons_zero, List.set_cons_succ]
        refine AnyT.one (i := 11) (by kernel_rfl) rfl (fun K hK => ?_)
        go_simp
        go_wp2_with (go_at_call 62; refine (bytesClone (rq.c0 hc1) hlb).mono ?_; rintro e w2 ⟨ub, rfl, hu2, hc2⟩; obtain ⟨A2c, n2c, k2c, rfl⟩ := hu2.sl)
        have HS' := hide ((HSd.out w2).2 ⟨((HSd.out _).1 HS.out).1.c0 hc2, ((HSd.out _).1 HS.out).2.c0 hc2⟩)
        clear HS
        have HS := HS'
        clear HS'
        refine hK.out _ _ (fun _ => HS.out) ?_
        clear hK K
        try simp only [List.getElem_toArray, List.getElem_cons_succ, List.getElem_cons_zero, Act.put, List.setIfInBounds_toArray, List.set_cons_zero, List.set_cons_succ]
        have hcE := (hcD.trans0 hc1).trans0 hc2
        have hrow2 := row_chg HROW.out hcE (fun _ _ h => h)
        obtain ⟨c1, c2, c3, f1, f2⟩ := row_at hrow2 HA3.out
        have hblk : (ad.add (l1.length * 3)).block = g := by rw [HA.out, add_none]
        have HBLK := hide hblk
        clear hblk
        refine AnyT.one (i := 12) (by kernel_rfl) rfl (fun K hK => ?_)
        go_simp
        refine hK.out _ _ (fun _ => HS.out) ?_
        clear hK K
        try simp only [List.getElem_toArray, List.getElem_cons_succ, List.getElem_cons_zero, Act.put, List.setIfInBounds_toArray, List.set_cons_zero, List.set_cons_succ]
        refine AnyT.one (i := 13) (by kernel_rfl) rfl (fun K hK => ?_)
        go_simp
        refine hK.out _ _ (fun _ => HS.out) ?_
        clear hK K
        try simp only [List.getElem_toArray, List.getElem_cons_succ, List.getElem_cons_zero, Act.put, List.setIfInBounds_toArray, List.set_cons_zero, List.set_cons_succ]
        clear c3
        refine AnyT.one (i := 14) (by kernel_rfl) rfl (fun K hK => ?_)
        go_simp
        have hq14 : Chg (fun j => j = g) w2 (w2.setCell (ad.add (l1.length * 3)) (.slice A1c n1c k1c)) := (Chg.refl _ w2).setCell (p := (ad.add (l1.length * 3))) (fun _ => HBLK.out) _
        have hrow14 := row_put hrow2 HA3.out (.slice A1c n1c k1c)
        generalize w2.setCell (ad.add (l1.length * 3)) (.slice A1c n1c k1c) = w3 at hq14 hrow14 ⊢
        have HS' := hide ((HSd.out w3).2 ⟨((HSd.out _).1 HS.out).1.chg hq14 (fun (e : bo = g) => by omega), ((HSd.out _).1 HS.out).2.chg hq14 (fun (e : bx = g) => hgx e.symm)⟩)
        clear HS
        have HS := HS'
        clear HS'
        refine hK.out _ _ (fun _ => HS.out) ?_
        clear hK K
        try simp only [List.getElem_toArray, List.getElem_cons_succ, List.getElem_cons_zero, Act.put, List.setIfInBounds_toArray, List.set_cons_zero, List.set_cons_succ]
        clear c1 c2 f1 f2
        obtain ⟨c1, c2, c3, f1, f2⟩ := row_at hrow14 HA3.out
        clear c3
        refine AnyT.one (i := 15) (by kernel_rfl) rfl (fun K hK => ?_)
        go_simp
        refine hK.out _ _ (fun _ => HS.out) ?_
        clear hK K
        try simp only [List.getElem_toArray, List.getElem_cons_succ, List.getElem_cons_zero, Act.put, List.setIfInBounds_toArray, List.set_cons_zero, List.set_cons_succ]
        refine AnyT.one (i := 16) (by kernel_rfl) rfl (fun K hK => ?_)
        go_simp
        refine hK.out _ _ (fun _ => HS.out) ?_
        clear hK K
        try simp only [List.getElem_toArray, List.getElem_cons_succ, List.getElem_cons_zero, Act.put, List.setIfInBounds_toArray, List.set_cons_zero, List.set_cons_succ]
        refine AnyT.one (i := 17) (by kernel_rfl) rfl (fun K hK => ?_)
        go_simp
        have hq17 : Chg (fun j => j = g) w3 (w3.setCell ⟨(ad.add (l1.length * 3)).block, (ad.add (l1.length * 3)).off + 1, none⟩ (.slice A2c n2c k2c)) := (Chg.refl _ w3).setCell (p := ⟨(ad.add (l1.length * 3)).block, (ad.add (l1.length * 3)).off + 1, none⟩) (fun _ => HBLK.out) _
        have hrow17 := row_put2 hrow14 HA3.out (.slice A2c n2c k2c)
        generalize w3.setCell ⟨(ad.add (l1.length * 3)).block, (ad.add (l1.length * 3)).off + 1, none⟩ (.slice A2c n2c k2c) = w4 at hq17 hrow17 ⊢
        have HS' := hide ((HSd.out w4).2 ⟨((HSd.out _).1 HS.out).1.chg hq17 (fun (e : bo = g) => by omega), ((HSd.out _).1 HS.out).2.chg hq17 (fun (e : bx = g) => hgx e.symm)⟩)
        clear HS
        have HS := HS'
        clear HS'
        refine hK.out _ _ (fun _ => HS.out) ?_
        clear hK K
        try simp only [List.getElem_toArray, List.getElem_cons_succ, List.getElem_cons_zero, Act.put, List.setIfInBounds_toArray, List.set_cons_zero, List.set_cons_succ]
        clear c1 c2 f1 f2
        refine AnyT.nil (by kernel_rfl) ?_
        have hrowF : w4.ownsRow _ _ _ _ _ _ := hrow17
        have hq : Chg (fun j => j = g) w2 w4 := hq14.trans hq17 (fun _ _ h => h)
        have hsg : some g = (Value.slice (some ad) q1 d1).ownBlock := by rw [HA.out]; rfl
        have hou1 : OwnB w4 wA.drew.heap.size (.slice A1c n1c k1c) y.a := (hu1.c0 hc2).chg hq (fun k hk (e : k = g) => by have h3 := (hu1.lt k hk).1; have h4 := hcD.size; omega)
        have hou2 : OwnB w4 w1.heap.size (.slice A2c n2c k2c) y.b := hu2.chg hq (fun k hk (e : k = g) => by have h3 := (hu2.lt k hk).1; have h4 := hcD.size; have h5 := hc1.size; omega)
        have holt := hu1.lt
        have hsE := hcE.size
        have hs1 := hc1.size
        have hsD := hcD.size
        have hgw := (World.ownsRow.lt row1 g hsg.symm).2
        have hpsF : OwnPs w4 wc.heap.size (pcW xs1 l1) := (hps.c0 hcE).chg hq (fun k hk hk2 (e : k = g) => by omega)
        have hpsL := hps.lt
        have hps2 := OwnPs.two hou1 hou2 (fun k hk => (holt k hk).2) (by omega)
        have HPS := hide (And.intro hpsF (And.intro hps2 hpsL))
        clear hpsF hps2 hpsL hps
        go_wp2_with fail
        go_roundw
        case rel =>
          refine ⟨l1 ++ [y], l2, xs1 ++ [(.slice A1c n1c k1c, .slice A2c n2c k2c)], xs2, by rw [List.length_append]; go_num, hide (by rw [HL.out, List.append_assoc]; rfl), by simp [HX.out.1], by have := HX.out.2; omega, ?_, hide ?_, ?_, ?_⟩
          · rw [flW_snoc xs1 l1 _ y HX.out.1, ← HF.out, List.append_assoc]; exact hrowF
          · exact (HO2.out.chg hcE (fun _ _ h => h)).chg hq (fun k hk (e : k = g) => by have := hk.2; have := HBO.out; omega)
          · rw [pcW_snoc xs1 l1 _ y HX.out.1]
            exact OwnPs.app (m := wA.drew.heap.size) HPS.out.1 HPS.out.2.1 (fun p hp k hk => by have := HPS.out.2.2 p hp k hk; omega) (Nat.le_refl _) (Nat.le_refl _) (by omega)
          · exact (hcw.trans0 hcE).trans hq (fun k _ (e : k = g) => by rw [e]; exact hsg)
        case measure => (have hlen := HLEN.out; have hm := HMM.out; simp [intOf]; omega)
end Go.Proofs.Ytpbgjldjipgfeaa
