/- The walk of groyneref20's Tick. -/
import Derived.Test.YtlcnlcjfnpicgaaGateR6
import Derived.Test.YtlcnlcjfnpicgaaGate4
namespace Go.Proofs.Ytlcnlcjfnpicgaa
open Go.RowKit Go.Maps

set_option maxHeartbeats 4000000 in
set_option maxRecDepth 100000 in
theorem refTick {w : World} {F : Nat → Prop} {v mw rw : Value} {s : GSt} (h : RefAt w F v mw rw s) (hl : s.res.length ≤ 100000) (ha : -1000000000 ≤ s.age ∧ s.age ≤ 1000000000) :
    Calls Try.prog 24 #[v] w fun e w' => ∃ v' rw', e = .returned v' ∧ RefAt w' (fun k => F k ∨ w.heap.size ≤ k) v' mw rw' (tickS s) ∧ Chg Non w w' := by
  have h0 := h.lt
  obtain ⟨rfl, hm, hr, hln, h20⟩ := h
  obtain ⟨A, c, rfl, hc, hmx⟩ := hm.shape
  obtain ⟨B, d, rfl, hd, hmd⟩ := hr.shape
  obtain ⟨b3, b6, k3⟩ := box9 w (rcells s (.slice A s.n c) (.slice B s.res.length d))
  have HR := hide (h0.c0 k3)
  have HV := hide h0.v
  have hwr : IntKind.i64.wrap (s.age + 1) = s.age + 1 := IntWalk.i64_in _ (by omega)
  unfold rcells z9 at *
  clear hm hr hln h20 hc hmx hd hmd h0
  generalize hWW : (w.alloc _).alloc _ = WW at b3 b6 k3 HR
  obtain ⟨x0, x1, x2, x3, x4, x5, x6, x7, x8⟩ := blk9 b3
  have B3 := hide b3
  have Y6 := hide b6
  have K3 := hide k3
  have Z6 := hide b6.lt
  rcases (Bool.eq_false_or_eq_true s.shut).symm with hs | hs
  · have HL := hide (show tickS s = s by rw [tickS, if_pos (.inl hs)])
    have Y3 := B3
    have HS := hide hs
    rw [hs] at x1
    clear b3 b6 k3 hs
    go_enter Try.func24, Try.ntmps24
    go_upto_region 5 with fail
    clear hWW x0 x1 x2 x3 x4 x5 x6 x7 x8
    obtain ⟨a0, a1, a2, a3, a4, a5, a6, a7, a8⟩ := blk9 Y3.out
    obtain ⟨c0, c1, c2, c3, c4, c5, c6, c7, c8⟩ := blk9 Y6.out
    obtain ⟨f0, f1, f2, f3, f4, f5, f6, f7, f8⟩ := frz9 Y6.out
    obtain ⟨hB9, hC9⟩ := put9 Y6.out (.int .i64 s.p) (.bool s.shut) (.bool s.cut) (.int .u64 (s.id : Int)) (.string s.name) (.int .u64 (s.at_ : Int)) (.int .i64 s.age) (.slice A s.n c) (.slice B s.res.length d)
    go_wp2_with fail
    generalize World.setCell _ _ _ = w9 at hB9 hC9 ⊢
    clear a0 a1 a2 a3 a4 a5 a6 a7 a8 c0 c1 c2 c3 c4 c5 c6 c7 c8 f0 f1 f2 f3 f4 f5 f6 f7 f8
    obtain ⟨a0, a1, a2, a3, a4, a5, a6, a7, a8⟩ := blk9 hB9
    refine bodyPost_ret (v := .agg #[.int .i64 s.p, .bool s.shut, .bool s.cut, .int .u64 (s.id : Int), .string s.name, .int .u64 (s.at_ : Int), .int .i64 s.age, .slice A s.n c, .slice B s.res.length d]) (by simp [results, Try.results24, go_sem, a0, a1, a2, a3, a4, a5, a6, a7, a8]) rfl ?_
    rw [HL.out]
    exact ⟨_, rfl, ⟨_, (HR.out.chg hC9 fun k hk e => by have := hk.2; omega).mono fun k hk => .inl hk.1⟩, K3.out.trans hC9 fun k hk e => by omega⟩
  · rcases (Bool.eq_false_or_eq_true s.cut).symm with hcu | hcu
    · have HL := hide (show tickS s = s by rw [tickS, if_pos (.inr hcu)])
      have Y3 := B3
      have HS := hide hs
      rw [hs] at x1
      rw [hcu] at x2
      clear b3 b6 k3 hs hcu
      go_enter Try.func24, Try.ntmps24
      go_upto_region 5 with fail
      clear hWW x0 x1 x2 x3 x4 x5 x6 x7 x8
      obtain ⟨a0, a1, a2, a3, a4, a5, a6, a7, a8⟩ := blk9 Y3.out
      obtain ⟨c0, c1, c2, c3, c4, c5, c6, c7, c8⟩ := blk9 Y6.out
      obtain ⟨f0, f1, f2, f3, f4, f5, f6, f7, f8⟩ := frz9 Y6.out
      obtain ⟨hB9, hC9⟩ := put9 Y6.out (.int .i64 s.p) (.bool s.shut) (.bool s.cut) (.int .u64 (s.id : Int)) (.string s.name) (.int .u64 (s.at_ : Int)) (.int .i64 s.age) (.slice A s.n c) (.slice B s.res.length d)
      go_wp2_with fail
      generalize World.setCell _ _ _ = w9 at hB9 hC9 ⊢
      clear a0 a1 a2 a3 a4 a5 a6 a7 a8 c0 c1 c2 c3 c4 c5 c6 c7 c8 f0 f1 f2 f3 f4 f5 f6 f7 f8
      obtain ⟨a0, a1, a2, a3, a4, a5, a6, a7, a8⟩ := blk9 hB9
      refine bodyPost_ret (v := .agg #[.int .i64 s.p, .bool s.shut, .bool s.cut, .int .u64 (s.id : Int), .string s.name, .int .u64 (s.at_ : Int), .int .i64 s.age, .slice A s.n c, .slice B s.res.length d]) (by simp [results, Try.results24, go_sem, a0, a1, a2, a3, a4, a5, a6, a7, a8]) rfl ?_
      rw [HL.out]
      exact ⟨_, rfl, ⟨_, (HR.out.chg hC9 fun k hk e => by have := hk.2; omega).mono fun k hk => .inl hk.1⟩, K3.out.trans hC9 fun k hk e => by omega⟩
    · have hT := show tickS s = if s.p ≤ s.age + 1 ∧ wantsS s = 0 then { s with age := s.age + 1, shut := false, res := s.res ++ [(s.id, s.name, 17)] } else { s with age := s.age + 1 } by
        rw [tickS, if_neg (by rw [hs, hcu]; simp)]
      have hW : wantsS s = if cnt s.ms = s.n then 2 else 0 := by rw [wantsS, if_neg (by rw [hs]; decide), if_neg (by rw [hcu]; decide)]
      have g6 := b3.frozen 6
      have y4 := b3.set_ 6 (.int .i64 (s.age + 1))
      simp only [List.setIfInBounds_toArray, List.set_cons_succ, List.set_cons_zero] at y4
      have y6 := Y6.out.far (p := ⟨w.heap.size, 6, none⟩) (by simp) (.int .i64 (s.age + 1))
      have kc := (Chg.refl (fun j => j = w.heap.size) WW).setCell (p := ⟨w.heap.size, 6, none⟩) (fun _ => rfl) (.int .i64 (s.age + 1))
      have K1 := hide kc
      have hq := HR.out.chg kc fun k hk e => by have := hk.2; omega
      have HQ := hide (show RefAt _ _ (.agg (rcells { s with age := s.age + 1 } (.slice A s.n c) (.slice B s.res.length d))) (.slice A s.n c) (.slice B s.res.length d) { s with age := s.age + 1 } from ⟨rfl, hq.m, hq.r, hq.len, hq.n20⟩)
      unfold rcells at HQ
      have Y3 := hide y4
      have Y6' := hide y6
      have HS := hide hs
      have HT := hide hT
      have HW := hide hW
      rw [hs] at x1
      rw [hcu] at x2
      clear b3 b6 k3 y4 y6 kc hq hT hW Y6 hs hcu
      have Y6 := Y6'
      clear Y6'
      go_enter Try.func24, Try.ntmps24
      go_upto_region 3 with fail
      generalize World.setCell _ _ _ = w5 at Y3 Y6 K1 HQ ⊢
      clear hWW x0 x1 x2 x3 x4 x5 x6 x7 x8 g6
      obtain ⟨x0, x1, x2, x3, x4, x5, x6, x7, x8⟩ := blk9 Y3.out
      by_cases hp : s.p ≤ s.age + 1
      · have d1 : decide (s.p ≤ s.age + 1) = true := decide_eq_true hp
        have hcall := refAll HQ.out
        have hcall' : Calls Try.prog 29 _ w5 fun e w' => e = .returned (.bool (decide (cnt s.ms = s.n))) ∧ Chg Non w5 w' := hcall
        clear hcall
        by_cases hq : cnt s.ms = s.n
        · have HL := hide (show tickS s = { s with age := s.age + 1 } by rw [HT.out, if_neg (by rw [HW.out, if_pos hq]; omega)])
          rw [decide_eq_true hq] at hcall'
          clear hp hq
          go_wp2_with fail
          refine hcall'.mono ?_
          rintro e w6 ⟨rfl, k6⟩
          clear x0 x1 x2 x3 x4 x5 x6 x7 x8
          have y3 := Y3.out.c0 k6
          have y6 := Y6.out.c0 k6
          have K6 := hide k6
          clear Y3 Y6 k6
          have Y3 := hide y3
          have Y6 := hide y6
          clear y3 y6
          go_upto_region 5 with fail
          obtain ⟨a0, a1, a2, a3, a4, a5, a6, a7, a8⟩ := blk9 Y3.out
          obtain ⟨c0, c1, c2, c3, c4, c5, c6, c7, c8⟩ := blk9 Y6.out
          obtain ⟨f0, f1, f2, f3, f4, f5, f6, f7, f8⟩ := frz9 Y6.out
          obtain ⟨hB9, hC9⟩ := put9 Y6.out (.int .i64 s.p) (.bool s.shut) (.bool s.cut) (.int .u64 (s.id : Int)) (.string s.name) (.int .u64 (s.at_ : Int)) (.int .i64 (s.age + 1)) (.slice A s.n c) (.slice B s.res.length d)
          go_wp2_with fail
          generalize World.setCell _ _ _ = w9 at hB9 hC9 ⊢
          clear a0 a1 a2 a3 a4 a5 a6 a7 a8 c0 c1 c2 c3 c4 c5 c6 c7 c8 f0 f1 f2 f3 f4 f5 f6 f7 f8
          obtain ⟨a0, a1, a2, a3, a4, a5, a6, a7, a8⟩ := blk9 hB9
          refine bodyPost_ret (v := .agg #[.int .i64 s.p, .bool s.shut, .bool s.cut, .int .u64 (s.id : Int), .string s.name, .int .u64 (s.at_ : Int), .int .i64 (s.age + 1), .slice A s.n c, .slice B s.res.length d]) (by simp [results, Try.results24, go_sem, a0, a1, a2, a3, a4, a5, a6, a7, a8]) rfl ?_
          rw [HL.out]
          have hq := (HQ.out.c0 K6.out).chg hC9 fun k hk e => by have := hk.2; omega
          exact ⟨_, _, rfl, ⟨rfl, hq.m.mono fun k hk => .inl hk.1, hq.r.mono fun k hk => .inl hk.1, hq.len, hq.n20⟩, ((K3.out.trans K1.out fun k hk e => by omega).trans0 K6.out).trans hC9 fun k hk e => by omega⟩
        · have HL := hide (show tickS s = { s with age := s.age + 1, shut := false, res := s.res ++ [(s.id, s.name, 17)] } by rw [HT.out, if_pos ⟨hp, by rw [HW.out, if_neg hq]⟩])
          rw [decide_eq_false hq] at hcall'
          clear hp hq
          go_wp2_with fail
          refine hcall'.mono ?_
          rintro e w6 ⟨rfl, k6⟩
          have hend := refEndShut (e0 := 17) (HQ.out.c0 k6) HS.out hl
          clear x0 x1 x2 x3 x4 x5 x6 x7 x8
          have y3 := Y3.out.c0 k6
          have y6 := Y6.out.c0 k6
          have K6 := hide k6
          have K1' := hide ((K3.out.trans K1.out fun k hk e => by omega).trans0 k6)
          have z5 := K1.out.size
          have z6 := k6.size
          have z3 := K3.out.size
          have ZZ := hide (show w.heap.size + 1 < w6.heap.size by have := Z6.out; omega)
          clear Y3 Y6 k6 z5 z6 z3 Z6 K1 K6
          have K3' := hide (Chg.refl Non w)
          have Z6 := ZZ
          have K1 := K1'
          have Y3 := hide y3
          have Y6 := hide y6
          obtain ⟨x0, x1, x2, x3, x4, x5, x6, x7, x8⟩ := blk9 y3
          clear y3 y6 ZZ K1' K3
          have K3 := K3'
          clear K3'
          go_wp2_with fail
          refine hend.mono ?_
          rintro e w2 ⟨v2, rw2, rfl, h2, k2⟩
          have hv2 := h2.v
          clear x0 x1 x2 x3 x4 x5 x6 x7 x8
          obtain ⟨B2, d2, rfl, hd2, hmd2⟩ := h2.r.shape
          obtain ⟨n2, hn2⟩ : ∃ n2, n2 = ({ s with age := s.age + 1, shut := false, res := s.res ++ [(s.id, s.name, 17)] } : GSt).res.length := ⟨_, rfl⟩
          have hv3 : v2 = .agg #[.int .i64 s.p, .bool false, .bool s.cut, .int .u64 (s.id : Int), .string s.name, .int .u64 (s.at_ : Int), .int .i64 (s.age + 1), .slice A s.n c, .slice B2 n2 d2] := by rw [hn2]; exact hv2
          subst hv3
          have H2 := hide h2
          have y3 := Y3.out.c0 k2
          have y6 := Y6.out.c0 k2
          have Y6' := hide y6
          obtain ⟨p3, kp3⟩ := put9 y3 (.int .i64 s.p) (.bool false) (.bool s.cut) (.int .u64 (s.id : Int)) (.string s.name) (.int .u64 (s.at_ : Int)) (.int .i64 (s.age + 1)) (.slice A s.n c) (.slice B2 n2 d2)
          have q6 := y6.chg kp3 (by omega)
          clear Y6
          have Y3' := hide p3
          have Y6 := hide q6
          have KP := hide kp3
          have K2 := hide k2
          have HZ := hide K1.out.size
          obtain ⟨x0, x1, x2, x3, x4, x5, x6, x7, x8⟩ := blk9 y3
          obtain ⟨g0, g1, g2, g3, g4, g5, g6, g7, g8⟩ := frz9 y3
          clear y3 y6 p3 q6 kp3 k2 h2 hv2 hd2 hmd2 hn2 Y3 Y6'
          go_upto_region 5 with fail
          generalize World.setCell _ _ _ = w5 at Y3' Y6 KP ⊢
          clear x0 x1 x2 x3 x4 x5 x6 x7 x8 g0 g1 g2 g3 g4 g5 g6 g7 g8
          have Y3 := Y3'
          obtain ⟨a0, a1, a2, a3, a4, a5, a6, a7, a8⟩ := blk9 Y3.out
          obtain ⟨c0, c1, c2, c3, c4, c5, c6, c7, c8⟩ := blk9 Y6.out
          obtain ⟨f0, f1, f2, f3, f4, f5, f6, f7, f8⟩ := frz9 Y6.out
          obtain ⟨hB9, hC9⟩ := put9 Y6.out (.int .i64 s.p) (.bool false) (.bool s.cut) (.int .u64 (s.id : Int)) (.string s.name) (.int .u64 (s.at_ : Int)) (.int .i64 (s.age + 1)) (.slice A s.n c) (.slice B2 n2 d2)
          go_wp2_with fail
          generalize World.setCell _ _ _ = w9 at hB9 hC9 ⊢
          clear a0 a1 a2 a3 a4 a5 a6 a7 a8 c0 c1 c2 c3 c4 c5 c6 c7 c8 f0 f1 f2 f3 f4 f5 f6 f7 f8
          obtain ⟨a0, a1, a2, a3, a4, a5, a6, a7, a8⟩ := blk9 hB9
          refine bodyPost_ret (v := .agg #[.int .i64 s.p, .bool false, .bool s.cut, .int .u64 (s.id : Int), .string s.name, .int .u64 (s.at_ : Int), .int .i64 (s.age + 1), .slice A s.n c, .slice B2 n2 d2]) (by simp [results, Try.results24, go_sem, a0, a1, a2, a3, a4, a5, a6, a7, a8]) rfl ?_
          rw [HL.out]
          have hz := HZ.out
          have z6 := Z6.out
          have kz := K3.out.size
          have hq := (H2.out.chg KP.out fun k hk e => by rcases hk with hk | hk <;> first | (have := hk.2; omega) | omega).chg hC9 fun k hk e => by rcases hk with hk | hk <;> first | (have := hk.2; omega) | omega
          exact ⟨_, _, rfl, ⟨H2.out.v, hq.m.mono fun k hk => by rcases hk with hk | hk <;> first | exact .inl hk.1 | exact .inr (by omega), hq.r.mono fun k hk => by rcases hk with hk | hk <;> first | exact .inl hk.1 | exact .inr (by omega), hq.len, hq.n20⟩, (((K3.out.trans0 K1.out).trans0 K2.out).trans KP.out fun k hk e => by omega).trans hC9 fun k hk e => by omega⟩

      · have d1 : decide (s.p ≤ s.age + 1) = false := decide_eq_false hp
        have HL := hide (show tickS s = { s with age := s.age + 1 } by rw [HT.out, if_neg (fun h => hp h.1)])
        clear hp
        go_upto_region 5 with fail
        clear x0 x1 x2 x3 x4 x5 x6 x7 x8
        obtain ⟨a0, a1, a2, a3, a4, a5, a6, a7, a8⟩ := blk9 Y3.out
        obtain ⟨c0, c1, c2, c3, c4, c5, c6, c7, c8⟩ := blk9 Y6.out
        obtain ⟨f0, f1, f2, f3, f4, f5, f6, f7, f8⟩ := frz9 Y6.out
        obtain ⟨hB9, hC9⟩ := put9 Y6.out (.int .i64 s.p) (.bool s.shut) (.bool s.cut) (.int .u64 (s.id : Int)) (.string s.name) (.int .u64 (s.at_ : Int)) (.int .i64 (s.age + 1)) (.slice A s.n c) (.slice B s.res.length d)
        go_wp2_with fail
        generalize World.setCell _ _ _ = w9 at hB9 hC9 ⊢
        clear a0 a1 a2 a3 a4 a5 a6 a7 a8 c0 c1 c2 c3 c4 c5 c6 c7 c8 f0 f1 f2 f3 f4 f5 f6 f7 f8
        obtain ⟨a0, a1, a2, a3, a4, a5, a6, a7, a8⟩ := blk9 hB9
        refine bodyPost_ret (v := .agg #[.int .i64 s.p, .bool s.shut, .bool s.cut, .int .u64 (s.id : Int), .string s.name, .int .u64 (s.at_ : Int), .int .i64 (s.age + 1), .slice A s.n c, .slice B s.res.length d]) (by simp [results, Try.results24, go_sem, a0, a1, a2, a3, a4, a5, a6, a7, a8]) rfl ?_
        rw [HL.out]
        have hq := HQ.out.chg hC9 fun k hk e => by have := hk.2; omega
        exact ⟨_, rfl, ⟨_, ⟨rfl, hq.m.mono fun k hk => .inl hk.1, hq.r.mono fun k hk => .inl hk.1, hq.len, hq.n20⟩⟩, (K3.out.trans K1.out fun k hk e => by omega).trans hC9 fun k hk e => by omega⟩
end Go.Proofs.Ytlcnlcjfnpicgaa
