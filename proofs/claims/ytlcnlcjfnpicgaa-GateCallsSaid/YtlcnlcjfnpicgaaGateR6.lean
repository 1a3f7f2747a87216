/- The walks of groyneref20's End (both ways), Logged, Tick. -/
import Derived.Test.YtlcnlcjfnpicgaaGateR3
import Derived.Test.YtlcnlcjfnpicgaaGateR5
namespace Go.Proofs.Ytlcnlcjfnpicgaa
open Go.RowKit Go.Maps

set_option maxHeartbeats 2000000 in
set_option maxRecDepth 100000 in
theorem refEndOpen {w : World} {F : Nat → Prop} {v mw rw : Value} {s : GSt} {e0 : Int} (h : RefAt w F v mw rw s) (hs : s.shut = false) :
    Calls Try.prog 26 #[v, .int .i64 e0] w fun e w' => e = .returned v ∧ Chg Non w w' := by
  obtain ⟨rfl, hm, hr, hln, h20⟩ := h
  obtain ⟨A, c, rfl, hc, hmx⟩ := hm.shape
  obtain ⟨B, d, rfl, hd, hmd⟩ := hr.shape
  obtain ⟨b3, b6, k3⟩ := box9 w (rcells s (.slice A s.n c) (.slice B s.res.length d))
  unfold rcells z9 at *
  rw [hs] at *
  clear hm hr hln h20 hc hmx hd hmd hs
  generalize hWW : (w.alloc _).alloc _ = WW at b3 b6 k3
  have c1 := b3.cell 1
  simp at c1
  have Y3 := hide b3
  have Y6 := hide b6
  have K3 := hide k3
  clear b3 b6 k3
  go_enter Try.func26, Try.ntmps26
  go_upto_region 4 with fail
  clear c1 hWW
  obtain ⟨a0, a1, a2, a3, a4, a5, a6, a7, a8⟩ := blk9 Y3.out
  obtain ⟨c0, c1, c2, c3, c4, c5, c6, c7, c8⟩ := blk9 Y6.out
  obtain ⟨f0, f1, f2, f3, f4, f5, f6, f7, f8⟩ := frz9 Y6.out
  obtain ⟨hB9, hC9⟩ := put9 Y6.out (.int .i64 s.p) (.bool false) (.bool s.cut) (.int .u64 (s.id : Int)) (.string s.name) (.int .u64 (s.at_ : Int)) (.int .i64 s.age) (.slice A s.n c) (.slice B s.res.length d)
  go_wp2_with fail
  generalize World.setCell _ _ _ = w9 at hB9 hC9 ⊢
  clear a0 a1 a2 a3 a4 a5 a6 a7 a8 c0 c1 c2 c3 c4 c5 c6 c7 c8 f0 f1 f2 f3 f4 f5 f6 f7 f8
  obtain ⟨a0, a1, a2, a3, a4, a5, a6, a7, a8⟩ := blk9 hB9
  refine bodyPost_ret (v := .agg #[.int .i64 s.p, .bool false, .bool s.cut, .int .u64 (s.id : Int), .string s.name, .int .u64 (s.at_ : Int), .int .i64 s.age, .slice A s.n c, .slice B s.res.length d]) (by simp [results, Try.results26, go_sem, a0, a1, a2, a3, a4, a5, a6, a7, a8]) rfl ?_
  exact ⟨rfl, K3.out.trans hC9 fun k hk e => by omega⟩
def endS (s : GSt) (e0 : Int) : GSt := if s.shut = false then s else { s with shut := false, res := s.res ++ [(s.id, s.name, e0)] }
theorem refEnd {w : World} {F : Nat → Prop} {v mw rw : Value} {s : GSt} {e0 : Int} (h : RefAt w F v mw rw s) (hl : s.res.length ≤ 100000) :
    Calls Try.prog 26 #[v, .int .i64 e0] w fun e w' => ∃ v' rw', e = .returned v' ∧ RefAt w' (fun k => F k ∨ w.heap.size ≤ k) v' mw rw' (endS s e0) ∧ Chg Non w w' := by
  rcases hs : s.shut with _ | _
  · have e : endS s e0 = s := by rw [endS, if_pos hs]
    rw [e]
    refine (refEndOpen h hs).mono ?_
    rintro e w' ⟨rfl, c⟩
    exact ⟨v, rw, rfl, (h.c0 c).mono fun k hk => .inl hk, c⟩
  · have e : endS s e0 = { s with shut := false, res := s.res ++ [(s.id, s.name, e0)] } := by rw [endS, if_neg (by rw [hs]; decide)]
    rw [e]
    exact refEndShut h hs hl

def logS (s : GSt) (a : Nat) : GSt := if wantsS s = 1 then { s with cut := true, at_ := a } else if wantsS s = 2 then { s with shut := false, res := s.res ++ [(s.id, s.name, 0)] } else s
theorem wants_shut {s : GSt} (h : wantsS s ≠ 0) : s.shut = true := by
  unfold wantsS at h
  cases hs : s.shut
  · rw [if_pos hs] at h; exact absurd rfl h
  · rfl
theorem wants_le (s : GSt) : wantsS s = 0 ∨ wantsS s = 1 ∨ wantsS s = 2 := by
  unfold wantsS
  split
  · exact .inl rfl
  · split
    · exact .inr (.inl rfl)
    · split
      · exact .inr (.inr rfl)
      · exact .inl rfl
set_option maxHeartbeats 4000000 in
set_option maxRecDepth 100000 in
theorem refLogged {w : World} {F : Nat → Prop} {v mw rw : Value} {s : GSt} {a : Nat} (h : RefAt w F v mw rw s) (hl : s.res.length ≤ 100000) :
    Calls Try.prog 21 #[v, .int .u64 (a : Int)] w fun e w' => ∃ v' rw', e = .returned v' ∧ RefAt w' (fun k => F k ∨ w.heap.size ≤ k) v' mw rw' (logS s a) ∧ Chg Non w w' := by
  have h0 := h.lt
  have hS : ∀ Q, logS s a = Q → logS s a = Q := fun _ h => h
  unfold logS at hS
  have hsh : wantsS s ≠ 0 → s.shut = true := wants_shut
  obtain ⟨rfl, hm, hr, hln, h20⟩ := h
  obtain ⟨A, c, rfl, hc, hmx⟩ := hm.shape
  obtain ⟨B, d, rfl, hd, hmd⟩ := hr.shape
  obtain ⟨b3, b6, k3⟩ := box9 w (rcells s (.slice A s.n c) (.slice B s.res.length d))
  have hcall := refWants (h0.c0 k3)
  have HR := hide (h0.c0 k3)
  unfold rcells z9 at *
  clear hm hr hln h20 hc hmx hd hmd hS h0
  generalize hWW : (w.alloc _).alloc _ = WW at b3 b6 k3 hcall HR
  obtain ⟨x0, x1, x2, x3, x4, x5, x6, x7, x8⟩ := blk9 b3
  have B3 := hide b3
  have B6 := hide b6
  have K3 := hide k3
  have Z6 := hide b6.lt
  have HSH := hide hsh
  clear b3 b6 k3 hsh
  go_enter Try.func21, Try.ntmps21
  go_wp2_with fail
  refine hcall.mono ?_
  rintro e w1 ⟨rfl, k1⟩
  clear hWW x0 x1 x2 x3 x4 x5 x6 x7 x8
  have Y6 := hide (B6.out.c0 k1)
  rcases wants_le s with hw | hw | hw
  · have HL := hide (show logS s a = s by rw [logS, if_neg (by rw [hw]; decide), if_neg (by rw [hw]; decide)])
    rw [hw]
    have Y3 := hide (B3.out.c0 k1)
    have K1 := hide k1
    clear k1 hw hcall
    go_upto_region 7 with fail
    obtain ⟨a0, a1, a2, a3, a4, a5, a6, a7, a8⟩ := blk9 Y3.out
    obtain ⟨c0, c1, c2, c3, c4, c5, c6, c7, c8⟩ := blk9 Y6.out
    obtain ⟨f0, f1, f2, f3, f4, f5, f6, f7, f8⟩ := frz9 Y6.out
    obtain ⟨hB9, hC9⟩ := put9 Y6.out (.int .i64 s.p) (.bool s.shut) (.bool s.cut) (.int .u64 (s.id : Int)) (.string s.name) (.int .u64 (s.at_ : Int)) (.int .i64 s.age) (.slice A s.n c) (.slice B s.res.length d)
    go_wp2_with fail
    generalize World.setCell _ _ _ = w9 at hB9 hC9 ⊢
    clear a0 a1 a2 a3 a4 a5 a6 a7 a8 c0 c1 c2 c3 c4 c5 c6 c7 c8 f0 f1 f2 f3 f4 f5 f6 f7 f8
    obtain ⟨a0, a1, a2, a3, a4, a5, a6, a7, a8⟩ := blk9 hB9
    refine bodyPost_ret (v := .agg #[.int .i64 s.p, .bool s.shut, .bool s.cut, .int .u64 (s.id : Int), .string s.name, .int .u64 (s.at_ : Int), .int .i64 s.age, .slice A s.n c, .slice B s.res.length d]) (by simp [results, Try.results21, go_sem, a0, a1, a2, a3, a4, a5, a6, a7, a8]) rfl ?_
    rw [HL.out]
    exact ⟨_, _, rfl, ((HR.out.c0 K1.out).chg hC9 fun k hk e => by have := hk.2; omega).mono fun k hk => .inl hk.1, (K3.out.trans0 K1.out).trans hC9 fun k hk e => by omega⟩
  · have HL := hide (show logS s a = { s with cut := true, at_ := a } by rw [logS, if_pos hw])
    rw [hw]
    have y3 := B3.out.c0 k1
    obtain ⟨x0, x1, x2, x3, x4, x5, x6, x7, x8⟩ := blk9 y3
    have g2 := y3.frozen 2
    have g5 := y3.frozen 5
    have y4 := (y3.set_ 2 (.bool true)).set_ 5 (.int .u64 (a : Int))
    simp only [List.setIfInBounds_toArray, List.set_cons_succ, List.set_cons_zero] at y4
    have y6 := (Y6.out.far (p := ⟨w.heap.size, 2, none⟩) (by simp) (.bool true)).far (p := ⟨w.heap.size, 5, none⟩) (by simp) (.int .u64 (a : Int))
    have kc := ((k1.mono (S' := fun j => j = w.heap.size) fun _ _ h => h.elim).setCell (p := ⟨w.heap.size, 2, none⟩) (fun _ => rfl) (.bool true)).setCell (p := ⟨w.heap.size, 5, none⟩) (fun _ => rfl) (.int .u64 (a : Int))
    have Y3 := hide y4
    have Y6' := hide y6
    have K1 := hide kc
    clear k1 hw hcall y3 y4 y6 kc Y6
    have Y6 := Y6'
    clear Y6'
    go_upto_region 7 with fail
    generalize World.setCell _ _ _ = w5 at Y3 Y6 K1 ⊢
    clear x0 x1 x2 x3 x4 x5 x6 x7 x8 g2 g5
    obtain ⟨a0, a1, a2, a3, a4, a5, a6, a7, a8⟩ := blk9 Y3.out
    obtain ⟨c0, c1, c2, c3, c4, c5, c6, c7, c8⟩ := blk9 Y6.out
    obtain ⟨f0, f1, f2, f3, f4, f5, f6, f7, f8⟩ := frz9 Y6.out
    obtain ⟨hB9, hC9⟩ := put9 Y6.out (.int .i64 s.p) (.bool s.shut) (.bool true) (.int .u64 (s.id : Int)) (.string s.name) (.int .u64 (a : Int)) (.int .i64 s.age) (.slice A s.n c) (.slice B s.res.length d)
    go_wp2_with fail
    generalize World.setCell _ _ _ = w9 at hB9 hC9 ⊢
    clear a0 a1 a2 a3 a4 a5 a6 a7 a8 c0 c1 c2 c3 c4 c5 c6 c7 c8 f0 f1 f2 f3 f4 f5 f6 f7 f8
    obtain ⟨a0, a1, a2, a3, a4, a5, a6, a7, a8⟩ := blk9 hB9
    refine bodyPost_ret (v := .agg #[.int .i64 s.p, .bool s.shut, .bool true, .int .u64 (s.id : Int), .string s.name, .int .u64 (a : Int), .int .i64 s.age, .slice A s.n c, .slice B s.res.length d]) (by simp [results, Try.results21, go_sem, a0, a1, a2, a3, a4, a5, a6, a7, a8]) rfl ?_
    rw [HL.out]
    have hq := (HR.out.chg K1.out fun k hk e => by have := hk.2; omega).chg hC9 fun k hk e => by have := hk.2; omega
    exact ⟨_, _, rfl, ⟨rfl, hq.m.mono fun k hk => .inl hk.1, hq.r.mono fun k hk => .inl hk.1, hq.len, hq.n20⟩, (K3.out.trans K1.out fun k hk e => by omega).trans hC9 fun k hk e => by omega⟩
  · have HL := hide (show logS s a = { s with shut := false, res := s.res ++ [(s.id, s.name, 0)] } by rw [logS, if_neg (by rw [hw]; decide), if_pos hw])
    have hs := HSH.out (by rw [hw]; decide)
    rw [hw]
    have hend := refEndShut (e0 := 0) (HR.out.c0 k1) hs hl
    obtain ⟨x0, x1, x2, x3, x4, x5, x6, x7, x8⟩ := blk9 (B3.out.c0 k1)
    have K1 := hide k1
    have Y3 := hide (B3.out.c0 k1)
    clear k1 hw hcall hs
    go_wp2_with fail
    refine hend.mono ?_
    rintro e w2 ⟨v2, rw2, rfl, h2, k2⟩
    have hv2 := h2.v
    obtain ⟨B2, d2, rfl, hd2, hmd2⟩ := h2.r.shape
    obtain ⟨n2, hn2⟩ : ∃ n2, n2 = ({ s with shut := false, res := s.res ++ [(s.id, s.name, 0)] } : GSt).res.length := ⟨_, rfl⟩
    have hv3 : v2 = .agg #[.int .i64 s.p, .bool false, .bool s.cut, .int .u64 (s.id : Int), .string s.name, .int .u64 (s.at_ : Int), .int .i64 s.age, .slice A s.n c, .slice B2 n2 d2] := by rw [hn2]; exact hv2
    subst hv3
    have H2 := hide h2
    have y3 := Y3.out.c0 k2
    have y6 := Y6.out.c0 k2
    have Y6' := hide y6
    obtain ⟨p3, kp3⟩ := put9 y3 (.int .i64 s.p) (.bool false) (.bool s.cut) (.int .u64 (s.id : Int)) (.string s.name) (.int .u64 (s.at_ : Int)) (.int .i64 s.age) (.slice A s.n c) (.slice B2 n2 d2)
    have q6 := y6.chg kp3 (by omega)
    clear Y6
    have Y3' := hide p3
    have Y6 := hide q6
    have KP := hide kp3
    have K2 := hide k2
    have HZ := hide K1.out.size
    obtain ⟨x0, x1, x2, x3, x4, x5, x6, x7, x8⟩ := blk9 y3
    obtain ⟨g0, g1, g2, g3, g4, g5, g6, g7, g8⟩ := frz9 y3
    clear y3 y6 p3 q6 kp3 k2 h2 hv2 hd2 hmd2 hn2 Y3 Y6'
    go_upto_region 7 with fail
    generalize World.setCell _ _ _ = w5 at Y3' Y6 KP ⊢
    clear x0 x1 x2 x3 x4 x5 x6 x7 x8 g0 g1 g2 g3 g4 g5 g6 g7 g8
    have Y3 := Y3'
    obtain ⟨a0, a1, a2, a3, a4, a5, a6, a7, a8⟩ := blk9 Y3.out
    obtain ⟨c0, c1, c2, c3, c4, c5, c6, c7, c8⟩ := blk9 Y6.out
    obtain ⟨f0, f1, f2, f3, f4, f5, f6, f7, f8⟩ := frz9 Y6.out
    obtain ⟨hB9, hC9⟩ := put9 Y6.out (.int .i64 s.p) (.bool false) (.bool s.cut) (.int .u64 (s.id : Int)) (.string s.name) (.int .u64 (s.at_ : Int)) (.int .i64 s.age) (.slice A s.n c) (.slice B2 n2 d2)
    go_wp2_with fail
    generalize World.setCell _ _ _ = w9 at hB9 hC9 ⊢
    clear a0 a1 a2 a3 a4 a5 a6 a7 a8 c0 c1 c2 c3 c4 c5 c6 c7 c8 f0 f1 f2 f3 f4 f5 f6 f7 f8
    obtain ⟨a0, a1, a2, a3, a4, a5, a6, a7, a8⟩ := blk9 hB9
    refine bodyPost_ret (v := .agg #[.int .i64 s.p, .bool false, .bool s.cut, .int .u64 (s.id : Int), .string s.name, .int .u64 (s.at_ : Int), .int .i64 s.age, .slice A s.n c, .slice B2 n2 d2]) (by simp [results, Try.results21, go_sem, a0, a1, a2, a3, a4, a5, a6, a7, a8]) rfl ?_
    rw [HL.out]
    have hz := HZ.out
    have z6 := Z6.out
    have kz := K3.out.size
    have hq := (H2.out.chg KP.out fun k hk e => by rcases hk with hk | hk <;> first | (have := hk.2; omega) | omega).chg hC9 fun k hk e => by rcases hk with hk | hk <;> first | (have := hk.2; omega) | omega
    exact ⟨_, _, rfl, ⟨H2.out.v, hq.m.mono fun k hk => by rcases hk with hk | hk <;> first | exact .inl hk.1 | exact .inr (by omega), hq.r.mono fun k hk => by rcases hk with hk | hk <;> first | exact .inl hk.1 | exact .inr (by omega), hq.len, hq.n20⟩, (((K3.out.trans0 K1.out).trans0 K2.out).trans KP.out fun k hk e => by omega).trans hC9 fun k hk e => by omega⟩
end Go.Proofs.Ytlcnlcjfnpicgaa
