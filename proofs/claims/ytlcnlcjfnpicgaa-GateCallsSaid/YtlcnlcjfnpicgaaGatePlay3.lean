/- play: Answer, Tick, Fail and what is no call (printed by genplay.py). -/
import Derived.Test.YtlcnlcjfnpicgaaGatePlay0
import Derived.BigQuiet
import Derived.Deep.RegionLaw
namespace Go.Proofs.Ytlcnlcjfnpicgaa
open Go.RowKit Go.Maps

set_option maxHeartbeats 4000000 in
set_option maxRecDepth 100000 in
theorem play3 {X : Nat → Prop} {b : Nat} {w0 w : World} {g : Nat} {mp rv v : Value} {s : GSt} {j : Nat} (h : Pair X b w0 w g mp rv v s s) (hf : Fit s j) (hj : j ≤ 1000) (shard answer err : Int) (id at_ : Nat) (name : ByteArray) (hat : U64 at_) :
    Calls Try.prog 8 #[.pointer (some ⟨g, 0, none⟩), v, .agg #[.int .i64 3, .int .i64 shard, .int .i64 answer, .int .i64 err, .int .u64 (id : Int), .int .u64 (at_ : Int), .string name]] w fun e w' =>
      ∃ v' mp' rv', e = .returned (.tuple #[v', .bool true]) ∧ Pair X b w0 w' g mp' rv' v' (answerS s shard answer id err at_) (answerS s shard answer id err at_) := by
  obtain ⟨A, c, B, d, rfl⟩ := h.shape
  obtain ⟨X2, hP, hXX, x4, x5, x6, b4, b5, b6, z0⟩ := playSetup h #[.int .i64 s.p, .bool s.shut, .bool s.cut, .int .u64 (s.id : Int), .string s.name, .int .u64 (s.at_ : Int), .int .i64 s.age, .slice A s.n c, .slice B s.res.length d] #[.int .i64 3, .int .i64 shard, .int .i64 answer, .int .i64 err, .int .u64 (id : Int), .int .u64 (at_ : Int), .string name]
  clear h
  unfold z9 at *
  have HXX := hide hXX
  have X4 := hide x4
  have X5 := hide x5
  have X6 := hide x6
  have Z0 := hide z0
  have hl : s.res.length ≤ 100000 := by have := hf.res; omega
  have hag : -1000000000 ≤ s.age ∧ s.age ≤ 1000000000 := by have := hf.age; omega
  have HF := hide hf
  clear hXX x4 x5 x6 z0 hf
  generalize hWW : ((w.alloc _).alloc _).alloc _ = WW at b4 b5 b6 hP
  obtain ⟨x0, x1, x2, x3, x4, x5, x6, x7, x8⟩ := blk9 b4
  obtain ⟨f0, f1, f2, f3, f4, f5, f6, f7, f8⟩ := frz9 b6
  obtain ⟨y0, y1, y2, y3, y4, y5, y6⟩ := blk7 b5
  have HP := hide hP
  have Y4 := hide b4
  have Y5 := hide b5
  have Y6 := hide b6
  clear hP b4 b5 b6
  clear f0 f1 f2 f3 f4 f5 f6 f7 f8
  go_enter Try.func8, Try.ntmps8
  go_wp2_with fail
  refine (pairGateAnswer HP.out shard answer id err at_ hat).mono ?_
  rintro e w5 ⟨rfl, mp5, rv5, hP5, st5⟩
  clear x0 x1 x2 x3 x4 x5 x6 x7 x8 y0 y1 y2 y3 y4 y5 y6
  have y4' := HP.out.box st5 X4.out Y4.out
  have y5' := HP.out.box st5 X5.out Y5.out
  have y6' := HP.out.box st5 X6.out Y6.out
  clear Y4 Y5 Y6 HP
  obtain ⟨x0, x1, x2, x3, x4, x5, x6, x7, x8⟩ := blk9 y4'
  obtain ⟨y0, y1, y2, y3, y4, y5, y6⟩ := blk7 y5'
  have Y4 := hide y4'
  have Y5 := hide y5'
  have Y6 := hide y6'
  have HP := hide hP5
  clear y4' y5' y6' hP5 st5 hWW
  go_wp2_with fail
  refine (pairRefAnswer HP.out shard answer id err at_).mono ?_
  rintro e w1 ⟨v1, rfl, hP1, c1⟩
  clear x0 x1 x2 x3 x4 x5 x6 x7 x8 y0 y1 y2 y3 y4 y5 y6
  obtain ⟨t, ht⟩ : ∃ t, t = answerS s shard answer id err at_ := ⟨_, rfl⟩
  rw [← ht] at hP1
  obtain ⟨A1, c1', B1, d1, rfl⟩ := hP1.shape
  have y4' := Y4.out.c0 c1
  have y5' := Y5.out.c0 c1
  have y6' := Y6.out.c0 c1
  clear Y4 Y5 Y6 HP
  have Y4 := hide y4'
  have Y5 := hide y5'
  have Y6 := hide y6'
  have HP := hide hP1
  have HT := hide ht
  clear hP1 c1 y4' y5' y6' ht
  obtain ⟨e0, e1, e2, e3, e4, e5, e6, e7, e8⟩ := blk9 Y6.out
  obtain ⟨f0, f1, f2, f3, f4, f5, f6, f7, f8⟩ := frz9 Y6.out
  obtain ⟨hB9, hC9⟩ := put9 Y6.out (.int .i64 t.p) (.bool t.shut) (.bool t.cut) (.int .u64 (t.id : Int)) (.string t.name) (.int .u64 (t.at_ : Int)) (.int .i64 t.age) (.slice A1 t.n c1') (.slice B1 t.res.length d1)
  go_wp2_with fail
  generalize World.setCell _ _ _ = w9 at hB9 hC9 ⊢
  clear e0 e1 e2 e3 e4 e5 e6 e7 e8 f0 f1 f2 f3 f4 f5 f6 f7 f8 
  obtain ⟨a0, a1, a2, a3, a4, a5, a6, a7, a8⟩ := blk9 hB9
  refine bodyPost_ret (v := .tuple #[.agg #[.int .i64 t.p, .bool t.shut, .bool t.cut, .int .u64 (t.id : Int), .string t.name, .int .u64 (t.at_ : Int), .int .i64 t.age, .slice A1 t.n c1', .slice B1 t.res.length d1], .bool true]) (by simp [results, Try.results8, go_sem, a0, a1, a2, a3, a4, a5, a6, a7, a8]) rfl ⟨_, mp5, rv5, rfl, ?_⟩
  rw [← HT.out]
  exact (HP.out.chg hC9 fun k hk => by subst hk; exact ⟨X6.out, Nat.le_trans Z0.out (by omega)⟩).weak HXX.out

set_option maxHeartbeats 4000000 in
set_option maxRecDepth 100000 in
theorem play4 {X : Nat → Prop} {b : Nat} {w0 w : World} {g : Nat} {mp rv v : Value} {s : GSt} {j : Nat} (h : Pair X b w0 w g mp rv v s s) (hf : Fit s j) (hj : j ≤ 1000) (shard answer err : Int) (id at_ : Nat) (name : ByteArray) (hat : U64 at_) :
    Calls Try.prog 8 #[.pointer (some ⟨g, 0, none⟩), v, .agg #[.int .i64 4, .int .i64 shard, .int .i64 answer, .int .i64 err, .int .u64 (id : Int), .int .u64 (at_ : Int), .string name]] w fun e w' =>
      ∃ v' mp' rv', e = .returned (.tuple #[v', .bool true]) ∧ Pair X b w0 w' g mp' rv' v' (tickS s) (tickS s) := by
  obtain ⟨A, c, B, d, rfl⟩ := h.shape
  obtain ⟨X2, hP, hXX, x4, x5, x6, b4, b5, b6, z0⟩ := playSetup h #[.int .i64 s.p, .bool s.shut, .bool s.cut, .int .u64 (s.id : Int), .string s.name, .int .u64 (s.at_ : Int), .int .i64 s.age, .slice A s.n c, .slice B s.res.length d] #[.int .i64 4, .int .i64 shard, .int .i64 answer, .int .i64 err, .int .u64 (id : Int), .int .u64 (at_ : Int), .string name]
  clear h
  unfold z9 at *
  have HXX := hide hXX
  have X4 := hide x4
  have X5 := hide x5
  have X6 := hide x6
  have Z0 := hide z0
  have hl : s.res.length ≤ 100000 := by have := hf.res; omega
  have hag : -1000000000 ≤ s.age ∧ s.age ≤ 1000000000 := by have := hf.age; omega
  have HF := hide hf
  clear hXX x4 x5 x6 z0 hf
  generalize hWW : ((w.alloc _).alloc _).alloc _ = WW at b4 b5 b6 hP
  obtain ⟨x0, x1, x2, x3, x4, x5, x6, x7, x8⟩ := blk9 b4
  obtain ⟨f0, f1, f2, f3, f4, f5, f6, f7, f8⟩ := frz9 b6
  obtain ⟨y0, y1, y2, y3, y4, y5, y6⟩ := blk7 b5
  have HP := hide hP
  have Y4 := hide b4
  have Y5 := hide b5
  have Y6 := hide b6
  clear hP b4 b5 b6
  clear f0 f1 f2 f3 f4 f5 f6 f7 f8
  go_enter Try.func8, Try.ntmps8
  go_wp2_with fail
  refine (pairGateTick HP.out hl hag).mono ?_
  rintro e w5 ⟨rfl, mp5, rv5, hP5, st5⟩
  clear x0 x1 x2 x3 x4 x5 x6 x7 x8 y0 y1 y2 y3 y4 y5 y6
  have y4' := HP.out.box st5 X4.out Y4.out
  have y5' := HP.out.box st5 X5.out Y5.out
  have y6' := HP.out.box st5 X6.out Y6.out
  clear Y4 Y5 Y6 HP
  obtain ⟨x0, x1, x2, x3, x4, x5, x6, x7, x8⟩ := blk9 y4'
  obtain ⟨y0, y1, y2, y3, y4, y5, y6⟩ := blk7 y5'
  have Y4 := hide y4'
  have Y5 := hide y5'
  have Y6 := hide y6'
  have HP := hide hP5
  clear y4' y5' y6' hP5 st5 hWW
  go_wp2_with fail
  refine (pairRefTick HP.out hl hag).mono ?_
  rintro e w1 ⟨v1, rfl, hP1, c1⟩
  clear x0 x1 x2 x3 x4 x5 x6 x7 x8 y0 y1 y2 y3 y4 y5 y6
  obtain ⟨t, ht⟩ : ∃ t, t = tickS s := ⟨_, rfl⟩
  rw [← ht] at hP1
  obtain ⟨A1, c1', B1, d1, rfl⟩ := hP1.shape
  have y4' := Y4.out.c0 c1
  have y5' := Y5.out.c0 c1
  have y6' := Y6.out.c0 c1
  clear Y4 Y5 Y6 HP
  have Y4 := hide y4'
  have Y5 := hide y5'
  have Y6 := hide y6'
  have HP := hide hP1
  have HT := hide ht
  clear hP1 c1 y4' y5' y6' ht
  obtain ⟨e0, e1, e2, e3, e4, e5, e6, e7, e8⟩ := blk9 Y6.out
  obtain ⟨f0, f1, f2, f3, f4, f5, f6, f7, f8⟩ := frz9 Y6.out
  obtain ⟨hB9, hC9⟩ := put9 Y6.out (.int .i64 t.p) (.bool t.shut) (.bool t.cut) (.int .u64 (t.id : Int)) (.string t.name) (.int .u64 (t.at_ : Int)) (.int .i64 t.age) (.slice A1 t.n c1') (.slice B1 t.res.length d1)
  go_wp2_with fail
  generalize World.setCell _ _ _ = w9 at hB9 hC9 ⊢
  clear e0 e1 e2 e3 e4 e5 e6 e7 e8 f0 f1 f2 f3 f4 f5 f6 f7 f8 
  obtain ⟨a0, a1, a2, a3, a4, a5, a6, a7, a8⟩ := blk9 hB9
  refine bodyPost_ret (v := .tuple #[.agg #[.int .i64 t.p, .bool t.shut, .bool t.cut, .int .u64 (t.id : Int), .string t.name, .int .u64 (t.at_ : Int), .int .i64 t.age, .slice A1 t.n c1', .slice B1 t.res.length d1], .bool true]) (by simp [results, Try.results8, go_sem, a0, a1, a2, a3, a4, a5, a6, a7, a8]) rfl ⟨_, mp5, rv5, rfl, ?_⟩
  rw [← HT.out]
  exact (HP.out.chg hC9 fun k hk => by subst hk; exact ⟨X6.out, Nat.le_trans Z0.out (by omega)⟩).weak HXX.out

set_option maxHeartbeats 4000000 in
set_option maxRecDepth 100000 in
theorem play5 {X : Nat → Prop} {b : Nat} {w0 w : World} {g : Nat} {mp rv v : Value} {s : GSt} {j : Nat} (h : Pair X b w0 w g mp rv v s s) (hf : Fit s j) (hj : j ≤ 1000) (shard answer err : Int) (id at_ : Nat) (name : ByteArray) (hat : U64 at_) :
    Calls Try.prog 8 #[.pointer (some ⟨g, 0, none⟩), v, .agg #[.int .i64 5, .int .i64 shard, .int .i64 answer, .int .i64 err, .int .u64 (id : Int), .int .u64 (at_ : Int), .string name]] w fun e w' =>
      ∃ v' mp' rv', e = .returned (.tuple #[v', .bool true]) ∧ Pair X b w0 w' g mp' rv' v' (endS s 17) (endS s 17) := by
  obtain ⟨A, c, B, d, rfl⟩ := h.shape
  obtain ⟨X2, hP, hXX, x4, x5, x6, b4, b5, b6, z0⟩ := playSetup h #[.int .i64 s.p, .bool s.shut, .bool s.cut, .int .u64 (s.id : Int), .string s.name, .int .u64 (s.at_ : Int), .int .i64 s.age, .slice A s.n c, .slice B s.res.length d] #[.int .i64 5, .int .i64 shard, .int .i64 answer, .int .i64 err, .int .u64 (id : Int), .int .u64 (at_ : Int), .string name]
  clear h
  unfold z9 at *
  have HXX := hide hXX
  have X4 := hide x4
  have X5 := hide x5
  have X6 := hide x6
  have Z0 := hide z0
  have hl : s.res.length ≤ 100000 := by have := hf.res; omega
  have hag : -1000000000 ≤ s.age ∧ s.age ≤ 1000000000 := by have := hf.age; omega
  have HF := hide hf
  clear hXX x4 x5 x6 z0 hf
  generalize hWW : ((w.alloc _).alloc _).alloc _ = WW at b4 b5 b6 hP
  obtain ⟨x0, x1, x2, x3, x4, x5, x6, x7, x8⟩ := blk9 b4
  obtain ⟨f0, f1, f2, f3, f4, f5, f6, f7, f8⟩ := frz9 b6
  obtain ⟨y0, y1, y2, y3, y4, y5, y6⟩ := blk7 b5
  have HP := hide hP
  have Y4 := hide b4
  have Y5 := hide b5
  have Y6 := hide b6
  clear hP b4 b5 b6
  clear f0 f1 f2 f3 f4 f5 f6 f7 f8
  go_enter Try.func8, Try.ntmps8
  go_wp2_with fail
  refine (pairGateFail HP.out hl).mono ?_
  rintro e w5 ⟨rfl, mp5, rv5, hP5, st5⟩
  clear x0 x1 x2 x3 x4 x5 x6 x7 x8 y0 y1 y2 y3 y4 y5 y6
  have y4' := HP.out.box st5 X4.out Y4.out
  have y5' := HP.out.box st5 X5.out Y5.out
  have y6' := HP.out.box st5 X6.out Y6.out
  clear Y4 Y5 Y6 HP
  obtain ⟨x0, x1, x2, x3, x4, x5, x6, x7, x8⟩ := blk9 y4'
  obtain ⟨y0, y1, y2, y3, y4, y5, y6⟩ := blk7 y5'
  have Y4 := hide y4'
  have Y5 := hide y5'
  have Y6 := hide y6'
  have HP := hide hP5
  clear y4' y5' y6' hP5 st5 hWW
  go_wp2_with fail
  refine (pairRefEnd HP.out hl 17).mono ?_
  rintro e w1 ⟨v1, rfl, hP1, c1⟩
  clear x0 x1 x2 x3 x4 x5 x6 x7 x8 y0 y1 y2 y3 y4 y5 y6
  obtain ⟨t, ht⟩ : ∃ t, t = endS s 17 := ⟨_, rfl⟩
  rw [← ht] at hP1
  obtain ⟨A1, c1', B1, d1, rfl⟩ := hP1.shape
  have y4' := Y4.out.c0 c1
  have y5' := Y5.out.c0 c1
  have y6' := Y6.out.c0 c1
  clear Y4 Y5 Y6 HP
  have Y4 := hide y4'
  have Y5 := hide y5'
  have Y6 := hide y6'
  have HP := hide hP1
  have HT := hide ht
  clear hP1 c1 y4' y5' y6' ht
  obtain ⟨e0, e1, e2, e3, e4, e5, e6, e7, e8⟩ := blk9 Y6.out
  obtain ⟨f0, f1, f2, f3, f4, f5, f6, f7, f8⟩ := frz9 Y6.out
  obtain ⟨hB9, hC9⟩ := put9 Y6.out (.int .i64 t.p) (.bool t.shut) (.bool t.cut) (.int .u64 (t.id : Int)) (.string t.name) (.int .u64 (t.at_ : Int)) (.int .i64 t.age) (.slice A1 t.n c1') (.slice B1 t.res.length d1)
  go_wp2_with fail
  generalize World.setCell _ _ _ = w9 at hB9 hC9 ⊢
  clear e0 e1 e2 e3 e4 e5 e6 e7 e8 f0 f1 f2 f3 f4 f5 f6 f7 f8 
  obtain ⟨a0, a1, a2, a3, a4, a5, a6, a7, a8⟩ := blk9 hB9
  refine bodyPost_ret (v := .tuple #[.agg #[.int .i64 t.p, .bool t.shut, .bool t.cut, .int .u64 (t.id : Int), .string t.name, .int .u64 (t.at_ : Int), .int .i64 t.age, .slice A1 t.n c1', .slice B1 t.res.length d1], .bool true]) (by simp [results, Try.results8, go_sem, a0, a1, a2, a3, a4, a5, a6, a7, a8]) rfl ⟨_, mp5, rv5, rfl, ?_⟩
  rw [← HT.out]
  exact (HP.out.chg hC9 fun k hk => by subst hk; exact ⟨X6.out, Nat.le_trans Z0.out (by omega)⟩).weak HXX.out

set_option maxHeartbeats 4000000 in
set_option maxRecDepth 100000 in
theorem playElse {X : Nat → Prop} {b : Nat} {w0 w : World} {g : Nat} {mp rv v : Value} {s : GSt} {j : Nat} (h : Pair X b w0 w g mp rv v s s) (hf : Fit s j) (hj : j ≤ 1000) (K0 : Int) (h1 : (K0 == 1) = false) (h2 : (K0 == 2) = false) (h3 : (K0 == 3) = false) (h4 : (K0 == 4) = false) (h5 : (K0 == 5) = false) (h6 : (K0 == 6) = false) (shard answer err : Int) (id at_ : Nat) (name : ByteArray) (hat : U64 at_) :
    Calls Try.prog 8 #[.pointer (some ⟨g, 0, none⟩), v, .agg #[.int .i64 K0, .int .i64 shard, .int .i64 answer, .int .i64 err, .int .u64 (id : Int), .int .u64 (at_ : Int), .string name]] w fun e w' =>
      ∃ v' mp' rv', e = .returned (.tuple #[v', .bool true]) ∧ Pair X b w0 w' g mp' rv' v' (s) (s) := by
  obtain ⟨A, c, B, d, rfl⟩ := h.shape
  obtain ⟨X2, hP, hXX, x4, x5, x6, b4, b5, b6, z0⟩ := playSetup h #[.int .i64 s.p, .bool s.shut, .bool s.cut, .int .u64 (s.id : Int), .string s.name, .int .u64 (s.at_ : Int), .int .i64 s.age, .slice A s.n c, .slice B s.res.length d] #[.int .i64 K0, .int .i64 shard, .int .i64 answer, .int .i64 err, .int .u64 (id : Int), .int .u64 (at_ : Int), .string name]
  clear h
  unfold z9 at *
  have HXX := hide hXX
  have X4 := hide x4
  have X5 := hide x5
  have X6 := hide x6
  have Z0 := hide z0
  have hl : s.res.length ≤ 100000 := by have := hf.res; omega
  have hag : -1000000000 ≤ s.age ∧ s.age ≤ 1000000000 := by have := hf.age; omega
  have HF := hide hf
  clear hXX x4 x5 x6 z0 hf
  generalize hWW : ((w.alloc _).alloc _).alloc _ = WW at b4 b5 b6 hP
  obtain ⟨x0, x1, x2, x3, x4, x5, x6, x7, x8⟩ := blk9 b4
  obtain ⟨f0, f1, f2, f3, f4, f5, f6, f7, f8⟩ := frz9 b6
  obtain ⟨y0, y1, y2, y3, y4, y5, y6⟩ := blk7 b5
  have HP := hide hP
  have Y4 := hide b4
  have Y5 := hide b5
  have Y6 := hide b6
  clear hP b4 b5 b6
  clear f0 f1 f2 f3 f4 f5 f6 f7 f8
  go_enter Try.func8, Try.ntmps8
  obtain ⟨e0, e1, e2, e3, e4, e5, e6, e7, e8⟩ := blk9 Y6.out
  obtain ⟨f0, f1, f2, f3, f4, f5, f6, f7, f8⟩ := frz9 Y6.out
  obtain ⟨hB9, hC9⟩ := put9 Y6.out (.int .i64 s.p) (.bool s.shut) (.bool s.cut) (.int .u64 (s.id : Int)) (.string s.name) (.int .u64 (s.at_ : Int)) (.int .i64 s.age) (.slice A s.n c) (.slice B s.res.length d)
  go_wp2_with fail
  generalize World.setCell _ _ _ = w9 at hB9 hC9 ⊢
  clear e0 e1 e2 e3 e4 e5 e6 e7 e8 f0 f1 f2 f3 f4 f5 f6 f7 f8 
  obtain ⟨a0, a1, a2, a3, a4, a5, a6, a7, a8⟩ := blk9 hB9
  refine bodyPost_ret (v := .tuple #[.agg #[.int .i64 s.p, .bool s.shut, .bool s.cut, .int .u64 (s.id : Int), .string s.name, .int .u64 (s.at_ : Int), .int .i64 s.age, .slice A s.n c, .slice B s.res.length d], .bool true]) (by simp [results, Try.results8, go_sem, a0, a1, a2, a3, a4, a5, a6, a7, a8]) rfl ⟨_, mp, rv, rfl, ?_⟩

  exact (HP.out.chg hC9 fun k hk => by subst hk; exact ⟨X6.out, Nat.le_trans Z0.out (by omega)⟩).weak HXX.out
end Go.Proofs.Ytlcnlcjfnpicgaa
