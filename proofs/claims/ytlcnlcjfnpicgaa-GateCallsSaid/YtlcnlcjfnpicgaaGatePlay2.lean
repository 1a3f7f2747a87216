/- play: Logged (printed by genplay.py). -/
import Derived.Test.YtlcnlcjfnpicgaaGatePlay0
import Derived.BigQuiet
import Derived.Deep.RegionLaw
namespace Go.Proofs.Ytlcnlcjfnpicgaa
open Go.RowKit Go.Maps

set_option maxHeartbeats 4000000 in
set_option maxRecDepth 100000 in
theorem play2 {X : Nat → Prop} {b : Nat} {w0 w : World} {g : Nat} {mp rv v : Value} {s : GSt} {j : Nat} (h : Pair X b w0 w g mp rv v s s) (hf : Fit s j) (hj : j ≤ 1000) (shard answer err : Int) (id at_ : Nat) (name : ByteArray) (hat : U64 at_) :
    Calls Try.prog 8 #[.pointer (some ⟨g, 0, none⟩), v, .agg #[.int .i64 2, .int .i64 shard, .int .i64 answer, .int .i64 err, .int .u64 (id : Int), .int .u64 (at_ : Int), .string name]] w fun e w' =>
      ∃ v' mp' rv', e = .returned (.tuple #[v', .bool true]) ∧ Pair X b w0 w' g mp' rv' v' (logS s at_) (logS s at_) := by
  obtain ⟨A, c, B, d, rfl⟩ := h.shape
  obtain ⟨X2, hP, hXX, x4, x5, x6, b4, b5, b6, z0⟩ := playSetup h #[.int .i64 s.p, .bool s.shut, .bool s.cut, .int .u64 (s.id : Int), .string s.name, .int .u64 (s.at_ : Int), .int .i64 s.age, .slice A s.n c, .slice B s.res.length d] #[.int .i64 2, .int .i64 shard, .int .i64 answer, .int .i64 err, .int .u64 (id : Int), .int .u64 (at_ : Int), .string name]
  clear h
  unfold z9 at *
  have HXX := hide hXX
  have X4 := hide x4
  have X5 := hide x5
  have X6 := hide x6
  have Z0 := hide z0
  have hl : s.res.length ≤ 100000 := by have := hf.res; omega
  have hag : -1000000000 ≤ s.age ∧ s.age ≤ 1000000000 := by have := hf.age; omega
  have HF := hide hf
  clear hXX x4 x5 x6 z0 hf
  generalize hWW : ((w.alloc _).alloc _).alloc _ = WW at b4 b5 b6 hP
  obtain ⟨x0, x1, x2, x3, x4, x5, x6, x7, x8⟩ := blk9 b4
  obtain ⟨f0, f1, f2, f3, f4, f5, f6, f7, f8⟩ := frz9 b6
  obtain ⟨y0, y1, y2, y3, y4, y5, y6⟩ := blk7 b5
  have HP := hide hP
  have Y4 := hide b4
  have Y5 := hide b5
  have Y6 := hide b6
  clear hP b4 b5 b6
  clear f0 f1 f2 f3 f4 f5 f6 f7 f8
  go_enter Try.func8, Try.ntmps8
  rcases wants_le s with hw | hw | hw
  · go_wp2_with fail
    refine (pairRefWants HP.out).mono ?_
    rintro e w1 ⟨rfl, hP1, c1⟩
    rw [hw]
    have HW := hide hw
    clear hw
    clear x0 x1 x2 x3 x4 x5 x6 x7 x8 y0 y1 y2 y3 y4 y5 y6
    have y4' := Y4.out.c0 c1
    have y5' := Y5.out.c0 c1
    have y6' := Y6.out.c0 c1
    clear Y4 Y5 Y6 HP
    have Y4 := hide y4'
    have Y5 := hide y5'
    have Y6 := hide y6'
    have HP := hide hP1
    obtain ⟨x0, x1, x2, x3, x4, x5, x6, x7, x8⟩ := blk9 y4'
    obtain ⟨y0, y1, y2, y3, y4, y5, y6⟩ := blk7 y5'
    clear y4' y5' y6' hP1 c1 hWW
    go_wp2_with fail
    refine (pairRefLogged HP.out hl at_).mono ?_
    rintro e w2 ⟨v1, rfl, hP1, c1⟩
    clear x0 x1 x2 x3 x4 x5 x6 x7 x8 y0 y1 y2 y3 y4 y5 y6
    obtain ⟨t, ht⟩ : ∃ t, t = logS s at_ := ⟨_, rfl⟩
    rw [← ht] at hP1
    obtain ⟨A1, c1', B1, d1, rfl⟩ := hP1.shape
    have kA := c1.alloc (.cells #[.int .i64 t.p, .bool t.shut, .bool t.cut, .int .u64 (t.id : Int), .string t.name, .int .u64 (t.at_ : Int), .int .i64 t.age, .slice A1 t.n c1', .slice B1 t.res.length d1] 30)
    have kB := (Chg.refl Non w2).alloc (.cells #[.int .i64 t.p, .bool t.shut, .bool t.cut, .int .u64 (t.id : Int), .string t.name, .int .u64 (t.at_ : Int), .int .i64 t.age, .slice A1 t.n c1', .slice B1 t.res.length d1] 30)
    have y4' := Y4.out.c0 kA
    have y5' := Y5.out.c0 kA
    have y6' := Y6.out.c0 kA
    have y8' := Blk.new w2 30 #[.int .i64 t.p, .bool t.shut, .bool t.cut, .int .u64 (t.id : Int), .string t.name, .int .u64 (t.at_ : Int), .int .i64 t.age, .slice A1 t.n c1', .slice B1 t.res.length d1]
    obtain ⟨X3, hX3, hP3, x8⟩ : ∃ X3 : Nat → Prop, (∀ k, X2 k → X3 k) ∧ Pair X3 b w0 (w2.alloc (.cells #[.int .i64 t.p, .bool t.shut, .bool t.cut, .int .u64 (t.id : Int), .string t.name, .int .u64 (t.at_ : Int), .int .i64 t.age, .slice A1 t.n c1', .slice B1 t.res.length d1] 30)) g mp rv (.agg #[.int .i64 t.p, .bool t.shut, .bool t.cut, .int .u64 (t.id : Int), .string t.name, .int .u64 (t.at_ : Int), .int .i64 t.age, .slice A1 t.n c1', .slice B1 t.res.length d1]) s t ∧ X3 w2.heap.size := ⟨_, fun k hk => .inl hk, hP1.fence kB, .inr ⟨Nat.le_refl _, y8'.lt⟩⟩
    have X4' := hide (hX3 _ X4.out)
    have X5' := hide (hX3 _ X5.out)
    have X6' := hide (hX3 _ X6.out)
    have X8 := hide x8
    have HXX' := hide (fun k hk => hX3 k (HXX.out k hk))
    have HT := hide ht
    clear Y4 Y5 Y6 HP X4 X5 X6 HXX
    have Y4 := hide y4'
    have Y5 := hide y5'
    have Y6 := hide y6'
    have Y8 := hide y8'
    have HP := hide hP3
    obtain ⟨y0, y1, y2, y3, y4, y5, y6⟩ := blk7 y5'
    clear y4' y5' y6' y8' hP1 hP3 c1 kA kB x8 hX3 ht
    go_wp2_with fail
    refine (pairGateLogged HP.out hl at_).mono ?_
    rintro e w5 ⟨A5, n5, c5, rfl, hn5, mp5, rv5, hP5, st5⟩
    rw [if_neg (by rw [HW.out]; decide)] at hn5
    subst hn5
    clear y0 y1 y2 y3 y4 y5 y6
    have y4' := HP.out.box st5 X4'.out Y4.out
    have y6' := HP.out.box st5 X6'.out Y6.out
    have y8' := HP.out.box st5 X8.out Y8.out
    rw [show logS s at_ = t from HT.out.symm] at hP5
    clear Y4 Y5 Y6 Y8 HP
    obtain ⟨x0, x1, x2, x3, x4, x5, x6, x7, x8⟩ := blk9 y4'
    obtain ⟨b0, b1, b2, b3, b4, b5, b6, b7, b8⟩ := blk9 y8'
    have Y6 := hide y6'
    have HP := hide hP5
    have X6 := X6'
    have HXX := HXX'
    clear y4' y6' y8' hP5 st5
    obtain ⟨e0, e1, e2, e3, e4, e5, e6, e7, e8⟩ := blk9 Y6.out
    obtain ⟨f0, f1, f2, f3, f4, f5, f6, f7, f8⟩ := frz9 Y6.out
    obtain ⟨hB9, hC9⟩ := put9 Y6.out (.int .i64 t.p) (.bool t.shut) (.bool t.cut) (.int .u64 (t.id : Int)) (.string t.name) (.int .u64 (t.at_ : Int)) (.int .i64 t.age) (.slice A1 t.n c1') (.slice B1 t.res.length d1)
    go_wp2_with fail
    generalize World.setCell _ _ _ = w9 at hB9 hC9 ⊢
    clear e0 e1 e2 e3 e4 e5 e6 e7 e8 f0 f1 f2 f3 f4 f5 f6 f7 f8 x0 x1 x2 x3 x4 x5 x6 x7 x8 b0 b1 b2 b3 b4 b5 b6 b7 b8
    obtain ⟨a0, a1, a2, a3, a4, a5, a6, a7, a8⟩ := blk9 hB9
    refine bodyPost_ret (v := .tuple #[.agg #[.int .i64 t.p, .bool t.shut, .bool t.cut, .int .u64 (t.id : Int), .string t.name, .int .u64 (t.at_ : Int), .int .i64 t.age, .slice A1 t.n c1', .slice B1 t.res.length d1], .bool true]) (by simp [results, Try.results8, go_sem, a0, a1, a2, a3, a4, a5, a6, a7, a8]) rfl ⟨_, mp5, rv5, rfl, ?_⟩
    rw [← HT.out]
    exact (HP.out.chg hC9 fun k hk => by subst hk; exact ⟨X6.out, Nat.le_trans Z0.out (by omega)⟩).weak HXX.out
  · go_wp2_with fail
    refine (pairRefWants HP.out).mono ?_
    rintro e w1 ⟨rfl, hP1, c1⟩
    rw [hw]
    have HW := hide hw
    clear hw
    clear x0 x1 x2 x3 x4 x5 x6 x7 x8 y0 y1 y2 y3 y4 y5 y6
    have y4' := Y4.out.c0 c1
    have y5' := Y5.out.c0 c1
    have y6' := Y6.out.c0 c1
    clear Y4 Y5 Y6 HP
    have Y4 := hide y4'
    have Y5 := hide y5'
    have Y6 := hide y6'
    have HP := hide hP1
    obtain ⟨x0, x1, x2, x3, x4, x5, x6, x7, x8⟩ := blk9 y4'
    obtain ⟨y0, y1, y2, y3, y4, y5, y6⟩ := blk7 y5'
    clear y4' y5' y6' hP1 c1 hWW
    go_wp2_with fail
    refine (pairRefLogged HP.out hl at_).mono ?_
    rintro e w2 ⟨v1, rfl, hP1, c1⟩
    clear x0 x1 x2 x3 x4 x5 x6 x7 x8 y0 y1 y2 y3 y4 y5 y6
    obtain ⟨t, ht⟩ : ∃ t, t = logS s at_ := ⟨_, rfl⟩
    rw [← ht] at hP1
    obtain ⟨A1, c1', B1, d1, rfl⟩ := hP1.shape
    have kA := c1.alloc (.cells #[.int .i64 t.p, .bool t.shut, .bool t.cut, .int .u64 (t.id : Int), .string t.name, .int .u64 (t.at_ : Int), .int .i64 t.age, .slice A1 t.n c1', .slice B1 t.res.length d1] 30)
    have kB := (Chg.refl Non w2).alloc (.cells #[.int .i64 t.p, .bool t.shut, .bool t.cut, .int .u64 (t.id : Int), .string t.name, .int .u64 (t.at_ : Int), .int .i64 t.age, .slice A1 t.n c1', .slice B1 t.res.length d1] 30)
    have y4' := Y4.out.c0 kA
    have y5' := Y5.out.c0 kA
    have y6' := Y6.out.c0 kA
    have y8' := Blk.new w2 30 #[.int .i64 t.p, .bool t.shut, .bool t.cut, .int .u64 (t.id : Int), .string t.name, .int .u64 (t.at_ : Int), .int .i64 t.age, .slice A1 t.n c1', .slice B1 t.res.length d1]
    obtain ⟨X3, hX3, hP3, x8⟩ : ∃ X3 : Nat → Prop, (∀ k, X2 k → X3 k) ∧ Pair X3 b w0 (w2.alloc (.cells #[.int .i64 t.p, .bool t.shut, .bool t.cut, .int .u64 (t.id : Int), .string t.name, .int .u64 (t.at_ : Int), .int .i64 t.age, .slice A1 t.n c1', .slice B1 t.res.length d1] 30)) g mp rv (.agg #[.int .i64 t.p, .bool t.shut, .bool t.cut, .int .u64 (t.id : Int), .string t.name, .int .u64 (t.at_ : Int), .int .i64 t.age, .slice A1 t.n c1', .slice B1 t.res.length d1]) s t ∧ X3 w2.heap.size := ⟨_, fun k hk => .inl hk, hP1.fence kB, .inr ⟨Nat.le_refl _, y8'.lt⟩⟩
    have X4' := hide (hX3 _ X4.out)
    have X5' := hide (hX3 _ X5.out)
    have X6' := hide (hX3 _ X6.out)
    have X8 := hide x8
    have HXX' := hide (fun k hk => hX3 k (HXX.out k hk))
    have HT := hide ht
    clear Y4 Y5 Y6 HP X4 X5 X6 HXX
    have Y4 := hide y4'
    have Y5 := hide y5'
    have Y6 := hide y6'
    have Y8 := hide y8'
    have HP := hide hP3
    obtain ⟨y0, y1, y2, y3, y4, y5, y6⟩ := blk7 y5'
    clear y4' y5' y6' y8' hP1 hP3 c1 kA kB x8 hX3 ht
    go_wp2_with fail
    refine (pairGateLogged HP.out hl at_).mono ?_
    rintro e w5 ⟨A5, n5, c5, rfl, hn5, mp5, rv5, hP5, st5⟩
    rw [if_pos HW.out, HF.out.miss HW.out] at hn5
    subst hn5
    clear y0 y1 y2 y3 y4 y5 y6
    have y4' := HP.out.box st5 X4'.out Y4.out
    have y6' := HP.out.box st5 X6'.out Y6.out
    have y8' := HP.out.box st5 X8.out Y8.out
    rw [show logS s at_ = t from HT.out.symm] at hP5
    clear Y4 Y5 Y6 Y8 HP
    obtain ⟨x0, x1, x2, x3, x4, x5, x6, x7, x8⟩ := blk9 y4'
    obtain ⟨b0, b1, b2, b3, b4, b5, b6, b7, b8⟩ := blk9 y8'
    have Y6 := hide y6'
    have HP := hide hP5
    have X6 := X6'
    have HXX := HXX'
    clear y4' y6' y8' hP5 st5
    obtain ⟨e0, e1, e2, e3, e4, e5, e6, e7, e8⟩ := blk9 Y6.out
    obtain ⟨f0, f1, f2, f3, f4, f5, f6, f7, f8⟩ := frz9 Y6.out
    obtain ⟨hB9, hC9⟩ := put9 Y6.out (.int .i64 t.p) (.bool t.shut) (.bool t.cut) (.int .u64 (t.id : Int)) (.string t.name) (.int .u64 (t.at_ : Int)) (.int .i64 t.age) (.slice A1 t.n c1') (.slice B1 t.res.length d1)
    go_wp2_with fail
    generalize World.setCell _ _ _ = w9 at hB9 hC9 ⊢
    clear e0 e1 e2 e3 e4 e5 e6 e7 e8 f0 f1 f2 f3 f4 f5 f6 f7 f8 x0 x1 x2 x3 x4 x5 x6 x7 x8 b0 b1 b2 b3 b4 b5 b6 b7 b8
    obtain ⟨a0, a1, a2, a3, a4, a5, a6, a7, a8⟩ := blk9 hB9
    refine bodyPost_ret (v := .tuple #[.agg #[.int .i64 t.p, .bool t.shut, .bool t.cut, .int .u64 (t.id : Int), .string t.name, .int .u64 (t.at_ : Int), .int .i64 t.age, .slice A1 t.n c1', .slice B1 t.res.length d1], .bool true]) (by simp [results, Try.results8, go_sem, a0, a1, a2, a3, a4, a5, a6, a7, a8]) rfl ⟨_, mp5, rv5, rfl, ?_⟩
    rw [← HT.out]
    exact (HP.out.chg hC9 fun k hk => by subst hk; exact ⟨X6.out, Nat.le_trans Z0.out (by omega)⟩).weak HXX.out
  · go_wp2_with fail
    refine (pairRefWants HP.out).mono ?_
    rintro e w1 ⟨rfl, hP1, c1⟩
    rw [hw]
    have HW := hide hw
    clear hw
    clear x0 x1 x2 x3 x4 x5 x6 x7 x8 y0 y1 y2 y3 y4 y5 y6
    have y4' := Y4.out.c0 c1
    have y5' := Y5.out.c0 c1
    have y6' := Y6.out.c0 c1
    clear Y4 Y5 Y6 HP
    have Y4 := hide y4'
    have Y5 := hide y5'
    have Y6 := hide y6'
    have HP := hide hP1
    obtain ⟨x0, x1, x2, x3, x4, x5, x6, x7, x8⟩ := blk9 y4'
    obtain ⟨y0, y1, y2, y3, y4, y5, y6⟩ := blk7 y5'
    clear y4' y5' y6' hP1 c1 hWW
    go_wp2_with fail
    refine (pairRefLogged HP.out hl at_).mono ?_
    rintro e w2 ⟨v1, rfl, hP1, c1⟩
    clear x0 x1 x2 x3 x4 x5 x6 x7 x8 y0 y1 y2 y3 y4 y5 y6
    obtain ⟨t, ht⟩ : ∃ t, t = logS s at_ := ⟨_, rfl⟩
    rw [← ht] at hP1
    obtain ⟨A1, c1', B1, d1, rfl⟩ := hP1.shape
    have kA := c1.alloc (.cells #[.int .i64 t.p, .bool t.shut, .bool t.cut, .int .u64 (t.id : Int), .string t.name, .int .u64 (t.at_ : Int), .int .i64 t.age, .slice A1 t.n c1', .slice B1 t.res.length d1] 30)
    have kB := (Chg.refl Non w2).alloc (.cells #[.int .i64 t.p, .bool t.shut, .bool t.cut, .int .u64 (t.id : Int), .string t.name, .int .u64 (t.at_ : Int), .int .i64 t.age, .slice A1 t.n c1', .slice B1 t.res.length d1] 30)
    have y4' := Y4.out.c0 kA
    have y5' := Y5.out.c0 kA
    have y6' := Y6.out.c0 kA
    have y8' := Blk.new w2 30 #[.int .i64 t.p, .bool t.shut, .bool t.cut, .int .u64 (t.id : Int), .string t.name, .int .u64 (t.at_ : Int), .int .i64 t.age, .slice A1 t.n c1', .slice B1 t.res.length d1]
    obtain ⟨X3, hX3, hP3, x8⟩ : ∃ X3 : Nat → Prop, (∀ k, X2 k → X3 k) ∧ Pair X3 b w0 (w2.alloc (.cells #[.int .i64 t.p, .bool t.shut, .bool t.cut, .int .u64 (t.id : Int), .string t.name, .int .u64 (t.at_ : Int), .int .i64 t.age, .slice A1 t.n c1', .slice B1 t.res.length d1] 30)) g mp rv (.agg #[.int .i64 t.p, .bool t.shut, .bool t.cut, .int .u64 (t.id : Int), .string t.name, .int .u64 (t.at_ : Int), .int .i64 t.age, .slice A1 t.n c1', .slice B1 t.res.length d1]) s t ∧ X3 w2.heap.size := ⟨_, fun k hk => .inl hk, hP1.fence kB, .inr ⟨Nat.le_refl _, y8'.lt⟩⟩
    have X4' := hide (hX3 _ X4.out)
    have X5' := hide (hX3 _ X5.out)
    have X6' := hide (hX3 _ X6.out)
    have X8 := hide x8
    have HXX' := hide (fun k hk => hX3 k (HXX.out k hk))
    have HT := hide ht
    clear Y4 Y5 Y6 HP X4 X5 X6 HXX
    have Y4 := hide y4'
    have Y5 := hide y5'
    have Y6 := hide y6'
    have Y8 := hide y8'
    have HP := hide hP3
    obtain ⟨y0, y1, y2, y3, y4, y5, y6⟩ := blk7 y5'
    clear y4' y5' y6' y8' hP1 hP3 c1 kA kB x8 hX3 ht
    go_wp2_with fail
    refine (pairGateLogged HP.out hl at_).mono ?_
    rintro e w5 ⟨A5, n5, c5, rfl, hn5, mp5, rv5, hP5, st5⟩
    rw [if_neg (by rw [HW.out]; decide)] at hn5
    subst hn5
    clear y0 y1 y2 y3 y4 y5 y6
    have y4' := HP.out.box st5 X4'.out Y4.out
    have y6' := HP.out.box st5 X6'.out Y6.out
    have y8' := HP.out.box st5 X8.out Y8.out
    rw [show logS s at_ = t from HT.out.symm] at hP5
    clear Y4 Y5 Y6 Y8 HP
    obtain ⟨x0, x1, x2, x3, x4, x5, x6, x7, x8⟩ := blk9 y4'
    obtain ⟨b0, b1, b2, b3, b4, b5, b6, b7, b8⟩ := blk9 y8'
    have Y6 := hide y6'
    have HP := hide hP5
    have X6 := X6'
    have HXX := HXX'
    clear y4' y6' y8' hP5 st5
    obtain ⟨e0, e1, e2, e3, e4, e5, e6, e7, e8⟩ := blk9 Y6.out
    obtain ⟨f0, f1, f2, f3, f4, f5, f6, f7, f8⟩ := frz9 Y6.out
    obtain ⟨hB9, hC9⟩ := put9 Y6.out (.int .i64 t.p) (.bool t.shut) (.bool t.cut) (.int .u64 (t.id : Int)) (.string t.name) (.int .u64 (t.at_ : Int)) (.int .i64 t.age) (.slice A1 t.n c1') (.slice B1 t.res.length d1)
    go_wp2_with fail
    generalize World.setCell _ _ _ = w9 at hB9 hC9 ⊢
    clear e0 e1 e2 e3 e4 e5 e6 e7 e8 f0 f1 f2 f3 f4 f5 f6 f7 f8 x0 x1 x2 x3 x4 x5 x6 x7 x8 b0 b1 b2 b3 b4 b5 b6 b7 b8
    obtain ⟨a0, a1, a2, a3, a4, a5, a6, a7, a8⟩ := blk9 hB9
    refine bodyPost_ret (v := .tuple #[.agg #[.int .i64 t.p, .bool t.shut, .bool t.cut, .int .u64 (t.id : Int), .string t.name, .int .u64 (t.at_ : Int), .int .i64 t.age, .slice A1 t.n c1', .slice B1 t.res.length d1], .bool true]) (by simp [results, Try.results8, go_sem, a0, a1, a2, a3, a4, a5, a6, a7, a8]) rfl ⟨_, mp5, rv5, rfl, ?_⟩
    rw [← HT.out]
    exact (HP.out.chg hC9 fun k hk => by subst hk; exact ⟨X6.out, Nat.le_trans Z0.out (by omega)⟩).weak HXX.out
end Go.Proofs.Ytlcnlcjfnpicgaa
