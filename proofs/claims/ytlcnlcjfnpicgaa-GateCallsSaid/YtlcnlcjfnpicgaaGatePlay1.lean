/- play: Begin (printed by genplay.py). -/
import Derived.Test.YtlcnlcjfnpicgaaGatePlay0
import Derived.BigQuiet
import Derived.Deep.RegionLaw
namespace Go.Proofs.Ytlcnlcjfnpicgaa
open Go.RowKit Go.Maps

set_option maxHeartbeats 4000000 in
set_option maxRecDepth 100000 in
theorem play1 {X : Nat → Prop} {b : Nat} {w0 w : World} {g : Nat} {mp rv v : Value} {s : GSt} {j : Nat} (h : Pair X b w0 w g mp rv v s s) (hf : Fit s j) (hj : j ≤ 1000) (shard answer err : Int) (id at_ : Nat) (name : ByteArray) (hat : U64 at_) :
    Calls Try.prog 8 #[.pointer (some ⟨g, 0, none⟩), v, .agg #[.int .i64 1, .int .i64 shard, .int .i64 answer, .int .i64 err, .int .u64 (id : Int), .int .u64 (at_ : Int), .string name]] w fun e w' =>
      ∃ v' mp' rv', e = .returned (.tuple #[v', .bool true]) ∧ Pair X b w0 w' g mp' rv' v' (beginP s id name) (beginP s id name) := by
  obtain ⟨A, c, B, d, rfl⟩ := h.shape
  obtain ⟨X2, hP, hXX, x4, x5, x6, b4, b5, b6, z0⟩ := playSetup h #[.int .i64 s.p, .bool s.shut, .bool s.cut, .int .u64 (s.id : Int), .string s.name, .int .u64 (s.at_ : Int), .int .i64 s.age, .slice A s.n c, .slice B s.res.length d] #[.int .i64 1, .int .i64 shard, .int .i64 answer, .int .i64 err, .int .u64 (id : Int), .int .u64 (at_ : Int), .string name]
  clear h
  unfold z9 at *
  have HXX := hide hXX
  have X4 := hide x4
  have X5 := hide x5
  have X6 := hide x6
  have Z0 := hide z0
  have hl : s.res.length ≤ 100000 := by have := hf.res; omega
  have hag : -1000000000 ≤ s.age ∧ s.age ≤ 1000000000 := by have := hf.age; omega
  have HF := hide hf
  clear hXX x4 x5 x6 z0 hf
  generalize hWW : ((w.alloc _).alloc _).alloc _ = WW at b4 b5 b6 hP
  obtain ⟨x0, x1, x2, x3, x4, x5, x6, x7, x8⟩ := blk9 b4
  obtain ⟨f0, f1, f2, f3, f4, f5, f6, f7, f8⟩ := frz9 b6
  obtain ⟨y0, y1, y2, y3, y4, y5, y6⟩ := blk7 b5
  have HP := hide hP
  have Y4 := hide b4
  have Y5 := hide b5
  have Y6 := hide b6
  clear hP b4 b5 b6
  clear f0 f1 f2 f3 f4 f5 f6 f7 f8
  go_enter Try.func8, Try.ntmps8
  go_wp2_with fail
  refine (pairRefBegin HP.out HF.out.p id name).mono ?_
  rintro e w2 ⟨v1, rfl, hP1, c1⟩
  clear x0 x1 x2 x3 x4 x5 x6 x7 x8 y0 y1 y2 y3 y4 y5 y6
  obtain ⟨t, ht⟩ : ∃ t, t = (beginP s id name) := ⟨_, rfl⟩
  rw [← ht] at hP1
  obtain ⟨ev, hev⟩ : ∃ ev : Int, ev = beginE s := ⟨_, rfl⟩
  rw [← hev]
  obtain ⟨A1, c1', B1, d1, rfl⟩ := hP1.shape
  have kA := c1.alloc (.cells #[.int .i64 t.p, .bool t.shut, .bool t.cut, .int .u64 (t.id : Int), .string t.name, .int .u64 (t.at_ : Int), .int .i64 t.age, .slice A1 t.n c1', .slice B1 t.res.length d1] 30)
  have kB := (Chg.refl Non w2).alloc (.cells #[.int .i64 t.p, .bool t.shut, .bool t.cut, .int .u64 (t.id : Int), .string t.name, .int .u64 (t.at_ : Int), .int .i64 t.age, .slice A1 t.n c1', .slice B1 t.res.length d1] 30)
  have y4' := Y4.out.c0 kA
  have y5' := Y5.out.c0 kA
  have y6' := Y6.out.c0 kA
  have y8' := Blk.new w2 30 #[.int .i64 t.p, .bool t.shut, .bool t.cut, .int .u64 (t.id : Int), .string t.name, .int .u64 (t.at_ : Int), .int .i64 t.age, .slice A1 t.n c1', .slice B1 t.res.length d1]
  obtain ⟨X3, hX3, hP3, x8⟩ : ∃ X3 : Nat → Prop, (∀ k, X2 k → X3 k) ∧ Pair X3 b w0 (w2.alloc (.cells #[.int .i64 t.p, .bool t.shut, .bool t.cut, .int .u64 (t.id : Int), .string t.name, .int .u64 (t.at_ : Int), .int .i64 t.age, .slice A1 t.n c1', .slice B1 t.res.length d1] 30)) g mp rv (.agg #[.int .i64 t.p, .bool t.shut, .bool t.cut, .int .u64 (t.id : Int), .string t.name, .int .u64 (t.at_ : Int), .int .i64 t.age, .slice A1 t.n c1', .slice B1 t.res.length d1]) s t ∧ X3 w2.heap.size := ⟨_, fun k hk => .inl hk, hP1.fence kB, .inr ⟨Nat.le_refl _, y8'.lt⟩⟩
  replace hP3 := hP3.c0 ((Chg.refl Non _).drew)
  replace y5' := y5'.c0 ((Chg.refl Non _).drew)
  replace y6' := y6'.c0 ((Chg.refl Non _).drew)
  replace y8' := y8'.c0 ((Chg.refl Non _).drew)
  have X5' := hide (hX3 _ X5.out)
  have X6' := hide (hX3 _ X6.out)
  have X8 := hide x8
  have HXX' := hide (fun k hk => hX3 k (HXX.out k hk))
  have HT := hide ht
  have Y6g := hide (Y6.out.c0 c1)
  clear Y4 Y5 Y6 HP X4 X5 X6 HXX
  have HP := hide hP3
  have hcall := pairGateBegin hP3 id name
  rw [← hev, ← ht] at hcall
  have hkeep := fun (w5 : World) (mp5 rv5 : Value) (st5 : Stp (w2.alloc (.cells #[.int .i64 t.p, .bool t.shut, .bool t.cut, .int .u64 (t.id : Int), .string t.name, .int .u64 (t.at_ : Int), .int .i64 t.age, .slice A1 t.n c1', .slice B1 t.res.length d1] 30)).drew w5 g mp rv mp5 rv5) => HP.out.box st5 X8.out y8'
  have hbox := fun (w5 : World) (mp5 rv5 : Value) (st5 : Stp (w2.alloc (.cells #[.int .i64 t.p, .bool t.shut, .bool t.cut, .int .u64 (t.id : Int), .string t.name, .int .u64 (t.at_ : Int), .int .i64 t.age, .slice A1 t.n c1', .slice B1 t.res.length d1] 30)).drew w5 g mp rv mp5 rv5) => HP.out.box st5 X6'.out y6'
  have HC := hide hcall
  have HK := hide hkeep
  have HB := hide hbox
  obtain ⟨y0, y1, y2, y3, y4, y5, y6⟩ := blk7 y5'
  obtain ⟨b0, b1, b2, b3, b4, b5, b6, b7, b8⟩ := blk9 y8'
  clear y0 y1 y2 y3 y5
  clear y4' y5' y6' y8' hP1 hP3 c1 kA kB x8 hX3 ht hWW hev hcall hkeep hbox
  go_upto_region 4 with fail
  go_region_law (first
    | (go_simp; go_at_call 17; refine HC.out.mono ?_; rintro e w5 ⟨rfl, mp5, rv5, hP5, st5⟩; obtain ⟨e0, e1, e2, e3, e4, e5, e6, e7, e8⟩ := blk9 (HB.out _ _ _ st5); obtain ⟨f0, f1, f2, f3, f4, f5, f6, f7, f8⟩ := frz9 (HB.out _ _ _ st5); obtain ⟨z0, z1, z2, z3, z4, z5, z6, z7, z8⟩ := blk9 (HK.out _ _ _ st5)))
  all_goals
    simp only [List.getElem_toArray, List.getElem_cons_zero, List.getElem_cons_succ, Act.put, List.setIfInBounds_toArray, List.set_cons_zero, List.set_cons_succ]
    obtain ⟨hB9, hC9⟩ := put9 (HB.out _ _ _ st5) (.int .i64 t.p) (.bool t.shut) (.bool t.cut) (.int .u64 (t.id : Int)) (.string t.name) (.int .u64 (t.at_ : Int)) (.int .i64 t.age) (.slice A1 t.n c1') (.slice B1 t.res.length d1)
    clear e0 e1 e2 e3 e4 e5 e6 e7 e8 f0 f1 f2 f3 f4 f5 f6 f7 f8 b0 b1 b2 b3 b4 b5 b6 b7 b8 z0 z1 z2 z3 z4 z5 z6 z7 z8 y4 y6
    generalize World.setCell _ _ _ = w9 at hB9 hC9 ⊢
    go_step
    go_step
    go_wp2_with fail
    obtain ⟨a0, a1, a2, a3, a4, a5, a6, a7, a8⟩ := blk9 hB9
    refine bodyPost_ret (v := .tuple #[.agg #[.int .i64 t.p, .bool t.shut, .bool t.cut, .int .u64 (t.id : Int), .string t.name, .int .u64 (t.at_ : Int), .int .i64 t.age, .slice A1 t.n c1', .slice B1 t.res.length d1], .bool true]) (by simp [results, Try.results8, go_sem, a0, a1, a2, a3, a4, a5, a6, a7, a8]) rfl ?_
    have hfin : Pair X b w0 w9 g mp5 rv5 (.agg #[.int .i64 t.p, .bool t.shut, .bool t.cut, .int .u64 (t.id : Int), .string t.name, .int .u64 (t.at_ : Int), .int .i64 t.age, .slice A1 t.n c1', .slice B1 t.res.length d1]) (beginP s id name) (beginP s id name) := by
      rw [← HT.out]
      exact (hP5.chg hC9 fun k hk => by subst hk; exact ⟨X6'.out, Nat.le_trans Z0.out (by omega)⟩).weak HXX'.out
    first | exact ⟨_, mp5, rv5, rfl, hfin⟩ | exact ⟨_, rfl, mp5, rv5, hfin⟩
end Go.Proofs.Ytlcnlcjfnpicgaa
