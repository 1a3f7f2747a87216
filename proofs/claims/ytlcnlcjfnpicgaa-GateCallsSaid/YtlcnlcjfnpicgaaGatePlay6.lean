/- play: Results (printed by genplay.py). -/
import Derived.Test.YtlcnlcjfnpicgaaGatePlay0
import Derived.BigQuiet
import Derived.Deep.RegionLaw
namespace Go.Proofs.Ytlcnlcjfnpicgaa
open Go.RowKit Go.Maps

set_option maxHeartbeats 4000000 in
set_option maxRecDepth 100000 in
theorem play6 {X : Nat → Prop} {b : Nat} {w0 w : World} {g : Nat} {mp rv v : Value} {s : GSt} {j : Nat} (h : Pair X b w0 w g mp rv v s s) (hf : Fit s j) (hj : j ≤ 1000) (shard answer err : Int) (id at_ : Nat) (name : ByteArray) (hat : U64 at_) :
    Calls Try.prog 8 #[.pointer (some ⟨g, 0, none⟩), v, .agg #[.int .i64 6, .int .i64 shard, .int .i64 answer, .int .i64 err, .int .u64 (id : Int), .int .u64 (at_ : Int), .string name]] w fun e w' =>
      ∃ v' mp' rv', e = .returned (.tuple #[v', .bool true]) ∧ Pair X b w0 w' g mp' rv' v' ({ s with res := [] }) ({ s with res := [] }) := by
  obtain ⟨A, c, B, d, rfl⟩ := h.shape
  obtain ⟨X2, hP, hXX, x4, x5, x6, b4, b5, b6, z0⟩ := playSetup h #[.int .i64 s.p, .bool s.shut, .bool s.cut, .int .u64 (s.id : Int), .string s.name, .int .u64 (s.at_ : Int), .int .i64 s.age, .slice A s.n c, .slice B s.res.length d] #[.int .i64 6, .int .i64 shard, .int .i64 answer, .int .i64 err, .int .u64 (id : Int), .int .u64 (at_ : Int), .string name]
  clear h
  unfold z9 at *
  have HXX := hide hXX
  have X4 := hide x4
  have X5 := hide x5
  have X6 := hide x6
  have Z0 := hide z0
  have hl : s.res.length ≤ 100000 := by have := hf.res; omega
  have hag : -1000000000 ≤ s.age ∧ s.age ≤ 1000000000 := by have := hf.age; omega
  have HF := hide hf
  clear hXX x4 x5 x6 z0 hf
  generalize hWW : ((w.alloc _).alloc _).alloc _ = WW at b4 b5 b6 hP
  obtain ⟨x0, x1, x2, x3, x4, x5, x6, x7, x8⟩ := blk9 b4
  obtain ⟨f0, f1, f2, f3, f4, f5, f6, f7, f8⟩ := frz9 b6
  obtain ⟨y0, y1, y2, y3, y4, y5, y6⟩ := blk7 b5
  have HP := hide hP
  have Y4 := hide b4
  have Y5 := hide b5
  have Y6 := hide b6
  clear hP b4 b5 b6
  clear f0 f1 f2 f3 f4 f5 f6 f7 f8
  go_enter Try.func8, Try.ntmps8
  obtain ⟨F, hr, hF⟩ := HP.out.open_
  have hres := gateResults (HP.out.c0 ((Chg.refl Non _).drew)).ga
  have hkeep := fun (w5 : World) (mp5 rv5 : Value) (st5 : Stp WW.drew w5 g mp rv mp5 rv5) => (HP.out.c0 ((Chg.refl Non _).drew)).box st5 X4.out (Y4.out.c0 ((Chg.refl Non _).drew))
  have hq := fun (w5 : World) (mp5 rv5 : Value) (st5 : Stp WW.drew w5 g mp rv mp5 rv5) => ((hr.r.chg ((Chg.refl Non _).drew) (fun _ _ h => h)).chg st5.chg fun k hk => (hF k hk).2.1)
  have HC := hide hres
  have HK := hide hkeep
  have HQ := hide hq
  have x8d : WW.drew.cell? ⟨w.heap.size, 8, none⟩ = some (.slice B s.res.length d) := x8
  clear hres hkeep hq hF hr
  go_upto_region 20 with fail
  clear hWW
  go_region_law (first
    | (go_simp; go_at_call 16; refine HC.out.mono ?_; rintro e w5 ⟨rfl, hr5, hg5, st5⟩; have z8 := (HK.out _ _ _ st5).cell 8; have f8 := (HK.out _ _ _ st5).frozen 8; simp at z8)
    | (go_simp; go_at_call 15; refine (lawResults hr5 (HQ.out _ _ _ st5) hl).mono ?_; rintro e w6 ⟨rfl, hk6⟩))
  all_goals
    (try simp only [List.getElem_toArray, List.getElem_cons_zero, List.getElem_cons_succ, Act.put, List.setIfInBounds_toArray, List.set_cons_zero, List.set_cons_succ])
    have c6 := (Chg.refl Non _).quiet hk6
    have y4' := ((HK.out _ _ _ st5).c0 c6)
    have y6' := ((HP.out.c0 ((Chg.refl Non _).drew)).box st5 X6.out (Y6.out.c0 ((Chg.refl Non _).drew))).c0 c6
    have hP5 := (((HP.out.c0 ((Chg.refl Non _).drew)).gate hg5 st5).cleared).c0 c6
    have y4s := set9_8 y4' (.slice none 0 0)
    have cs := (Chg.refl (fun j => j = w.heap.size) w6).setCell (p := ⟨w.heap.size, 8, none⟩) (fun _ => rfl) (.slice none 0 0)
    have y6s := y6'.far (p := ⟨w.heap.size, 8, none⟩) (show w.heap.size + 1 + 1 ≠ w.heap.size by omega) (.slice none 0 0)
    have hP6 := hP5.chg cs fun k hk => by subst hk; exact ⟨X4.out, Z0.out⟩
    have zz := y4'.cell 8
    simp at zz
    have zf := y4'.frozen 8
    have Y4' := hide y4s
    have Y6' := hide y6s
    have HP' := hide hP6
    have H0 := hide (show w.heap.size ≠ w.heap.size + 1 + 1 by omega)
    clear hr5 hg5 st5 z8 f8 hk6 c6 y4' y6' hP5 y4s cs y6s hP6 x0 x1 x2 x3 x4 x5 x6 x7 x8 x8d y0 y1 y2 y3 y4 y5 y6 HC HK HQ HP Y4 Y5 Y6
    have Y6 := Y6'
    have HP := HP'
    go_upto_region 22 with fail
    generalize World.setCell _ _ _ = w7 at Y4' Y6 HP ⊢
    obtain ⟨x0, x1, x2, x3, x4, x5, x6, x7, x8⟩ := blk9 Y4'.out
    clear zz zf Y6' HP'
    obtain ⟨e0, e1, e2, e3, e4, e5, e6, e7, e8⟩ := blk9 Y6.out
    obtain ⟨f0, f1, f2, f3, f4, f5, f6, f7, f8⟩ := frz9 Y6.out
    obtain ⟨hB9, hC9⟩ := put9 Y6.out (.int .i64 s.p) (.bool s.shut) (.bool s.cut) (.int .u64 (s.id : Int)) (.string s.name) (.int .u64 (s.at_ : Int)) (.int .i64 s.age) (.slice A s.n c) (.slice none 0 0)
    go_wp2_with fail
    generalize World.setCell _ _ _ = w9 at hB9 hC9 ⊢
    clear e0 e1 e2 e3 e4 e5 e6 e7 e8 f0 f1 f2 f3 f4 f5 f6 f7 f8 x0 x1 x2 x3 x4 x5 x6 x7 x8
    obtain ⟨a0, a1, a2, a3, a4, a5, a6, a7, a8⟩ := blk9 hB9
    refine bodyPost_ret (v := .tuple #[.agg #[.int .i64 s.p, .bool s.shut, .bool s.cut, .int .u64 (s.id : Int), .string s.name, .int .u64 (s.at_ : Int), .int .i64 s.age, .slice A s.n c, .slice none 0 0], .bool true]) (by simp [results, Try.results8, go_sem, a0, a1, a2, a3, a4, a5, a6, a7, a8]) rfl ⟨_, mp, .slice none 0 0, rfl, ?_⟩

    exact (HP.out.chg hC9 fun k hk => by subst hk; exact ⟨X6.out, Nat.le_trans Z0.out (by omega)⟩).weak HXX.out
end Go.Proofs.Ytlcnlcjfnpicgaa
