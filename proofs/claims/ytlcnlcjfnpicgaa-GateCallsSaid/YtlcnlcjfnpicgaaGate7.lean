/- The walks of gate's Record and Barrier. -/
import Derived.Test.YtlcnlcjfnpicgaaGate6
namespace Go.Proofs.Ytlcnlcjfnpicgaa
open Go.RowKit Go.Maps

theorem blk11 {w : World} {g : Nat} {t : TypeId} {a0 a1 a2 a3 a4 a5 a6 a7 a8 a9 a10 : Value} (h : Blk w g t #[a0, a1, a2, a3, a4, a5, a6, a7, a8, a9, a10]) :
    w.cell? ⟨g, 0, none⟩ = some a0 ∧ w.cell? ⟨g, 1, none⟩ = some a1 ∧ w.cell? ⟨g, 2, none⟩ = some a2 ∧ w.cell? ⟨g, 3, none⟩ = some a3 ∧ w.cell? ⟨g, 4, none⟩ = some a4 ∧ w.cell? ⟨g, 5, none⟩ = some a5 ∧ w.cell? ⟨g, 6, none⟩ = some a6 ∧ w.cell? ⟨g, 7, none⟩ = some a7 ∧ w.cell? ⟨g, 8, none⟩ = some a8 ∧ w.cell? ⟨g, 9, none⟩ = some a9 ∧ w.cell? ⟨g, 10, none⟩ = some a10 :=
  ⟨h.cell 0, h.cell 1, h.cell 2, h.cell 3, h.cell 4, h.cell 5, h.cell 6, h.cell 7, h.cell 8, h.cell 9, h.cell 10⟩
theorem frz11 {w : World} {g : Nat} {t : TypeId} {cs : Array Value} (h : Blk w g t cs) :
    w.frozen? ⟨g, 0, none⟩ = false ∧ w.frozen? ⟨g, 1, none⟩ = false ∧ w.frozen? ⟨g, 2, none⟩ = false ∧ w.frozen? ⟨g, 3, none⟩ = false ∧ w.frozen? ⟨g, 4, none⟩ = false ∧ w.frozen? ⟨g, 5, none⟩ = false ∧ w.frozen? ⟨g, 6, none⟩ = false ∧ w.frozen? ⟨g, 7, none⟩ = false ∧ w.frozen? ⟨g, 8, none⟩ = false ∧ w.frozen? ⟨g, 9, none⟩ = false ∧ w.frozen? ⟨g, 10, none⟩ = false :=
  ⟨h.frozen 0, h.frozen 1, h.frozen 2, h.frozen 3, h.frozen 4, h.frozen 5, h.frozen 6, h.frozen 7, h.frozen 8, h.frozen 9, h.frozen 10⟩
theorem put11 {w : World} {g : Nat} {t : TypeId} {b0 b1 b2 b3 b4 b5 b6 b7 b8 b9 b10 : Value} (h : Blk w g t #[b0, b1, b2, b3, b4, b5, b6, b7, b8, b9, b10]) (a0 a1 a2 a3 a4 a5 a6 a7 a8 a9 a10 : Value) :
    Blk (((((((((((w.setCell ⟨g, 0, none⟩ a0).setCell ⟨g, 1, none⟩ a1).setCell ⟨g, 2, none⟩ a2).setCell ⟨g, 3, none⟩ a3).setCell ⟨g, 4, none⟩ a4).setCell ⟨g, 5, none⟩ a5).setCell ⟨g, 6, none⟩ a6).setCell ⟨g, 7, none⟩ a7).setCell ⟨g, 8, none⟩ a8).setCell ⟨g, 9, none⟩ a9).setCell ⟨g, 10, none⟩ a10) g t #[a0, a1, a2, a3, a4, a5, a6, a7, a8, a9, a10] ∧
    Chg (fun k => k = g) w (((((((((((w.setCell ⟨g, 0, none⟩ a0).setCell ⟨g, 1, none⟩ a1).setCell ⟨g, 2, none⟩ a2).setCell ⟨g, 3, none⟩ a3).setCell ⟨g, 4, none⟩ a4).setCell ⟨g, 5, none⟩ a5).setCell ⟨g, 6, none⟩ a6).setCell ⟨g, 7, none⟩ a7).setCell ⟨g, 8, none⟩ a8).setCell ⟨g, 9, none⟩ a9).setCell ⟨g, 10, none⟩ a10) := by
  refine ⟨?_, ?_⟩
  · have hx := ((((((((((h.set_ 0 a0).set_ 1 a1).set_ 2 a2).set_ 3 a3).set_ 4 a4).set_ 5 a5).set_ 6 a6).set_ 7 a7).set_ 8 a8).set_ 9 a9).set_ 10 a10
    simp only [List.setIfInBounds_toArray, List.set_cons_succ, List.set_cons_zero] at hx
    exact hx
  · exact (((((((((((Chg.refl (fun k => k = g) w).setCell (p := ⟨g, 0, none⟩) (fun _ => rfl) a0).setCell (p := ⟨g, 1, none⟩) (fun _ => rfl) a1).setCell (p := ⟨g, 2, none⟩) (fun _ => rfl) a2).setCell (p := ⟨g, 3, none⟩) (fun _ => rfl) a3).setCell (p := ⟨g, 4, none⟩) (fun _ => rfl) a4).setCell (p := ⟨g, 5, none⟩) (fun _ => rfl) a5).setCell (p := ⟨g, 6, none⟩) (fun _ => rfl) a6).setCell (p := ⟨g, 7, none⟩) (fun _ => rfl) a7).setCell (p := ⟨g, 8, none⟩) (fun _ => rfl) a8).setCell (p := ⟨g, 9, none⟩) (fun _ => rfl) a9).setCell (p := ⟨g, 10, none⟩) (fun _ => rfl) a10
/-- a record that a gate wants, in cells -/
def recC (kind : Int) (id : Int) (name : ByteArray) : Array Value :=
  #[.int .i64 kind, .int .u64 0, .int .u64 0, .int .u64 0, .slice none 0 0, .slice none 0 0, .bool false, .slice none 0 0, .slice none 0 0, .int .u64 id, .string name]
theorem wants_le7 (s : GSt) : wantsS s = 0 ∨ wantsS s = 1 ∨ wantsS s = 2 := by
  unfold wantsS
  split
  · exact .inl rfl
  · split
    · exact .inr (.inl rfl)
    · split
      · exact .inr (.inr rfl)
      · exact .inl rfl
/-- the record that is wanted -/
def recV (s : GSt) : Value := if wantsS s = 1 then .agg (recC 7 s.id s.name) else if wantsS s = 2 then .agg (recC 8 s.id s.name) else .agg (recC 0 0 ⟨#[]⟩)
theorem box11 (w : World) (cs : Array Value) : Blk ((w.alloc (.cells (recC 0 0 ⟨#[]⟩) 54)).alloc (.cells cs 54)) w.heap.size 54 (recC 0 0 ⟨#[]⟩) ∧
    Blk ((w.alloc (.cells (recC 0 0 ⟨#[]⟩) 54)).alloc (.cells cs 54)) (w.heap.size + 1) 54 cs ∧ Chg Non w ((w.alloc (.cells (recC 0 0 ⟨#[]⟩) 54)).alloc (.cells cs 54)) := by
  have h := Blk.new (w.alloc (.cells (recC 0 0 ⟨#[]⟩) 54)) 54 cs
  rw [show (w.alloc (.cells (recC 0 0 ⟨#[]⟩) 54)).heap.size = w.heap.size + 1 from by simp] at h
  exact ⟨(Blk.new w _ _).al _, h, ((Chg.refl Non w).alloc _).alloc _⟩

set_option maxHeartbeats 4000000 in
set_option maxRecDepth 100000 in
theorem gateRecord {w : World} {base g : Nat} {mp rv : Value} {s : GSt} (h : GateAt w base g mp rv s) :
    Calls Try.prog 18 #[.pointer (some ⟨g, 0, none⟩)] w fun e w' => e = .returned (recV s) ∧ Chg Non w w' := by
  obtain ⟨y2, y3, k3⟩ := box11 w (recC 0 s.id s.name)
  have hb := h.blk.al (.cells (recC 0 0 ⟨#[]⟩) 54)
  have q3 : (w.alloc (.cells (recC 0 0 ⟨#[]⟩) 54)).cell? ⟨g, 3, none⟩ = some (.int .i64 0) := by rw [hb.cell]; rfl
  have q4 : (w.alloc (.cells (recC 0 0 ⟨#[]⟩) 54)).cell? ⟨g, 4, none⟩ = some (.int .u64 0) := by rw [hb.cell]; rfl
  have q5 : (w.alloc (.cells (recC 0 0 ⟨#[]⟩) 54)).cell? ⟨g, 5, none⟩ = some (.int .u64 0) := by rw [hb.cell]; rfl
  have q6 : (w.alloc (.cells (recC 0 0 ⟨#[]⟩) 54)).cell? ⟨g, 6, none⟩ = some (.int .u64 0) := by rw [hb.cell]; rfl
  have q7 : (w.alloc (.cells (recC 0 0 ⟨#[]⟩) 54)).cell? ⟨g, 7, none⟩ = some (.slice none 0 0) := by rw [hb.cell]; rfl
  have q8 : (w.alloc (.cells (recC 0 0 ⟨#[]⟩) 54)).cell? ⟨g, 8, none⟩ = some (.slice none 0 0) := by rw [hb.cell]; rfl
  have q9 : (w.alloc (.cells (recC 0 0 ⟨#[]⟩) 54)).cell? ⟨g, 9, none⟩ = some (.bool false) := by rw [hb.cell]; rfl
  have q10 : (w.alloc (.cells (recC 0 0 ⟨#[]⟩) 54)).cell? ⟨g, 10, none⟩ = some (.slice none 0 0) := by rw [hb.cell]; rfl
  have q11 : (w.alloc (.cells (recC 0 0 ⟨#[]⟩) 54)).cell? ⟨g, 11, none⟩ = some (.slice none 0 0) := by rw [hb.cell]; rfl
  have q12 : (w.alloc (.cells (recC 0 0 ⟨#[]⟩) 54)).cell? ⟨g, 12, none⟩ = some (.int .u64 (s.id : Int)) := by rw [hb.cell]; rfl
  have q13 : (w.alloc (.cells (recC 0 0 ⟨#[]⟩) 54)).cell? ⟨g, 13, none⟩ = some (.string s.name) := by rw [hb.cell]; rfl
  have hwants := gateWants (h.c0 k3)
  unfold recC at *
  have K3 := hide k3
  have Y2 := hide y2
  have Y3 := hide y3
  have Z2 := hide y2.lt
  clear h hb k3 y2 y3
  go_enter Try.func18, Try.ntmps18
  go_wp2_with fail
  refine hwants.mono ?_
  rintro e w1 ⟨rfl, hq⟩
  have k1 := K3.out.quiet hq
  have y2 := Y2.out.c0 ((Chg.refl Non _).quiet hq)
  have y3 := Y3.out.c0 ((Chg.refl Non _).quiet hq)
  clear hq q3 q4 q5 q6 q7 q8 q9 q10 q11 q12 q13
  rcases wants_le7 s with hw | hw | hw
  · have HR := hide (show recV s = .agg (recC 0 0 ⟨#[]⟩) by rw [recV, if_neg (by rw [hw]; decide), if_neg (by rw [hw]; decide)])
    unfold recC at HR
    rw [hw] at *
    have Y5 := hide y2
    have K4 := hide k1
    clear hw y3 y2 k1 Y2 Y3 K3
    obtain ⟨c0, c1, c2, c3, c4, c5, c6, c7, c8, c9, c10⟩ := blk11 Y5.out
    obtain ⟨f0, f1, f2, f3, f4, f5, f6, f7, f8, f9, f10⟩ := frz11 Y5.out
    obtain ⟨hB9, hC9⟩ := put11 Y5.out (.int .i64 0) (.int .u64 0) (.int .u64 0) (.int .u64 0) (.slice none 0 0) (.slice none 0 0) (.bool false) (.slice none 0 0) (.slice none 0 0) (.int .u64 0) (.string ⟨#[]⟩)
    go_wp2_with fail
    generalize World.setCell _ _ _ = w9 at hB9 hC9 ⊢
    clear c0 c1 c2 c3 c4 c5 c6 c7 c8 c9 c10 f0 f1 f2 f3 f4 f5 f6 f7 f8 f9 f10
    obtain ⟨a0, a1, a2, a3, a4, a5, a6, a7, a8, a9, a10⟩ := blk11 hB9
    refine bodyPost_ret (v := .agg #[.int .i64 0, .int .u64 0, .int .u64 0, .int .u64 0, .slice none 0 0, .slice none 0 0, .bool false, .slice none 0 0, .slice none 0 0, .int .u64 0, .string ⟨#[]⟩]) (by simp [results, Try.results18, go_sem, a0, a1, a2, a3, a4, a5, a6, a7, a8, a9, a10]) rfl ⟨?_, ?_⟩
    · rw [HR.out]
    · exact K4.out.trans hC9 fun k hk e => by omega
  · have HR := hide (show recV s = .agg (recC 7 s.id s.name) by rw [recV, if_pos hw])
    unfold recC at HR
    rw [hw] at *
    have g0 := y3.frozen 0
    have g1 := y3.cell 0
    simp at g1
    have y4 := y3.set_ 0 (.int .i64 7)
    simp only [List.setIfInBounds_toArray, List.set_cons_succ, List.set_cons_zero] at y4
    have y5 := y2.far (p := ⟨w.heap.size + 1, 0, none⟩) (by simp) (.int .i64 7)
    have k4 := k1.trans ((Chg.refl (fun j => j = w.heap.size + 1) w1).setCell (p := ⟨w.heap.size + 1, 0, none⟩) (fun _ => rfl) (.int .i64 7)) fun k hk e => by omega
    have K4 := hide k4
    have Y4 := hide y4
    have Y5 := hide y5
    have Z2 := Z2
    clear hw k1 y2 y3 y4 y5 k4 Y2 Y3 K3
    clear hwants
    go_upto_region 8 with fail
    generalize World.setCell _ _ _ = w4 at Y4 Y5 K4 ⊢
    clear g0 g1
    obtain ⟨a0, a1, a2, a3, a4, a5, a6, a7, a8, a9, a10⟩ := blk11 Y4.out
    obtain ⟨c0, c1, c2, c3, c4, c5, c6, c7, c8, c9, c10⟩ := blk11 Y5.out
    obtain ⟨f0, f1, f2, f3, f4, f5, f6, f7, f8, f9, f10⟩ := frz11 Y5.out
    obtain ⟨hB9, hC9⟩ := put11 Y5.out (.int .i64 7) (.int .u64 0) (.int .u64 0) (.int .u64 0) (.slice none 0 0) (.slice none 0 0) (.bool false) (.slice none 0 0) (.slice none 0 0) (.int .u64 (s.id : Int)) (.string s.name)
    go_wp2_with fail
    generalize World.setCell _ _ _ = w9 at hB9 hC9 ⊢
    clear a0 a1 a2 a3 a4 a5 a6 a7 a8 a9 a10 c0 c1 c2 c3 c4 c5 c6 c7 c8 c9 c10 f0 f1 f2 f3 f4 f5 f6 f7 f8 f9 f10
    obtain ⟨a0, a1, a2, a3, a4, a5, a6, a7, a8, a9, a10⟩ := blk11 hB9
    refine bodyPost_ret (v := .agg #[.int .i64 7, .int .u64 0, .int .u64 0, .int .u64 0, .slice none 0 0, .slice none 0 0, .bool false, .slice none 0 0, .slice none 0 0, .int .u64 (s.id : Int), .string s.name]) (by simp [results, Try.results18, go_sem, a0, a1, a2, a3, a4, a5, a6, a7, a8, a9, a10]) rfl ⟨?_, ?_⟩
    · rw [HR.out]
    · exact K4.out.trans hC9 fun k hk e => by omega
  · have HR := hide (show recV s = .agg (recC 8 s.id s.name) by rw [recV, if_neg (by rw [hw]; decide), if_pos hw])
    unfold recC at HR
    rw [hw] at *
    have g0 := y3.frozen 0
    have g1 := y3.cell 0
    simp at g1
    have y4 := y3.set_ 0 (.int .i64 8)
    simp only [List.setIfInBounds_toArray, List.set_cons_succ, List.set_cons_zero] at y4
    have y5 := y2.far (p := ⟨w.heap.size + 1, 0, none⟩) (by simp) (.int .i64 8)
    have k4 := k1.trans ((Chg.refl (fun j => j = w.heap.size + 1) w1).setCell (p := ⟨w.heap.size + 1, 0, none⟩) (fun _ => rfl) (.int .i64 8)) fun k hk e => by omega
    have K4 := hide k4
    have Y4 := hide y4
    have Y5 := hide y5
    have Z2 := Z2
    clear hw k1 y2 y3 y4 y5 k4 Y2 Y3 K3
    clear hwants
    go_upto_region 8 with fail
    generalize World.setCell _ _ _ = w4 at Y4 Y5 K4 ⊢
    clear g0 g1
    obtain ⟨a0, a1, a2, a3, a4, a5, a6, a7, a8, a9, a10⟩ := blk11 Y4.out
    obtain ⟨c0, c1, c2, c3, c4, c5, c6, c7, c8, c9, c10⟩ := blk11 Y5.out
    obtain ⟨f0, f1, f2, f3, f4, f5, f6, f7, f8, f9, f10⟩ := frz11 Y5.out
    obtain ⟨hB9, hC9⟩ := put11 Y5.out (.int .i64 8) (.int .u64 0) (.int .u64 0) (.int .u64 0) (.slice none 0 0) (.slice none 0 0) (.bool false) (.slice none 0 0) (.slice none 0 0) (.int .u64 (s.id : Int)) (.string s.name)
    go_wp2_with fail
    generalize World.setCell _ _ _ = w9 at hB9 hC9 ⊢
    clear a0 a1 a2 a3 a4 a5 a6 a7 a8 a9 a10 c0 c1 c2 c3 c4 c5 c6 c7 c8 c9 c10 f0 f1 f2 f3 f4 f5 f6 f7 f8 f9 f10
    obtain ⟨a0, a1, a2, a3, a4, a5, a6, a7, a8, a9, a10⟩ := blk11 hB9
    refine bodyPost_ret (v := .agg #[.int .i64 8, .int .u64 0, .int .u64 0, .int .u64 0, .slice none 0 0, .slice none 0 0, .bool false, .slice none 0 0, .slice none 0 0, .int .u64 (s.id : Int), .string s.name]) (by simp [results, Try.results18, go_sem, a0, a1, a2, a3, a4, a5, a6, a7, a8, a9, a10]) rfl ⟨?_, ?_⟩
    · rw [HR.out]
    · exact K4.out.trans hC9 fun k hk e => by omega
end Go.Proofs.Ytlcnlcjfnpicgaa
