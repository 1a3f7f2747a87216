/- The walk of rec's reader.field, letter by letter, behind an error. -/
import Derived.Test.YtpbgjldjipgfeaaRecU
namespace Go.Proofs.Ytpbgjldjipgfeaa
open Go.RowKit
set_option linter.unusedVariables false

/-- a record's block, whatever stands in it -/
def RecBox (w : World) (o : Nat) : Prop := ∃ c0 c1 c2 c3 c4 c5 c6 c7 c8 c9 c10, Blk w o 32 #[c0, c1, c2, c3, c4, c5, c6, c7, c8, c9, c10]
theorem fieldEndB {w w0 w1 w2 : World} {g o : Nat} {er : Int} {c0 c1 c2 c3 c4 c5 c6 c7 c8 c9 c10 : Value} (hk0 : Chg Non w w0) (hc1 : Chg (fun k => k = g) w0 w1) (hRd : RdErr w1 g er)
    (hco : Chg (fun k => k = o) w1 w2) (hbo : Blk w2 o 32 #[c0, c1, c2, c3, c4, c5, c6, c7, c8, c9, c10]) (hog : o ≠ g) :
    Ending.returned (.tuple #[]) = .returned (.tuple #[]) ∧ ∃ er, RecBox w2 o ∧ RdErr w2 g er ∧ Chg (fun k => k = g ∨ k = o) w w2 := by
  refine ⟨rfl, er, ⟨_, _, _, _, _, _, _, _, _, _, _, hbo⟩, hRd.chg hco (fun e => hog e.symm), ?_⟩
  exact ((hk0.mono (S' := fun k => k = g ∨ k = o) fun _ _ h => h.elim).trans hc1 fun _ _ h => .inl h).trans hco fun _ _ h => .inr h
theorem made3 : madeCells #[.int .u64 0] 3 = #[.int .u64 0, .int .u64 0, .int .u64 0] := Array.toList_inj.1 (by rw [toList_madeCells_one]; rfl)
theorem made1 : madeCells #[.int .u64 0] 1 = #[.int .u64 0] := Array.toList_inj.1 (by rw [toList_madeCells_one]; rfl)

set_option maxHeartbeats 8000000 in
set_option maxRecDepth 100000 in
theorem recFieldTB {w : World} {g o : Nat}  (h : RdBad w g) (hbx : RecBox w o) (hog : o ≠ g)  :
    Calls Try.prog 37 #[.pointer (some ⟨g, 0, none⟩), .pointer (some ⟨o, 0, none⟩), .int .i32 84] w fun e w' => e = .returned (.tuple #[]) ∧ ∃ er, RecBox w' o ∧ RdErr w' g er ∧ Chg (fun k => k = g ∨ k = o) w w' := by
  obtain ⟨c0, c1, c2, c3, c4, c5, c6, c7, c8, c9, c10, ho⟩ := hbx
  have hg : g < w.heap.size := by obtain ⟨er, h1, _⟩ := h; exact h1
  have hol := ho.lt
  have hb0 := Blk.new w 82 #[.pointer (some ⟨o, 0, none⟩)]
  have hk0 := (Chg.refl Non w).alloc (.cells #[.pointer (some ⟨o, 0, none⟩)] 82)
  have h0 := h.c0 hk0
  have ho0 := ho.c0 hk0
  clear h ho
  go_enter Try.func37, Try.ntmps37
  go_upto_region 1 with fail
  have hsz : (w.alloc (.cells #[.pointer (some ⟨o, 0, none⟩)] 82)).heap.size = w.heap.size + 1 := by simp
  generalize World.alloc _ _ = w0 at hb0 hk0 h0 ho0 hsz ⊢
  have hs := recSomeB (n := 3) h0 (by omega)
  rw [show ((3 : Nat) : Int) = 3 from rfl] at hs
  go_wp2_with fail
  refine hs.mono ?_
  rintro e w1 ⟨q, er, rfl, hq, hB, hRd, hc1⟩
  rw [made3] at hB
  have ho1 := ho0.chg hc1 hog
  have hb1 := hb0.chg hc1 (by omega)
  have t0 := hb1.cell 0
  have q0 : w1.cell? ⟨q, 0, none⟩ = some (.int .u64 0) := hB.cell 0
  have q1 : w1.cell? ⟨q, 1, none⟩ = some (.int .u64 0) := hB.cell 1
  have q2 : w1.cell? ⟨q, 2, none⟩ = some (.int .u64 0) := hB.cell 2
  have o1 := ho1.cell 1
  have o2 := ho1.cell 2
  have o3 := ho1.cell 3
  have f1 := ho1.frozen 1
  have f2 := ho1.frozen 2
  have f3 := ho1.frozen 3
  simp at t0 o1 o2 o3
  clear hs hB
  go_upto_region 5 with fail
  go_still_tail 11, (by kernel_rfl)
  change wpList _ _ _ _ _ w1.drew
  have HX := hide (stored3 (w := w1.drew) ho1 1 2 3 (.int .u64 0) (.int .u64 0) (.int .u64 0))
  go_wp2_with fail
  obtain ⟨hbo, hco⟩ := HX.out
  simp only [List.setIfInBounds_toArray, List.set_cons_succ, List.set_cons_zero] at hbo
  have hd : Chg Non w1 w1.drew := (Chg.refl Non w1).drew
  exact bodyPost_end (results_none rfl _ _ _) rfl (fieldEndB hk0 (hc1.trans0 hd) (hRd.c0 hd) hco hbo hog)

set_option maxHeartbeats 8000000 in
set_option maxRecDepth 100000 in
theorem recFieldCB {w : World} {g o : Nat}  (h : RdBad w g) (hbx : RecBox w o) (hog : o ≠ g)  :
    Calls Try.prog 37 #[.pointer (some ⟨g, 0, none⟩), .pointer (some ⟨o, 0, none⟩), .int .i32 67] w fun e w' => e = .returned (.tuple #[]) ∧ ∃ er, RecBox w' o ∧ RdErr w' g er ∧ Chg (fun k => k = g ∨ k = o) w w' := by
  obtain ⟨c0, c1, c2, c3, c4, c5, c6, c7, c8, c9, c10, ho⟩ := hbx
  have hg : g < w.heap.size := by obtain ⟨er, h1, _⟩ := h; exact h1
  have hol := ho.lt
  have hb0 := Blk.new w 82 #[.pointer (some ⟨o, 0, none⟩)]
  have hk0 := (Chg.refl Non w).alloc (.cells #[.pointer (some ⟨o, 0, none⟩)] 82)
  have h0 := h.c0 hk0
  have ho0 := ho.c0 hk0
  clear h ho
  go_enter Try.func37, Try.ntmps37
  go_upto_region 1 with fail
  have hsz : (w.alloc (.cells #[.pointer (some ⟨o, 0, none⟩)] 82)).heap.size = w.heap.size + 1 := by simp
  generalize World.alloc _ _ = w0 at hb0 hk0 h0 ho0 hsz ⊢
  have hkd := hk0.drew
  have hd : Chg Non w0 w0.drew := (Chg.refl Non w0).drew
  have h0 := h0.c0 hd
  have t0 : w0.drew.cell? ⟨w.heap.size, 0, none⟩ = some (.pointer (some ⟨o, 0, none⟩)) := hb0.cell 0
  have t0' : w0.cell? ⟨w.heap.size, 0, none⟩ = some (.pointer (some ⟨o, 0, none⟩)) := t0
  have htg : ¬ (w.heap.size = g) := by omega
  have HC := hide (recTruthB h0)
  go_upto_region 11 with fail
  go_region_law (first
    | (go_simp; go_at_call 56; refine HC.out.mono ?_; rintro e w1 ⟨er, rfl, hRd, hc1⟩; have t0 := hc1.cell t0 htg; have ho1 := (ho0.c0 hd).chg hc1 hog; have o1 := ho1.cell 6; have f1 := ho1.frozen 6))
  all_goals
    have HX := hide (stored1 ho1 6 (.bool false))
    (try simp only [List.getElem_toArray, List.getElem_cons_zero, List.getElem_cons_succ, Act.put, List.setIfInBounds_toArray, List.set_cons_zero, List.set_cons_succ])
    simp only [List.getElem?_toArray, List.getElem?_cons_succ, List.getElem?_cons_zero] at o1
    go_wp2_with fail
    obtain ⟨hbo, hco⟩ := HX.out
    simp only [List.setIfInBounds_toArray, List.set_cons_succ, List.set_cons_zero] at hbo
    exact bodyPost_end (results_none rfl _ _ _) rfl (fieldEndB hkd hc1 hRd hco hbo hog)

set_option maxHeartbeats 8000000 in
set_option maxRecDepth 100000 in
theorem recFieldAB {w : World} {g o : Nat}  (h : RdBad w g) (hbx : RecBox w o) (hog : o ≠ g)  :
    Calls Try.prog 37 #[.pointer (some ⟨g, 0, none⟩), .pointer (some ⟨o, 0, none⟩), .int .i32 65] w fun e w' => e = .returned (.tuple #[]) ∧ ∃ er, RecBox w' o ∧ RdErr w' g er ∧ Chg (fun k => k = g ∨ k = o) w w' := by
  obtain ⟨c0, c1, c2, c3, c4, c5, c6, c7, c8, c9, c10, ho⟩ := hbx
  have hg : g < w.heap.size := by obtain ⟨er, h1, _⟩ := h; exact h1
  have hol := ho.lt
  have hb0 := Blk.new w 82 #[.pointer (some ⟨o, 0, none⟩)]
  have hk0 := (Chg.refl Non w).alloc (.cells #[.pointer (some ⟨o, 0, none⟩)] 82)
  have h0 := h.c0 hk0
  have ho0 := ho.c0 hk0
  clear h ho
  go_enter Try.func37, Try.ntmps37
  go_upto_region 1 with fail
  have hsz : (w.alloc (.cells #[.pointer (some ⟨o, 0, none⟩)] 82)).heap.size = w.heap.size + 1 := by simp
  generalize World.alloc _ _ = w0 at hb0 hk0 h0 ho0 hsz ⊢
  have hkd := hk0.drew
  have hd : Chg Non w0 w0.drew := (Chg.refl Non w0).drew
  have h0 := h0.c0 hd
  have t0 : w0.drew.cell? ⟨w.heap.size, 0, none⟩ = some (.pointer (some ⟨o, 0, none⟩)) := hb0.cell 0
  have t0' : w0.cell? ⟨w.heap.size, 0, none⟩ = some (.pointer (some ⟨o, 0, none⟩)) := t0
  have htg : ¬ (w.heap.size = g) := by omega
  obtain ⟨er, hgl, hn0⟩ := h0
  have hn1 := hn0 w0.drew (Chg.refl _ _)
  have HC := hide (hn1)
  go_upto_region 19 with fail
  go_region_law (first
    | (go_simp; go_at_call 36; refine HC.out.mono ?_; rintro e w1 ⟨rfl, hRd, hc1⟩; have t0 := hc1.cell t0 htg; have ho1 := (ho0.c0 hd).chg hc1 hog; have o1 := ho1.cell 8; have f1 := ho1.frozen 8))
  all_goals
    have HX := hide (stored1 ho1 8 (.slice none 0 0))
    (try simp only [List.getElem_toArray, List.getElem_cons_zero, List.getElem_cons_succ, Act.put, List.setIfInBounds_toArray, List.set_cons_zero, List.set_cons_succ])
    simp only [List.getElem?_toArray, List.getElem?_cons_succ, List.getElem?_cons_zero] at o1
    go_wp2_with fail
    obtain ⟨hbo, hco⟩ := HX.out
    simp only [List.setIfInBounds_toArray, List.set_cons_succ, List.set_cons_zero] at hbo
    exact bodyPost_end (results_none rfl _ _ _) rfl (fieldEndB hkd hc1 hRd hco hbo hog)

set_option maxHeartbeats 8000000 in
set_option maxRecDepth 100000 in
theorem recFieldNB {w : World} {g o : Nat}  (h : RdBad w g) (hbx : RecBox w o) (hog : o ≠ g)  :
    Calls Try.prog 37 #[.pointer (some ⟨g, 0, none⟩), .pointer (some ⟨o, 0, none⟩), .int .i32 78] w fun e w' => e = .returned (.tuple #[]) ∧ ∃ er, RecBox w' o ∧ RdErr w' g er ∧ Chg (fun k => k = g ∨ k = o) w w' := by
  obtain ⟨c0, c1, c2, c3, c4, c5, c6, c7, c8, c9, c10, ho⟩ := hbx
  have hg : g < w.heap.size := by obtain ⟨er, h1, _⟩ := h; exact h1
  have hol := ho.lt
  have hb0 := Blk.new w 82 #[.pointer (some ⟨o, 0, none⟩)]
  have hk0 := (Chg.refl Non w).alloc (.cells #[.pointer (some ⟨o, 0, none⟩)] 82)
  have h0 := h.c0 hk0
  have ho0 := ho.c0 hk0
  clear h ho
  go_enter Try.func37, Try.ntmps37
  go_upto_region 1 with fail
  have hsz : (w.alloc (.cells #[.pointer (some ⟨o, 0, none⟩)] 82)).heap.size = w.heap.size + 1 := by simp
  generalize World.alloc _ _ = w0 at hb0 hk0 h0 ho0 hsz ⊢
  have hkd := hk0.drew
  have hd : Chg Non w0 w0.drew := (Chg.refl Non w0).drew
  have h0 := h0.c0 hd
  have t0 : w0.drew.cell? ⟨w.heap.size, 0, none⟩ = some (.pointer (some ⟨o, 0, none⟩)) := hb0.cell 0
  have t0' : w0.cell? ⟨w.heap.size, 0, none⟩ = some (.pointer (some ⟨o, 0, none⟩)) := t0
  have htg : ¬ (w.heap.size = g) := by omega
  obtain ⟨er, hgl, hn0⟩ := h0
  have hn1 := hn0 w0.drew (Chg.refl _ _)
  have HC := hide (hn1)
  go_upto_region 2 with fail
  go_region_law (first
    | (go_simp; go_at_call 36; refine HC.out.mono ?_; rintro e w1 ⟨rfl, hRd, hc1⟩; have t0 := hc1.cell t0 htg; have ho1 := (ho0.c0 hd).chg hc1 hog; have o1 := ho1.cell 10; have f1 := ho1.frozen 10; have hcv := run_str (RdB.nil_ w1 Non)))
  all_goals
    have HX := hide (stored1 ho1 10 (.string ⟨#[]⟩))
    (try simp only [List.getElem_toArray, List.getElem_cons_zero, List.getElem_cons_succ, Act.put, List.setIfInBounds_toArray, List.set_cons_zero, List.set_cons_succ])
    simp only [List.getElem?_toArray, List.getElem?_cons_succ, List.getElem?_cons_zero] at o1
    go_wp2_with fail
    obtain ⟨hbo, hco⟩ := HX.out
    simp only [List.setIfInBounds_toArray, List.set_cons_succ, List.set_cons_zero] at hbo
    exact bodyPost_end (results_none rfl _ _ _) rfl (fieldEndB hkd hc1 hRd hco hbo hog)

set_option maxHeartbeats 8000000 in
set_option maxRecDepth 100000 in
theorem recFieldIB {w : World} {g o : Nat}  (h : RdBad w g) (hbx : RecBox w o) (hog : o ≠ g)  :
    Calls Try.prog 37 #[.pointer (some ⟨g, 0, none⟩), .pointer (some ⟨o, 0, none⟩), .int .i32 73] w fun e w' => e = .returned (.tuple #[]) ∧ ∃ er, RecBox w' o ∧ RdErr w' g er ∧ Chg (fun k => k = g ∨ k = o) w w' := by
  obtain ⟨c0, c1, c2, c3, c4, c5, c6, c7, c8, c9, c10, ho⟩ := hbx
  have hg : g < w.heap.size := by obtain ⟨er, h1, _⟩ := h; exact h1
  have hol := ho.lt
  have hb0 := Blk.new w 82 #[.pointer (some ⟨o, 0, none⟩)]
  have hk0 := (Chg.refl Non w).alloc (.cells #[.pointer (some ⟨o, 0, none⟩)] 82)
  have h0 := h.c0 hk0
  have ho0 := ho.c0 hk0
  clear h ho
  go_enter Try.func37, Try.ntmps37
  go_upto_region 1 with fail
  have hsz : (w.alloc (.cells #[.pointer (some ⟨o, 0, none⟩)] 82)).heap.size = w.heap.size + 1 := by simp
  generalize World.alloc _ _ = w0 at hb0 hk0 h0 ho0 hsz ⊢
  have hkd := hk0.drew
  have hd : Chg Non w0 w0.drew := (Chg.refl Non w0).drew
  have h0 := h0.c0 hd
  have t0 : w0.drew.cell? ⟨w.heap.size, 0, none⟩ = some (.pointer (some ⟨o, 0, none⟩)) := hb0.cell 0
  have t0' : w0.cell? ⟨w.heap.size, 0, none⟩ = some (.pointer (some ⟨o, 0, none⟩)) := t0
  have htg : ¬ (w.heap.size = g) := by omega
  have hs := recSomeB (n := 1) h0 (by omega)
  rw [show ((1 : Nat) : Int) = 1 from rfl, made1] at hs
  have HC := hide (hs)
  go_upto_region 21 with fail
  go_region_law (first
    | (go_simp; go_at_call 52; refine HC.out.mono ?_; rintro e w1 ⟨q, er, rfl, hq, hB, hRd, hc1⟩; have t0 := hc1.cell t0 htg; have ho1 := (ho0.c0 hd).chg hc1 hog; have o1 := ho1.cell 9; have f1 := ho1.frozen 9; have q0 : w1.cell? ⟨q, 0, none⟩ = some (.int .u64 0) := hB.cell 0))
  all_goals
    have HX := hide (stored1 ho1 9 (.int .u64 0))
    (try simp only [List.getElem_toArray, List.getElem_cons_zero, List.getElem_cons_succ, Act.put, List.setIfInBounds_toArray, List.set_cons_zero, List.set_cons_succ])
    simp only [List.getElem?_toArray, List.getElem?_cons_succ, List.getElem?_cons_zero] at o1
    go_wp2_with fail
    obtain ⟨hbo, hco⟩ := HX.out
    simp only [List.setIfInBounds_toArray, List.set_cons_succ, List.set_cons_zero] at hbo
    exact bodyPost_end (results_none rfl _ _ _) rfl (fieldEndB hkd hc1 hRd hco hbo hog)

set_option maxHeartbeats 8000000 in
set_option maxRecDepth 100000 in
theorem recFieldWB {w : World} {g o : Nat}  (h : RdBad w g) (hbx : RecBox w o) (hog : o ≠ g)  :
    Calls Try.prog 37 #[.pointer (some ⟨g, 0, none⟩), .pointer (some ⟨o, 0, none⟩), .int .i32 87] w fun e w' => e = .returned (.tuple #[]) ∧ ∃ er, RecBox w' o ∧ RdErr w' g er ∧ Chg (fun k => k = g ∨ k = o) w w' := by
  obtain ⟨c0, c1, c2, c3, c4, c5, c6, c7, c8, c9, c10, ho⟩ := hbx
  have hg : g < w.heap.size := by obtain ⟨er, h1, _⟩ := h; exact h1
  have hol := ho.lt
  have hb0 := Blk.new w 82 #[.pointer (some ⟨o, 0, none⟩)]
  have hk0 := (Chg.refl Non w).alloc (.cells #[.pointer (some ⟨o, 0, none⟩)] 82)
  have h0 := h.c0 hk0
  have ho0 := ho.c0 hk0
  clear h ho
  go_enter Try.func37, Try.ntmps37
  go_upto_region 1 with fail
  have hsz : (w.alloc (.cells #[.pointer (some ⟨o, 0, none⟩)] 82)).heap.size = w.heap.size + 1 := by simp
  generalize World.alloc _ _ = w0 at hb0 hk0 h0 ho0 hsz ⊢
  have ht := recTriB (fv := .func (.func 54) #[] #[.pointer (some ⟨w.heap.size, 0, none⟩)]) h0
  have hmf' := hmf
  go_wp2_with fail
  refine ht.mono ?_
  rintro e w1 ⟨er, rfl, hRd, hc1⟩
  go_wp2_with fail
  exact bodyPost_end (results_none rfl _ _ _) rfl (fieldEndB hk0 hc1 hRd (Chg.refl _ _) (ho0.chg hc1 hog) hog)

set_option maxHeartbeats 8000000 in
set_option maxRecDepth 100000 in
theorem recFieldRB {w : World} {g o : Nat}  (h : RdBad w g) (hbx : RecBox w o) (hog : o ≠ g)  :
    Calls Try.prog 37 #[.pointer (some ⟨g, 0, none⟩), .pointer (some ⟨o, 0, none⟩), .int .i32 82] w fun e w' => e = .returned (.tuple #[]) ∧ ∃ er, RecBox w' o ∧ RdErr w' g er ∧ Chg (fun k => k = g ∨ k = o) w w' := by
  obtain ⟨c0, c1, c2, c3, c4, c5, c6, c7, c8, c9, c10, ho⟩ := hbx
  have hg : g < w.heap.size := by obtain ⟨er, h1, _⟩ := h; exact h1
  have hol := ho.lt
  have hb0 := Blk.new w 82 #[.pointer (some ⟨o, 0, none⟩)]
  have hk0 := (Chg.refl Non w).alloc (.cells #[.pointer (some ⟨o, 0, none⟩)] 82)
  have h0 := h.c0 hk0
  have ho0 := ho.c0 hk0
  clear h ho
  go_enter Try.func37, Try.ntmps37
  go_upto_region 1 with fail
  have hsz : (w.alloc (.cells #[.pointer (some ⟨o, 0, none⟩)] 82)).heap.size = w.heap.size + 1 := by simp
  generalize World.alloc _ _ = w0 at hb0 hk0 h0 ho0 hsz ⊢
  have ht := recTriB (fv := .func (.func 55) #[] #[.pointer (some ⟨w.heap.size, 0, none⟩)]) h0
  have hmf' := hmf
  go_wp2_with fail
  refine ht.mono ?_
  rintro e w1 ⟨er, rfl, hRd, hc1⟩
  go_wp2_with fail
  exact bodyPost_end (results_none rfl _ _ _) rfl (fieldEndB hk0 hc1 hRd (Chg.refl _ _) (ho0.chg hc1 hog) hog)

set_option maxHeartbeats 8000000 in
set_option maxRecDepth 100000 in
theorem recFieldSB {w : World} {g o : Nat}  (h : RdBad w g) (hbx : RecBox w o) (hog : o ≠ g)  :
    Calls Try.prog 37 #[.pointer (some ⟨g, 0, none⟩), .pointer (some ⟨o, 0, none⟩), .int .i32 83] w fun e w' => e = .returned (.tuple #[]) ∧ ∃ er, RecBox w' o ∧ RdErr w' g er ∧ Chg (fun k => k = g ∨ k = o) w w' := by
  obtain ⟨c0, c1, c2, c3, c4, c5, c6, c7, c8, c9, c10, ho⟩ := hbx
  have hg : g < w.heap.size := by obtain ⟨er, h1, _⟩ := h; exact h1
  have hol := ho.lt
  have hb0 := Blk.new w 82 #[.pointer (some ⟨o, 0, none⟩)]
  have hk0 := (Chg.refl Non w).alloc (.cells #[.pointer (some ⟨o, 0, none⟩)] 82)
  have h0 := h.c0 hk0
  have ho0 := ho.c0 hk0
  clear h ho
  go_enter Try.func37, Try.ntmps37
  go_upto_region 1 with fail
  have hsz : (w.alloc (.cells #[.pointer (some ⟨o, 0, none⟩)] 82)).heap.size = w.heap.size + 1 := by simp
  generalize World.alloc _ _ = w0 at hb0 hk0 h0 ho0 hsz ⊢
  have ht := recAllB h0
  go_wp2_with fail
  refine ht.mono ?_
  rintro e w1 ⟨er, rfl, hRd, hc1⟩
  go_wp2_with fail
  refine wp_loop_rounds 1 ?_
  rw [rounds_succ]
  go_wp2_with fail
  exact bodyPost_end (results_none rfl _ _ _) rfl (fieldEndB hk0 hc1 hRd (Chg.refl _ _) (ho0.chg hc1 hog) hog)
end Go.Proofs.Ytpbgjldjipgfeaa
