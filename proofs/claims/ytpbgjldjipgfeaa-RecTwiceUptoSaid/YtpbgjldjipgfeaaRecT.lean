/- The walk of rec's reader.field, letter by letter, where all is well. -/
import Derived.Test.YtpbgjldjipgfeaaRecS
namespace Go.Proofs.Ytpbgjldjipgfeaa
open Go.RowKit
set_option linter.unusedVariables false

/-- stores into one block -/
theorem stored1 {w : World} {g : Nat} {t : TypeId} {cs : Array Value} (h : Blk w g t cs) (i : Nat) (u : Value) : Blk (w.setCell ⟨g, i, none⟩ u) g t (cs.setIfInBounds i u) ∧ Chg (fun k => k = g) w (w.setCell ⟨g, i, none⟩ u) :=
  ⟨h.set_ i u, (Chg.refl (fun k => k = g) w).setCell (p := ⟨g, i, none⟩) (fun _ => rfl) u⟩
theorem stored3 {w : World} {g : Nat} {t : TypeId} {cs : Array Value} (h : Blk w g t cs) (i j k : Nat) (u v x : Value) :
    Blk (((w.setCell ⟨g, i, none⟩ u).setCell ⟨g, j, none⟩ v).setCell ⟨g, k, none⟩ x) g t (((cs.setIfInBounds i u).setIfInBounds j v).setIfInBounds k x) ∧ Chg (fun k => k = g) w (((w.setCell ⟨g, i, none⟩ u).setCell ⟨g, j, none⟩ v).setCell ⟨g, k, none⟩ x) := by
  obtain ⟨h1, k1⟩ := stored1 h i u
  obtain ⟨h2, k2⟩ := stored1 h1 j v
  obtain ⟨h3, k3⟩ := stored1 h2 k x
  exact ⟨h3, (k1.trans k2 fun _ _ h => h).trans k3 fun _ _ h => h⟩
theorem run_nm {w : World} {F : Nat → Prop} {v : Value} {s : ByteArray} (h : RdB w F v (nmB s)) : (convert 28 9 v).run Try.prog w = .ok (.string s) w := run_str h
theorem row_low {w : World} {base b sz n : Nat} {e : TypeId} {v : Value} {xs : List Value} (h : w.ownsRow base e sz v n xs) (hb : b ≤ base) : w.ownsRow b e sz v n xs := by
  refine ⟨h.1, ?_⟩
  rcases h.2 with hn | ⟨g', cap, cur, rfl, hg, rest⟩
  · exact .inl hn
  · exact .inr ⟨g', cap, cur, rfl, by omega, rest⟩
theorem fieldEnd2 {w w0 w1 w2 : World} {F : Nat → Prop} {g o : Nat} {vs : List Value} {cs : Array Value} (hk0 : Chg Non w w0) (hc1 : Chg (fun k => k = g) w0 w1) (hRd : RdOk w1 F g vs)
    (hco : Chg (fun k => k = o) w1 w2) (hbo : Blk w2 o 32 cs) (hog : o ≠ g) (hol : o < w.heap.size) (hFw : ∀ k, F k → k < w.heap.size ∧ k ≠ o) :
    Ending.returned (.tuple #[]) = .returned (.tuple #[]) ∧ Blk w2 o 32 cs ∧ RdOk w2 F g vs ∧ Chg (fun k => k = g ∨ k = o) w w2 := by
  refine ⟨rfl, hbo, hRd.chg hco (fun e => hog e.symm) fun k hk e => (hFw k hk).2 e, ?_⟩
  exact ((hk0.mono (S' := fun k => k = g ∨ k = o) fun _ _ h => h.elim).trans hc1 fun _ _ h => .inl h).trans hco fun _ _ h => .inr h
/-- what a field leaves behind -/
theorem fieldEnd {w w0 w1 w2 : World} {F : Nat → Prop} {g o : Nat} {vs : List Value} {cs : Array Value} (hk0 : Chg Non w w0) (hc1 : Chg (fun k => k = g) w0 w1) (hRd : RdOk w1 F g vs)
    (hco : Chg (fun k => k = o) w1.drew w2) (hbo : Blk w2 o 32 cs) (hog : o ≠ g) (hol : o < w.heap.size) (hFw : ∀ k, F k → k < w.heap.size ∧ k ≠ o) :
    Ending.returned (.tuple #[]) = .returned (.tuple #[]) ∧ Blk w2 o 32 cs ∧ RdOk w2 F g vs ∧ Chg (fun k => k = g ∨ k = o) w w2 := by
  have hd : Chg Non w1 w1.drew := (Chg.refl Non w1).drew
  refine ⟨rfl, hbo, (hRd.c0 hd).chg hco (fun e => hog e.symm) fun k hk e => (hFw k hk).2 e, ?_⟩
  exact (((hk0.mono (S' := fun k => k = g ∨ k = o) fun _ _ h => h.elim).trans hc1 fun _ _ h => .inl h).trans0 hd).trans hco fun _ _ h => .inr h


set_option maxHeartbeats 8000000 in
set_option maxRecDepth 100000 in
theorem recFieldT {w : World} {F G : Nat → Prop} {g o : Nat} {p : Value} {vs : List Value} {c0 c1 c2 c3 c4 c5 c6 c7 c8 c9 c10 : Value}  (h : RdOk w F g (p :: vs)) (hG : ¬ G g) (hl : vs.length ≤ 1000000000000) (hFw : ∀ k, F k → k < w.heap.size ∧ k ≠ o)
    (ho : Blk w o 32 #[c0, c1, c2, c3, c4, c5, c6, c7, c8, c9, c10]) (hog : o ≠ g) {a b c : Nat} (hr : RdB w G p (numB a ++ (numB b ++ numB c))) (ha : U64 a) (hb : U64 b) (hc : U64 c) :
    Calls Try.prog 37 #[.pointer (some ⟨g, 0, none⟩), .pointer (some ⟨o, 0, none⟩), .int .i32 84] w fun e w' => e = .returned (.tuple #[]) ∧ Blk w' o 32 #[c0, .int .u64 (a : Int), .int .u64 (b : Int), .int .u64 (c : Int), c4, c5, c6, c7, c8, c9, c10] ∧ RdOk w' F g vs ∧ Chg (fun k => k = g ∨ k = o) w w' := by
  have hg := h.blk
  have hol := ho.lt
  have hb0 := Blk.new w 82 #[.pointer (some ⟨o, 0, none⟩)]
  have hk0 := (Chg.refl Non w).alloc (.cells #[.pointer (some ⟨o, 0, none⟩)] 82)
  have h0 := h.c0 hk0
  have ho0 := ho.c0 hk0
  have hr0 := hr.c0 hk0
  clear h ho hr
  go_enter Try.func37, Try.ntmps37
  go_upto_region 1 with fail
  have hsz : (w.alloc (.cells #[.pointer (some ⟨o, 0, none⟩)] 82)).heap.size = w.heap.size + 1 := by simp
  generalize World.alloc _ _ = w0 at hb0 hk0 h0 ho0 hr0 hsz ⊢
  have hF0 : ∀ k, F k → k < w0.heap.size := fun k hk => by have := hFw k hk; omega
  rw [← numsB3] at hr0
  have hs := recSome (ns := [a, b, c]) h0 hr0 hG hl (by simp [ha, hb, hc]) (by simp) hF0
  rw [show (([a, b, c].length : Nat) : Int) = 3 from rfl] at hs
  go_wp2_with fail
  refine hs.mono ?_
  rintro e w1 ⟨q, rfl, hq, hB, hRd, hc1⟩
  have hs1 := hc1.size
  have ho1 := ho0.chg hc1 hog
  have hb1 := hb0.chg hc1 (by omega)
  have t0 := hb1.cell 0
  have q0 : w1.cell? ⟨q, 0, none⟩ = some (.int .u64 (a : Int)) := hB.cell 0
  have q1 : w1.cell? ⟨q, 1, none⟩ = some (.int .u64 (b : Int)) := hB.cell 1
  have q2 : w1.cell? ⟨q, 2, none⟩ = some (.int .u64 (c : Int)) := hB.cell 2
  have o1 := ho1.cell 1
  have o2 := ho1.cell 2
  have o3 := ho1.cell 3
  have f1 := ho1.frozen 1
  have f2 := ho1.frozen 2
  have f3 := ho1.frozen 3
  simp at t0 o1 o2 o3
  clear hs hB
  go_upto_region 5 with fail
  go_still_tail 11, (by kernel_rfl)
  change wpList _ _ _ _ _ w1.drew
  have HX := hide (stored3 (w := w1.drew) ho1 1 2 3 (.int .u64 (a : Int)) (.int .u64 (b : Int)) (.int .u64 (c : Int)))
  go_wp2_with fail
  obtain ⟨hbo, hco⟩ := HX.out
  simp only [List.setIfInBounds_toArray, List.set_cons_succ, List.set_cons_zero] at hbo
  exact bodyPost_end (results_none rfl _ _ _) rfl (fieldEnd hk0 hc1 hRd hco hbo hog hol hFw)

set_option maxHeartbeats 8000000 in
set_option maxRecDepth 100000 in
theorem recFieldC {w : World} {F G : Nat → Prop} {g o : Nat} {p : Value} {vs : List Value} {c0 c1 c2 c3 c4 c5 c6 c7 c8 c9 c10 : Value}  (h : RdOk w F g (p :: vs)) (hG : ¬ G g) (hl : vs.length ≤ 1000000000000) (hFw : ∀ k, F k → k < w.heap.size ∧ k ≠ o)
    (ho : Blk w o 32 #[c0, c1, c2, c3, c4, c5, c6, c7, c8, c9, c10]) (hog : o ≠ g) {b : Bool} (hr : RdB w G p (flB b)) :
    Calls Try.prog 37 #[.pointer (some ⟨g, 0, none⟩), .pointer (some ⟨o, 0, none⟩), .int .i32 67] w fun e w' => e = .returned (.tuple #[]) ∧ Blk w' o 32 #[c0, c1, c2, c3, c4, c5, .bool b, c7, c8, c9, c10] ∧ RdOk w' F g vs ∧ Chg (fun k => k = g ∨ k = o) w w' := by
  have hg := h.blk
  have hol := ho.lt
  have hb0 := Blk.new w 82 #[.pointer (some ⟨o, 0, none⟩)]
  have hk0 := (Chg.refl Non w).alloc (.cells #[.pointer (some ⟨o, 0, none⟩)] 82)
  have h0 := h.c0 hk0
  have ho0 := ho.c0 hk0
  have hr0 := hr.c0 hk0
  clear h ho hr
  go_enter Try.func37, Try.ntmps37
  go_upto_region 1 with fail
  have hsz : (w.alloc (.cells #[.pointer (some ⟨o, 0, none⟩)] 82)).heap.size = w.heap.size + 1 := by simp
  generalize World.alloc _ _ = w0 at hb0 hk0 h0 ho0 hr0 hsz ⊢
  have hF0 : ∀ k, F k → k < w0.heap.size := fun k hk => by have := hFw k hk; omega
  have hkd := hk0.drew
  have hd : Chg Non w0 w0.drew := (Chg.refl Non w0).drew
  have h0 := h0.c0 hd
  have hr0 := hr0.c0 hd
  have t0 : w0.drew.cell? ⟨w.heap.size, 0, none⟩ = some (.pointer (some ⟨o, 0, none⟩)) := hb0.cell 0
  have t0' : w0.cell? ⟨w.heap.size, 0, none⟩ = some (.pointer (some ⟨o, 0, none⟩)) := t0
  have htg : ¬ (w.heap.size = g) := by omega
  have HC := hide (recTruthR h0 hr0 hG hl)
  go_upto_region 11 with fail
  go_region_law (first
    | (go_simp; go_at_call 56; refine HC.out.mono ?_; rintro e w1 ⟨rfl, hRd, hc1⟩; have t0 := hc1.cell t0 htg; have ho1 := (ho0.c0 hd).chg hc1 hog; have o1 := ho1.cell 6; have f1 := ho1.frozen 6))
  all_goals
    have HX := hide (stored1 ho1 6 (.bool b))
    (try simp only [List.getElem_toArray, List.getElem_cons_zero, List.getElem_cons_succ, Act.put, List.setIfInBounds_toArray, List.set_cons_zero, List.set_cons_succ])
    simp only [List.getElem?_toArray, List.getElem?_cons_succ, List.getElem?_cons_zero] at o1
    go_wp2_with fail
    obtain ⟨hbo, hco⟩ := HX.out
    simp only [List.setIfInBounds_toArray, List.set_cons_succ, List.set_cons_zero] at hbo
    exact bodyPost_end (results_none rfl _ _ _) rfl (fieldEnd2 hkd hc1 hRd hco hbo hog hol hFw)

set_option maxHeartbeats 8000000 in
set_option maxRecDepth 100000 in
theorem recFieldA {w : World} {F G : Nat → Prop} {g o : Nat} {p : Value} {vs : List Value} {c0 c1 c2 c3 c4 c5 c6 c7 c8 c9 c10 : Value}  (h : RdOk w F g (p :: vs)) (hG : ¬ G g) (hl : vs.length ≤ 1000000000000) (hFw : ∀ k, F k → k < w.heap.size ∧ k ≠ o)
    (ho : Blk w o 32 #[c0, c1, c2, c3, c4, c5, c6, c7, c8, c9, c10]) (hog : o ≠ g) (hr : ∃ A n c, p = .slice A n c) :
    Calls Try.prog 37 #[.pointer (some ⟨g, 0, none⟩), .pointer (some ⟨o, 0, none⟩), .int .i32 65] w fun e w' => e = .returned (.tuple #[]) ∧ Blk w' o 32 #[c0, c1, c2, c3, c4, c5, c6, c7, p, c9, c10] ∧ RdOk w' F g vs ∧ Chg (fun k => k = g ∨ k = o) w w' := by
  have hg := h.blk
  have hol := ho.lt
  have hb0 := Blk.new w 82 #[.pointer (some ⟨o, 0, none⟩)]
  have hk0 := (Chg.refl Non w).alloc (.cells #[.pointer (some ⟨o, 0, none⟩)] 82)
  have h0 := h.c0 hk0
  have ho0 := ho.c0 hk0
  obtain ⟨P, pn, pc, rfl⟩ := hr
  clear h ho
  go_enter Try.func37, Try.ntmps37
  go_upto_region 1 with fail
  have hsz : (w.alloc (.cells #[.pointer (some ⟨o, 0, none⟩)] 82)).heap.size = w.heap.size + 1 := by simp
  generalize World.alloc _ _ = w0 at hb0 hk0 h0 ho0 hsz ⊢
  have hF0 : ∀ k, F k → k < w0.heap.size := fun k hk => by have := hFw k hk; omega
  have hkd := hk0.drew
  have hd : Chg Non w0 w0.drew := (Chg.refl Non w0).drew
  have h0 := h0.c0 hd
  have t0 : w0.drew.cell? ⟨w.heap.size, 0, none⟩ = some (.pointer (some ⟨o, 0, none⟩)) := hb0.cell 0
  have t0' : w0.cell? ⟨w.heap.size, 0, none⟩ = some (.pointer (some ⟨o, 0, none⟩)) := t0
  have htg : ¬ (w.heap.size = g) := by omega
  have HC := hide (recNext h0 ⟨_, _, _, rfl⟩ hl)
  go_upto_region 19 with fail
  go_region_law (first
    | (go_simp; go_at_call 36; refine HC.out.mono ?_; rintro e w1 ⟨rfl, hRd, hc1⟩; have t0 := hc1.cell t0 htg; have ho1 := (ho0.c0 hd).chg hc1 hog; have o1 := ho1.cell 8; have f1 := ho1.frozen 8))
  all_goals
    have HX := hide (stored1 ho1 8 (.slice P pn pc))
    (try simp only [List.getElem_toArray, List.getElem_cons_zero, List.getElem_cons_succ, Act.put, List.setIfInBounds_toArray, List.set_cons_zero, List.set_cons_succ])
    simp only [List.getElem?_toArray, List.getElem?_cons_succ, List.getElem?_cons_zero] at o1
    go_wp2_with fail
    obtain ⟨hbo, hco⟩ := HX.out
    simp only [List.setIfInBounds_toArray, List.set_cons_succ, List.set_cons_zero] at hbo
    exact bodyPost_end (results_none rfl _ _ _) rfl (fieldEnd2 hkd hc1 hRd hco hbo hog hol hFw)

set_option maxHeartbeats 8000000 in
set_option maxRecDepth 100000 in
theorem recFieldN {w : World} {F G : Nat → Prop} {g o : Nat} {p : Value} {vs : List Value} {c0 c1 c2 c3 c4 c5 c6 c7 c8 c9 c10 : Value}  (h : RdOk w F g (p :: vs)) (hG : ¬ G g) (hl : vs.length ≤ 1000000000000) (hFw : ∀ k, F k → k < w.heap.size ∧ k ≠ o)
    (ho : Blk w o 32 #[c0, c1, c2, c3, c4, c5, c6, c7, c8, c9, c10]) (hog : o ≠ g) {s : ByteArray} (hr : RdB w G p (nmB s)) :
    Calls Try.prog 37 #[.pointer (some ⟨g, 0, none⟩), .pointer (some ⟨o, 0, none⟩), .int .i32 78] w fun e w' => e = .returned (.tuple #[]) ∧ Blk w' o 32 #[c0, c1, c2, c3, c4, c5, c6, c7, c8, c9, .string s] ∧ RdOk w' F g vs ∧ Chg (fun k => k = g ∨ k = o) w w' := by
  have hg := h.blk
  have hol := ho.lt
  have hb0 := Blk.new w 82 #[.pointer (some ⟨o, 0, none⟩)]
  have hk0 := (Chg.refl Non w).alloc (.cells #[.pointer (some ⟨o, 0, none⟩)] 82)
  have h0 := h.c0 hk0
  have ho0 := ho.c0 hk0
  have hr0 := hr.c0 hk0
  clear h ho hr
  go_enter Try.func37, Try.ntmps37
  go_upto_region 1 with fail
  have hsz : (w.alloc (.cells #[.pointer (some ⟨o, 0, none⟩)] 82)).heap.size = w.heap.size + 1 := by simp
  generalize World.alloc _ _ = w0 at hb0 hk0 h0 ho0 hr0 hsz ⊢
  have hF0 : ∀ k, F k → k < w0.heap.size := fun k hk => by have := hFw k hk; omega
  have hkd := hk0.drew
  have hd : Chg Non w0 w0.drew := (Chg.refl Non w0).drew
  have h0 := h0.c0 hd
  have hr0 := hr0.c0 hd
  have t0 : w0.drew.cell? ⟨w.heap.size, 0, none⟩ = some (.pointer (some ⟨o, 0, none⟩)) := hb0.cell 0
  have t0' : w0.cell? ⟨w.heap.size, 0, none⟩ = some (.pointer (some ⟨o, 0, none⟩)) := t0
  have htg : ¬ (w.heap.size = g) := by omega
  have HC := hide (recNext h0 hr0.sl hl)
  go_upto_region 2 with fail
  go_region_law (first
    | (go_simp; go_at_call 36; refine HC.out.mono ?_; rintro e w1 ⟨rfl, hRd, hc1⟩; have t0 := hc1.cell t0 htg; have ho1 := (ho0.c0 hd).chg hc1 hog; have o1 := ho1.cell 10; have f1 := ho1.frozen 10; have hcv := run_nm (hr0.chg hc1 (fun k hk e => hG (e ▸ hk)))))
  all_goals
    have HX := hide (stored1 ho1 10 (.string s))
    (try simp only [List.getElem_toArray, List.getElem_cons_zero, List.getElem_cons_succ, Act.put, List.setIfInBounds_toArray, List.set_cons_zero, List.set_cons_succ])
    simp only [List.getElem?_toArray, List.getElem?_cons_succ, List.getElem?_cons_zero] at o1
    go_wp2_with fail
    obtain ⟨hbo, hco⟩ := HX.out
    simp only [List.setIfInBounds_toArray, List.set_cons_succ, List.set_cons_zero] at hbo
    exact bodyPost_end (results_none rfl _ _ _) rfl (fieldEnd2 hkd hc1 hRd hco hbo hog hol hFw)

set_option maxHeartbeats 8000000 in
set_option maxRecDepth 100000 in
theorem recFieldI {w : World} {F G : Nat → Prop} {g o : Nat} {p : Value} {vs : List Value} {c0 c1 c2 c3 c4 c5 c6 c7 c8 c9 c10 : Value}  (h : RdOk w F g (p :: vs)) (hG : ¬ G g) (hl : vs.length ≤ 1000000000000) (hFw : ∀ k, F k → k < w.heap.size ∧ k ≠ o)
    (ho : Blk w o 32 #[c0, c1, c2, c3, c4, c5, c6, c7, c8, c9, c10]) (hog : o ≠ g) {n : Nat} (hr : RdB w G p (numB n)) (hn : U64 n) :
    Calls Try.prog 37 #[.pointer (some ⟨g, 0, none⟩), .pointer (some ⟨o, 0, none⟩), .int .i32 73] w fun e w' => e = .returned (.tuple #[]) ∧ Blk w' o 32 #[c0, c1, c2, c3, c4, c5, c6, c7, c8, .int .u64 (n : Int), c10] ∧ RdOk w' F g vs ∧ Chg (fun k => k = g ∨ k = o) w w' := by
  have hg := h.blk
  have hol := ho.lt
  have hb0 := Blk.new w 82 #[.pointer (some ⟨o, 0, none⟩)]
  have hk0 := (Chg.refl Non w).alloc (.cells #[.pointer (some ⟨o, 0, none⟩)] 82)
  have h0 := h.c0 hk0
  have ho0 := ho.c0 hk0
  have hr0 := hr.c0 hk0
  clear h ho hr
  go_enter Try.func37, Try.ntmps37
  go_upto_region 1 with fail
  have hsz : (w.alloc (.cells #[.pointer (some ⟨o, 0, none⟩)] 82)).heap.size = w.heap.size + 1 := by simp
  generalize World.alloc _ _ = w0 at hb0 hk0 h0 ho0 hr0 hsz ⊢
  have hF0 : ∀ k, F k → k < w0.heap.size := fun k hk => by have := hFw k hk; omega
  have hkd := hk0.drew
  have hd : Chg Non w0 w0.drew := (Chg.refl Non w0).drew
  have h0 := h0.c0 hd
  have hr0 := hr0.c0 hd
  have t0 : w0.drew.cell? ⟨w.heap.size, 0, none⟩ = some (.pointer (some ⟨o, 0, none⟩)) := hb0.cell 0
  have t0' : w0.cell? ⟨w.heap.size, 0, none⟩ = some (.pointer (some ⟨o, 0, none⟩)) := t0
  have htg : ¬ (w.heap.size = g) := by omega
  rw [← numsB1] at hr0
  have hs := recSome (ns := [n]) h0 hr0 hG hl (by simp [hn]) (by simp) hF0
  rw [show (([n].length : Nat) : Int) = 1 from rfl] at hs
  have HC := hide (hs)
  go_upto_region 21 with fail
  go_region_law (first
    | (go_simp; go_at_call 52; refine HC.out.mono ?_; rintro e w1 ⟨q, rfl, hq, hB, hRd, hc1⟩; have t0 := hc1.cell t0 htg; have ho1 := (ho0.c0 hd).chg hc1 hog; have o1 := ho1.cell 9; have f1 := ho1.frozen 9; have q0 : w1.cell? ⟨q, 0, none⟩ = some (.int .u64 (n : Int)) := hB.cell 0))
  all_goals
    have HX := hide (stored1 ho1 9 (.int .u64 (n : Int)))
    (try simp only [List.getElem_toArray, List.getElem_cons_zero, List.getElem_cons_succ, Act.put, List.setIfInBounds_toArray, List.set_cons_zero, List.set_cons_succ])
    simp only [List.getElem?_toArray, List.getElem?_cons_succ, List.getElem?_cons_zero] at o1
    go_wp2_with fail
    obtain ⟨hbo, hco⟩ := HX.out
    simp only [List.setIfInBounds_toArray, List.set_cons_succ, List.set_cons_zero] at hbo
    exact bodyPost_end (results_none rfl _ _ _) rfl (fieldEnd2 hkd hc1 hRd hco hbo hog hol hFw)

set_option maxHeartbeats 8000000 in
set_option maxRecDepth 100000 in
theorem recFieldW {w : World} {F G : Nat → Prop} {g o : Nat} {p : Value} {vs : List Value} {c0 c1 c2 c3 c5 c6 c7 c8 c9 c10 : Value}  (h : RdOk w F g (p :: vs)) (hG : ¬ G g) (hl : vs.length ≤ 1000000000000) (hFw : ∀ k, F k → k < w.heap.size ∧ k ≠ o)
    (ho : Blk w o 32 #[c0, c1, c2, c3, .slice none 0 0, c5, c6, c7, c8, c9, c10]) (hog : o ≠ g) {l : List WrS} (hr : RdB w G p (triB l)) (hw : triW l ≤ 1048576) (hn : l.length ≤ 1048576) :
    Calls Try.prog 37 #[.pointer (some ⟨g, 0, none⟩), .pointer (some ⟨o, 0, none⟩), .int .i32 87] w fun e w' => e = .returned (.tuple #[]) ∧ ∃ v' xs, xs.length = l.length ∧ Blk w' o 32 #[c0, c1, c2, c3, v', c5, c6, c7, c8, c9, c10] ∧ w'.ownsRow w.heap.size 49 3 v' l.length (flW xs l) ∧ OwnPs w' w.heap.size (pcW xs l) ∧ RdOk w' F g vs ∧ Chg (fun k => k = g ∨ k = o) w w' := by
  have hg := h.blk
  have hol := ho.lt
  have hb0 := Blk.new w 82 #[.pointer (some ⟨o, 0, none⟩)]
  have hk0 := (Chg.refl Non w).alloc (.cells #[.pointer (some ⟨o, 0, none⟩)] 82)
  have h0 := h.c0 hk0
  have ho0 := ho.c0 hk0
  have hr0 := hr.c0 hk0
  clear h ho hr
  go_enter Try.func37, Try.ntmps37
  go_upto_region 1 with fail
  have hsz : (w.alloc (.cells #[.pointer (some ⟨o, 0, none⟩)] 82)).heap.size = w.heap.size + 1 := by simp
  generalize World.alloc _ _ = w0 at hb0 hk0 h0 ho0 hr0 hsz ⊢
  have hF0 : ∀ k, F k → k < w0.heap.size := fun k hk => by have := hFw k hk; omega
  have ht := recTriW (t := w.heap.size) h0 hr0 hG hl hw hn (fun k hk => ⟨hF0 k hk, (hFw k hk).2⟩) hb0 ho0 hog (by omega) (by omega)
  have hmf' := hmf
  go_wp2_with fail
  refine ht.mono ?_
  rintro e w1 ⟨rfl, v', xs, hx, hbo, hrow, hP, hRd, hc1⟩
  go_wp2_with fail
  refine bodyPost_end (results_none rfl _ _ _) rfl ⟨rfl, v', xs, hx, hbo, row_low hrow hk0.size, hP.low hk0.size, hRd, (hk0.mono (fun _ _ h => h.elim)).trans hc1 fun _ _ h => h⟩

set_option maxHeartbeats 8000000 in
set_option maxRecDepth 100000 in
theorem recFieldR {w : World} {F G : Nat → Prop} {g o : Nat} {p : Value} {vs : List Value} {c0 c1 c2 c3 c4 c6 c7 c8 c9 c10 : Value}  (h : RdOk w F g (p :: vs)) (hG : ¬ G g) (hl : vs.length ≤ 1000000000000) (hFw : ∀ k, F k → k < w.heap.size ∧ k ≠ o)
    (ho : Blk w o 32 #[c0, c1, c2, c3, c4, .slice none 0 0, c6, c7, c8, c9, c10]) (hog : o ≠ g) {l : List WrS} (hr : RdB w G p (triB l)) (hw : triW l ≤ 1048576) (hn : l.length ≤ 1048576) :
    Calls Try.prog 37 #[.pointer (some ⟨g, 0, none⟩), .pointer (some ⟨o, 0, none⟩), .int .i32 82] w fun e w' => e = .returned (.tuple #[]) ∧ ∃ v' xs, xs.length = l.length ∧ Blk w' o 32 #[c0, c1, c2, c3, c4, v', c6, c7, c8, c9, c10] ∧ w'.ownsRow w.heap.size 63 3 v' l.length (flW xs l) ∧ OwnPs w' w.heap.size (pcW xs l) ∧ RdOk w' F g vs ∧ Chg (fun k => k = g ∨ k = o) w w' := by
  have hg := h.blk
  have hol := ho.lt
  have hb0 := Blk.new w 82 #[.pointer (some ⟨o, 0, none⟩)]
  have hk0 := (Chg.refl Non w).alloc (.cells #[.pointer (some ⟨o, 0, none⟩)] 82)
  have h0 := h.c0 hk0
  have ho0 := ho.c0 hk0
  have hr0 := hr.c0 hk0
  clear h ho hr
  go_enter Try.func37, Try.ntmps37
  go_upto_region 1 with fail
  have hsz : (w.alloc (.cells #[.pointer (some ⟨o, 0, none⟩)] 82)).heap.size = w.heap.size + 1 := by simp
  generalize World.alloc _ _ = w0 at hb0 hk0 h0 ho0 hr0 hsz ⊢
  have hF0 : ∀ k, F k → k < w0.heap.size := fun k hk => by have := hFw k hk; omega
  have ht := recTriR (t := w.heap.size) h0 hr0 hG hl hw hn (fun k hk => ⟨hF0 k hk, (hFw k hk).2⟩) hb0 ho0 hog (by omega) (by omega)
  have hmf' := hmf
  go_wp2_with fail
  refine ht.mono ?_
  rintro e w1 ⟨rfl, v', xs, hx, hbo, hrow, hP, hRd, hc1⟩
  go_wp2_with fail
  refine bodyPost_end (results_none rfl _ _ _) rfl ⟨rfl, v', xs, hx, hbo, row_low hrow hk0.size, hP.low hk0.size, hRd, (hk0.mono (fun _ _ h => h.elim)).trans hc1 fun _ _ h => h⟩
end Go.Proofs.Ytpbgjldjipgfeaa
