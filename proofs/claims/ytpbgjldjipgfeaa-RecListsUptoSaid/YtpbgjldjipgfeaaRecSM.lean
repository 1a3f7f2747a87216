/- The walks of rec's reader where an error stands, or nothing is left. -/
import Derived.Test.YtpbgjldjipgfeaaRecR
namespace Go.Proofs.Ytpbgjldjipgfeaa
open Go.RowKit
set_option linter.unusedVariables false

/-- what comes next is nothing, and an error stands behind it -/
def RdBad (w : World) (g : Nat) : Prop := ∃ er, g < w.heap.size ∧ ∀ w', Chg Non w w' → Calls Try.prog 36 #[.pointer (some ⟨g, 0, none⟩)] w' fun e w'' => e = .returned (.slice none 0 0) ∧ RdErr w'' g er ∧ Chg (fun k => k = g) w' w''
theorem RdErr.bad {w : World} {g : Nat} {er : Int} (h : RdErr w g er) : RdBad w g := ⟨er, h.blk, fun w' hc => (recNextE (h.c0 hc)).mono fun e w'' ⟨h1, h2⟩ => ⟨h1, by rw [h2]; exact h.c0 hc, by rw [h2]; exact Chg.refl _ _⟩⟩
theorem RdOk.bad {w : World} {F : Nat → Prop} {g : Nat} (h : RdOk w F g []) : RdBad w g := ⟨3, h.blk, fun w' hc => recNextX (h.c0 hc)⟩
theorem RdBad.c0 {w w' : World} {g : Nat} (h : RdBad w g) (hc : Chg Non w w') : RdBad w' g := by
  obtain ⟨er, h0, h1⟩ := h
  exact ⟨er, Nat.lt_of_lt_of_le h0 hc.size, fun w'' hc' => h1 w'' (hc.trans0 hc')⟩

set_option maxHeartbeats 4000000 in
set_option maxRecDepth 100000 in
theorem recSomeB {w : World} {g : Nat} {n : Nat} (h : RdBad w g) (hn : n ≤ 1000) :
    Calls Try.prog 52 #[.pointer (some ⟨g, 0, none⟩), .int .i64 (n : Int)] w fun e w' => ∃ a er, e = .returned (.slice (some ⟨a, 0, none⟩) n n) ∧ w.heap.size ≤ a ∧ Blk w' a 22 (madeCells #[.int .u64 0] n) ∧ RdErr w' g er ∧ Chg (fun k => k = g) w w' := by
  have hmk := run_mk64 n hn
  obtain ⟨er, hg, hn1⟩ := h
  have HN := hide hn1
  clear hn1
  go_enter Try.func52, Try.ntmps52
  go_upto_region 1 with fail
  go_cut [5, 6, 7] from 13 (fun v5 v6 v7 wx => v5 = .slice none 0 0 ∧ v6 = .int .i64 0 ∧ ∃ a, v7 = .slice (some ⟨a, 0, none⟩) n n ∧ w.heap.size ≤ a ∧ Blk wx a 22 (madeCells #[.int .u64 0] n) ∧ RdErr wx g er ∧ Chg (fun k => k = g) w wx)
  case first =>
    go_region_law (first
      | (go_simp; go_at_call 36; refine (HN.out _ ((Chg.refl Non w).drew)).mono ?_; rintro e w1 ⟨rfl, hk1, hc1⟩)
      | (go_simp; go_at_call 36; refine (HN.out _ ((Chg.refl Non w).drew.alloc _)).mono ?_; rintro e w1 ⟨rfl, hk1, hc1⟩))
    · (try simp only [List.getElem_toArray, List.getElem_cons_zero, List.getElem_cons_succ, Act.put, List.setIfInBounds_toArray, List.set_cons_zero, List.set_cons_succ])
      have hB := Blk.new w1 22 (madeCells #[.int .u64 0] n)
      have hs' : w.heap.size ≤ w1.heap.size := hc1.size
      have hk2 := hk1.c0 ((Chg.refl Non w1).alloc (.cells (madeCells #[.int .u64 0] n) 22))
      have hc2 : Chg (fun k => k = g) w (w1.alloc (.cells (madeCells #[.int .u64 0] n) 22)) := ((Chg.refl (fun k => k = g) w).drew).trans (hc1.alloc _) fun _ _ h => h
      generalize World.alloc _ _ = w2 at hB hk2 hc2 ⊢
      go_wp2_with fail
      go_meet
      exact ⟨rfl, rfl, _, rfl, hs', hB, hk2, hc2⟩
    · (try simp only [List.getElem_toArray, List.getElem_cons_zero, List.getElem_cons_succ, Act.put, List.setIfInBounds_toArray, List.set_cons_zero, List.set_cons_succ])
      have hB := (Blk.new w.drew 22 (madeCells #[.int .u64 0] n)).chg hc1 (fun e => by have : w.drew.heap.size = w.heap.size := rfl; omega)
      have hc2 : Chg (fun k => k = g) w w1 := ((Chg.refl (fun k => k = g) w).drew.alloc _).trans hc1 fun _ _ h => h
      go_wp2_with fail
      go_meet
      exact ⟨rfl, rfl, _, rfl, Nat.le_refl _, hB, hk1, hc2⟩
  case rest =>
    obtain ⟨rfl, rfl, a, rfl, ha, hB, hE, hc⟩ := hcut
    have HE := hide hE
    obtain ⟨v, hb, he⟩ := hE
    clear HN hmk
    have e1 : (er == 0) = false := beq_eq_false_iff_ne.2 he
    go_wp2_with fail
    go_loopw [15] (fun iv wr => ∃ k, k ≤ n ∧ iv = .int .i64 (k : Int) ∧ wr = wc) (fun iv _ => n - (intOf iv).toNat)
    case atStart => exact ⟨0, Nat.zero_le _, rfl, rfl⟩
    case round =>
      obtain ⟨k, hk, rfl, rfl⟩ := hrel
      have c1 := hb.cell 1
      simp at c1
      by_cases h1 : k < n
      · clear hB hb
        go_wp2_with fail
        go_roundw
        case rel => exact ⟨k + 1, by omega, by go_num, trivial⟩
        case measure => simp [intOf]; omega
      · clear hb
        have HB := hide hB
        clear hB
        go_wp2_with fail
        go_ret
        exact ⟨a, er, rfl, ha, HB.out, HE.out, hc⟩
set_option maxHeartbeats 4000000 in
theorem recTruthB {w : World} {g : Nat} (h : RdBad w g) :
    Calls Try.prog 56 #[.pointer (some ⟨g, 0, none⟩)] w fun e w' => ∃ er, e = .returned (.bool false) ∧ RdErr w' g er ∧ Chg (fun k => k = g) w w' := by
  obtain ⟨er, hg, hn⟩ := h
  have hn := hn w (Chg.refl _ _)
  go_enter Try.func56, Try.ntmps56
  go_wp2_with fail
  refine hn.mono ?_
  rintro e w1 ⟨rfl, hE, hc⟩
  have HE := hide hE
  obtain ⟨v, hb, he⟩ := hE
  have c1 := hb.cell 1
  simp at c1
  have e1 : (er == 0) = false := beq_eq_false_iff_ne.2 he
  clear hb
  go_wp2_with fail
  go_ret
  exact ⟨er, rfl, HE.out, hc⟩
set_option maxHeartbeats 4000000 in
theorem recAllB {w : World} {g : Nat} (h : RdBad w g) :
    Calls Try.prog 57 #[.pointer (some ⟨g, 0, none⟩)] w fun e w' => ∃ er, e = .returned (.slice none 0 0) ∧ RdErr w' g er ∧ Chg (fun k => k = g) w w' := by
  obtain ⟨er, hg, hn⟩ := h
  have hn := hn w (Chg.refl _ _)
  go_enter Try.func57, Try.ntmps57
  go_wp2_with fail
  refine hn.mono ?_
  rintro e w1 ⟨rfl, hE, hc⟩
  have HE := hide hE
  obtain ⟨v, hb, he⟩ := hE
  have c1 := hb.cell 1
  simp at c1
  have e1 : (er == 0) = false := beq_eq_false_iff_ne.2 he
  clear hb
  go_wp2_with fail
  refine wp_loop_rounds 1 ?_
  rw [rounds_succ]
  go_wp2_with fail
  go_ret
  exact ⟨er, rfl, HE.out, hc⟩
set_option maxHeartbeats 4000000 in
theorem recTriB {w : World} {g : Nat} {fv : Value} (h : RdBad w g) :
    Calls Try.prog 53 #[.pointer (some ⟨g, 0, none⟩), fv] w fun e w' => ∃ er, e = .returned (.tuple #[]) ∧ RdErr w' g er ∧ Chg (fun k => k = g) w w' := by
  obtain ⟨er, hg, hn⟩ := h
  have hn := hn w (Chg.refl _ _)
  go_enter Try.func53, Try.ntmps53
  go_wp2_with fail
  refine hn.mono ?_
  rintro e w1 ⟨rfl, hE, hc⟩
  have HE := hide hE
  obtain ⟨v, hb, he⟩ := hE
  have c1 := hb.cell 1
  simp at c1
  have e1 : (er != 0) = true := by simp [he]
  clear hb
  go_wp2_with fail
  exact bodyPost_ret (results_none rfl _ _ _) rfl ⟨er, rfl, HE.out, hc⟩
end Go.Proofs.Ytpbgjldjipgfeaa

namespace Go.Proofs.Ytpbgjldjipgfeaa
open Go.RowKit
set_option linter.unusedVariables false

/-- stores into one block -/
theorem stored1 {w : World} {g : Nat} {t : TypeId} {cs : Array Value} (h : Blk w g t cs) (i : Nat) (u : Value) : Blk (w.setCell ⟨g, i, none⟩ u) g t (cs.setIfInBounds i u) ∧ Chg (fun k => k = g) w (w.setCell ⟨g, i, none⟩ u) :=
  ⟨h.set_ i u, (Chg.refl (fun k => k = g) w).setCell (p := ⟨g, i, none⟩) (fun _ => rfl) u⟩
theorem stored3 {w : World} {g : Nat} {t : TypeId} {cs : Array Value} (h : Blk w g t cs) (i j k : Nat) (u v x : Value) :
    Blk (((w.setCell ⟨g, i, none⟩ u).setCell ⟨g, j, none⟩ v).setCell ⟨g, k, none⟩ x) g t (((cs.setIfInBounds i u).setIfInBounds j v).setIfInBounds k x) ∧ Chg (fun k => k = g) w (((w.setCell ⟨g, i, none⟩ u).setCell ⟨g, j, none⟩ v).setCell ⟨g, k, none⟩ x) := by
  obtain ⟨h1, k1⟩ := stored1 h i u
  obtain ⟨h2, k2⟩ := stored1 h1 j v
  obtain ⟨h3, k3⟩ := stored1 h2 k x
  exact ⟨h3, (k1.trans k2 fun _ _ h => h).trans k3 fun _ _ h => h⟩
theorem run_nm {w : World} {F : Nat → Prop} {v : Value} {s : ByteArray} (h : RdB w F v (nmB s)) : (convert 28 9 v).run Try.prog w = .ok (.string s) w := run_str h
theorem row_low {w : World} {base b sz n : Nat} {e : TypeId} {v : Value} {xs : List Value} (h : w.ownsRow base e sz v n xs) (hb : b ≤ base) : w.ownsRow b e sz v n xs := by
  refine ⟨h.1, ?_⟩
  rcases h.2 with hn | ⟨g', cap, cur, rfl, hg, rest⟩
  · exact .inl hn
  · exact .inr ⟨g', cap, cur, rfl, by omega, rest⟩
theorem fieldEnd2 {w w0 w1 w2 : World} {F : Nat → Prop} {g o : Nat} {vs : List Value} {cs : Array Value} (hk0 : Chg Non w w0) (hc1 : Chg (fun k => k = g) w0 w1) (hRd : RdOk w1 F g vs)
    (hco : Chg (fun k => k = o) w1 w2) (hbo : Blk w2 o 32 cs) (hog : o ≠ g) (hol : o < w.heap.size) (hFw : ∀ k, F k → k < w.heap.size ∧ k ≠ o) :
    Ending.returned (.tuple #[]) = .returned (.tuple #[]) ∧ Blk w2 o 32 cs ∧ RdOk w2 F g vs ∧ Chg (fun k => k = g ∨ k = o) w w2 := by
  refine ⟨rfl, hbo, hRd.chg hco (fun e => hog e.symm) fun k hk e => (hFw k hk).2 e, ?_⟩
  exact ((hk0.mono (S' := fun k => k = g ∨ k = o) fun _ _ h => h.elim).trans hc1 fun _ _ h => .inl h).trans hco fun _ _ h => .inr h
/-- what a field leaves behind -/
theorem fieldEnd {w w0 w1 w2 : World} {F : Nat → Prop} {g o : Nat} {vs : List Value} {cs : Array Value} (hk0 : Chg Non w w0) (hc1 : Chg (fun k => k = g) w0 w1) (hRd : RdOk w1 F g vs)
    (hco : Chg (fun k => k = o) w1.drew w2) (hbo : Blk w2 o 32 cs) (hog : o ≠ g) (hol : o < w.heap.size) (hFw : ∀ k, F k → k < w.heap.size ∧ k ≠ o) :
    Ending.returned (.tuple #[]) = .returned (.tuple #[]) ∧ Blk w2 o 32 cs ∧ RdOk w2 F g vs ∧ Chg (fun k => k = g ∨ k = o) w w2 := by
  have hd : Chg Non w1 w1.drew := (Chg.refl Non w1).drew
  refine ⟨rfl, hbo, (hRd.c0 hd).chg hco (fun e => hog e.symm) fun k hk e => (hFw k hk).2 e, ?_⟩
  exact (((hk0.mono (S' := fun k => k = g ∨ k = o) fun _ _ h => h.elim).trans hc1 fun _ _ h => .inl h).trans0 hd).trans hco fun _ _ h => .inr h


set_option maxHeartbeats 8000000 in
set_option maxRecDepth 100000 in
theorem recFieldT {w : World} {F G : Nat → Prop} {g o : Nat} {p : Value} {vs : List Value} {c0 c1 c2 c3 c4 c5 c6 c7 c8 c9 c10 : Value}  (h : RdOk w F g (p :: vs)) (hG : ¬ G g) (hl : vs.length ≤ 1000000000000) (hFw : ∀ k, F k → k < w.heap.size ∧ k ≠ o)
    (ho : Blk w o 32 #[c0, c1, c2, c3, c4, c5, c6, c7, c8, c9, c10]) (hog : o ≠ g) {a b c : Nat} (hr : RdB w G p (numB a ++ (numB b ++ numB c))) (ha : U64 a) (hb : U64 b) (hc : U64 c) :
    Calls Try.prog 37 #[.pointer (some ⟨g, 0, none⟩), .pointer (some ⟨o, 0, none⟩), .int .i32 84] w fun e w' => e = .returned (.tuple #[]) ∧ Blk w' o 32 #[c0, .int .u64 (a : Int), .int .u64 (b : Int), .int .u64 (c : Int), c4, c5, c6, c7, c8, c9, c10] ∧ RdOk w' F g vs ∧ Chg (fun k => k = g ∨ k = o) w w' := by
  have hg := h.blk
  have hol := ho.lt
  have hb0 := Blk.new w 82 #[.pointer (some ⟨o, 0, none⟩)]
  have hk0 := (Chg.refl Non w).alloc (.cells #[.pointer (some ⟨o, 0, none⟩)] 82)
  have h0 := h.c0 hk0
  have ho0 := ho.c0 hk0
  have hr0 := hr.c0 hk0
  clear h ho hr
  go_enter Try.func37, Try.ntmps37
  go_upto_region 1 with fail
  have hsz : (w.alloc (.cells #[.pointer (some ⟨o, 0, none⟩)] 82)).heap.size = w.heap.size + 1 := by simp
  generalize World.alloc _ _ = w0 at hb0 hk0 h0 ho0 hr0 hsz ⊢
  have hF0 : ∀ k, F k → k < w0.heap.size := fun k hk => by have := hFw k hk; omega
  rw [← numsB3] at hr0
  have hs := recSome (ns := [a, b, c]) h0 hr0 hG hl (by simp [ha, hb, hc]) (by simp) hF0
  rw [show (([a, b, c].length : Nat) : Int) = 3 from rfl] at hs
  go_wp2_with fail
  refine hs.mono ?_
  rintro e w1 ⟨q, rfl, hq, hB, hRd, hc1⟩
  have hs1 := hc1.size
  have ho1 := ho0.chg hc1 hog
  have hb1 := hb0.chg hc1 (by omega)
  have t0 := hb1.cell 0
  have q0 : w1.cell? ⟨q, 0, none⟩ = some (.int .u64 (a : Int)) := hB.cell 0
  have q1 : w1.cell? ⟨q, 1, none⟩ = some (.int .u64 (b : Int)) := hB.cell 1
  have q2 : w1.cell? ⟨q, 2, none⟩ = some (.int .u64 (c : Int)) := hB.cell 2
  have o1 := ho1.cell 1
  have o2 := ho1.cell 2
  have o3 := ho1.cell 3
  have f1 := ho1.frozen 1
  have f2 := ho1.frozen 2
  have f3 := ho1.frozen 3
  simp at t0 o1 o2 o3
  clear hs hB
  go_upto_region 5 with fail
  go_still_tail 11, (by kernel_rfl)
  change wpList _ _ _ _ _ w1.drew
  have HX := hide (stored3 (w := w1.drew) ho1 1 2 3 (.int .u64 (a : Int)) (.int .u64 (b : Int)) (.int .u64 (c : Int)))
  go_wp2_with fail
  obtain ⟨hbo, hco⟩ := HX.out
  simp only [List.setIfInBounds_toArray, List.set_cons_succ, List.set_cons_zero] at hbo
  exact bodyPost_end (results_none rfl _ _ _) rfl (fieldEnd hk0 hc1 hRd hco hbo hog hol hFw)

set_option maxHeartbeats 8000000 in
set_option maxRecDepth 100000 in
theorem recFieldC {w : World} {F G : Nat → Prop} {g o : Nat} {p : Value} {vs : List Value} {c0 c1 c2 c3 c4 c5 c6 c7 c8 c9 c10 : Value}  (h : RdOk w F g (p :: vs)) (hG : ¬ G g) (hl : vs.length ≤ 1000000000000) (hFw : ∀ k, F k → k < w.heap.size ∧ k ≠ o)
    (ho : Blk w o 32 #[c0, c1, c2, c3, c4, c5, c6, c7, c8, c9, c10]) (hog : o ≠ g) {b : Bool} (hr : RdB w G p (flB b)) :
    Calls Try.prog 37 #[.pointer (some ⟨g, 0, none⟩), .pointer (some ⟨o, 0, none⟩), .int .i32 67] w fun e w' => e = .returned (.tuple #[]) ∧ Blk w' o 32 #[c0, c1, c2, c3, c4, c5, .bool b, c7, c8, c9, c10] ∧ RdOk w' F g vs ∧ Chg (fun k => k = g ∨ k = o) w w' := by
  have hg := h.blk
  have hol := ho.lt
  have hb0 := Blk.new w 82 #[.pointer (some ⟨o, 0, none⟩)]
  have hk0 := (Chg.refl Non w).alloc (.cells #[.pointer (some ⟨o, 0, none⟩)] 82)
  have h0 := h.c0 hk0
  have ho0 := ho.c0 hk0
  have hr0 := hr.c0 hk0
  clear h ho hr
  go_enter Try.func37, Try.ntmps37
  go_upto_region 1 with fail
  have hsz : (w.alloc (.cells #[.pointer (some ⟨o, 0, none⟩)] 82)).heap.size = w.heap.size + 1 := by simp
  generalize World.alloc _ _ = w0 at hb0 hk0 h0 ho0 hr0 hsz ⊢
  have hF0 : ∀ k, F k → k < w0.heap.size := fun k hk => by have := hFw k hk; omega
  have hkd := hk0.drew
  have hd : Chg Non w0 w0.drew := (Chg.refl Non w0).drew
  have h0 := h0.c0 hd
  have hr0 := hr0.c0 hd
  have t0 : w0.drew.cell? ⟨w.heap.size, 0, none⟩ = some (.pointer (some ⟨o, 0, none⟩)) := hb0.cell 0
  have t0' : w0.cell? ⟨w.heap.size, 0, none⟩ = some (.pointer (some ⟨o, 0, none⟩)) := t0
  have htg : ¬ (w.heap.size = g) := by omega
  have HC := hide (recTruthR h0 hr0 hG hl)
  go_upto_region 11 with fail
  go_region_law (first
    | (go_simp; go_at_call 56; refine HC.out.mono ?_; rintro e w1 ⟨rfl, hRd, hc1⟩; have t0 := hc1.cell t0 htg; have ho1 := (ho0.c0 hd).chg hc1 hog; have o1 := ho1.cell 6; have f1 := ho1.frozen 6))
  all_goals
    have HX := hide (stored1 ho1 6 (.bool b))
    (try simp only [List.getElem_toArray, List.getElem_cons_zero, List.getElem_cons_succ, Act.put, List.setIfInBounds_toArray, List.set_cons_zero, List.set_cons_succ])
    simp only [List.getElem?_toArray, List.getElem?_cons_succ, List.getElem?_cons_zero] at o1
    go_wp2_with fail
    obtain ⟨hbo, hco⟩ := HX.out
    simp only [List.setIfInBounds_toArray, List.set_cons_succ, List.set_cons_zero] at hbo
    exact bodyPost_end (results_none rfl _ _ _) rfl (fieldEnd2 hkd hc1 hRd hco hbo hog hol hFw)

set_option maxHeartbeats 8000000 in
set_option maxRecDepth 100000 in
theorem recFieldA {w : World} {F G : Nat → Prop} {g o : Nat} {p : Value} {vs : List Value} {c0 c1 c2 c3 c4 c5 c6 c7 c8 c9 c10 : Value}  (h : RdOk w F g (p :: vs)) (hG : ¬ G g) (hl : vs.length ≤ 1000000000000) (hFw : ∀ k, F k → k < w.heap.size ∧ k ≠ o)
    (ho : Blk w o 32 #[c0, c1, c2, c3, c4, c5, c6, c7, c8, c9, c10]) (hog : o ≠ g) (hr : ∃ A n c, p = .slice A n c) :
    Calls Try.prog 37 #[.pointer (some ⟨g, 0, none⟩), .pointer (some ⟨o, 0, none⟩), .int .i32 65] w fun e w' => e = .returned (.tuple #[]) ∧ Blk w' o 32 #[c0, c1, c2, c3, c4, c5, c6, c7, p, c9, c10] ∧ RdOk w' F g vs ∧ Chg (fun k => k = g ∨ k = o) w w' := by
  have hg := h.blk
  have hol := ho.lt
  have hb0 := Blk.new w 82 #[.pointer (some ⟨o, 0, none⟩)]
  have hk0 := (Chg.refl Non w).alloc (.cells #[.pointer (some ⟨o, 0, none⟩)] 82)
  have h0 := h.c0 hk0
  have ho0 := ho.c0 hk0
  obtain ⟨P, pn, pc, rfl⟩ := hr
  clear h ho
  go_enter Try.func37, Try.ntmps37
  go_upto_region 1 with fail
  have hsz : (w.alloc (.cells #[.pointer (some ⟨o, 0, none⟩)] 82)).heap.size = w.heap.size + 1 := by simp
  generalize World.alloc _ _ = w0 at hb0 hk0 h0 ho0 hsz ⊢
  have hF0 : ∀ k, F k → k < w0.heap.size := fun k hk => by have := hFw k hk; omega
  have hkd := hk0.drew
  have hd : Chg Non w0 w0.drew := (Chg.refl Non w0).drew
  have h0 := h0.c0 hd
  have t0 : w0.drew.cell? ⟨w.heap.size, 0, none⟩ = some (.pointer (some ⟨o, 0, none⟩)) := hb0.cell 0
  have t0' : w0.cell? ⟨w.heap.size, 0, none⟩ = some (.pointer (some ⟨o, 0, none⟩)) := t0
  have htg : ¬ (w.heap.size = g) := by omega
  have HC := hide (recNext h0 ⟨_, _, _, rfl⟩ hl)
  go_upto_region 19 with fail
  go_region_law (first
    | (go_simp; go_at_call 36; refine HC.out.mono ?_; rintro e w1 ⟨rfl, hRd, hc1⟩; have t0 := hc1.cell t0 htg; have ho1 := (ho0.c0 hd).chg hc1 hog; have o1 := ho1.cell 8; have f1 := ho1.frozen 8))
  all_goals
    have HX := hide (stored1 ho1 8 (.slice P pn pc))
    (try simp only [List.getElem_toArray, List.getElem_cons_zero, List.getElem_cons_succ, Act.put, List.setIfInBounds_toArray, List.set_cons_zero, List.set_cons_succ])
    simp only [List.getElem?_toArray, List.getElem?_cons_succ, List.getElem?_cons_zero] at o1
    go_wp2_with fail
    obtain ⟨hbo, hco⟩ := HX.out
    simp only [List.setIfInBounds_toArray, List.set_cons_succ, List.set_cons_zero] at hbo
    exact bodyPost_end (results_none rfl _ _ _) rfl (fieldEnd2 hkd hc1 hRd hco hbo hog hol hFw)

set_option maxHeartbeats 8000000 in
set_option maxRecDepth 100000 in
theorem recFieldN {w : World} {F G : Nat → Prop} {g o : Nat} {p : Value} {vs : List Value} {c0 c1 c2 c3 c4 c5 c6 c7 c8 c9 c10 : Value}  (h : RdOk w F g (p :: vs)) (hG : ¬ G g) (hl : vs.length ≤ 1000000000000) (hFw : ∀ k, F k → k < w.heap.size ∧ k ≠ o)
    (ho : Blk w o 32 #[c0, c1, c2, c3, c4, c5, c6, c7, c8, c9, c10]) (hog : o ≠ g) {s : ByteArray} (hr : RdB w G p (nmB s)) :
    Calls Try.prog 37 #[.pointer (some ⟨g, 0, none⟩), .pointer (some ⟨o, 0, none⟩), .int .i32 78] w fun e w' => e = .returned (.tuple #[]) ∧ Blk w' o 32 #[c0, c1, c2, c3, c4, c5, c6, c7, c8, c9, .string s] ∧ RdOk w' F g vs ∧ Chg (fun k => k = g ∨ k = o) w w' := by
  have hg := h.blk
  have hol := ho.lt
  have hb0 := Blk.new w 82 #[.pointer (some ⟨o, 0, none⟩)]
  have hk0 := (Chg.refl Non w).alloc (.cells #[.pointer (some ⟨o, 0, none⟩)] 82)
  have h0 := h.c0 hk0
  have ho0 := ho.c0 hk0
  have hr0 := hr.c0 hk0
  clear h ho hr
  go_enter Try.func37, Try.ntmps37
  go_upto_region 1 with fail
  have hsz : (w.alloc (.cells #[.pointer (some ⟨o, 0, none⟩)] 82)).heap.size = w.heap.size + 1 := by simp
  generalize World.alloc _ _ = w0 at hb0 hk0 h0 ho0 hr0 hsz ⊢
  have hF0 : ∀ k, F k → k < w0.heap.size := fun k hk => by have := hFw k hk; omega
  have hkd := hk0.drew
  have hd : Chg Non w0 w0.drew := (Chg.refl Non w0).drew
  have h0 := h0.c0 hd
  have hr0 := hr0.c0 hd
  have t0 : w0.drew.cell? ⟨w.heap.size, 0, none⟩ = some (.pointer (some ⟨o, 0, none⟩)) := hb0.cell 0
  have t0' : w0.cell? ⟨w.heap.size, 0, none⟩ = some (.pointer (some ⟨o, 0, none⟩)) := t0
  have htg : ¬ (w.heap.size = g) := by omega
  have HC := hide (recNext h0 hr0.sl hl)
  go_upto_region 2 with fail
  go_region_law (first
    | (go_simp; go_at_call 36; refine HC.out.mono ?_; rintro e w1 ⟨rfl, hRd, hc1⟩; have t0 := hc1.cell t0 htg; have ho1 := (ho0.c0 hd).chg hc1 hog; have o1 := ho1.cell 10; have f1 := ho1.frozen 10; have hcv := run_nm (hr0.chg hc1 (fun k hk e => hG (e ▸ hk)))))
  all_goals
    have HX := hide (stored1 ho1 10 (.string s))
    (try simp only [List.getElem_toArray, List.getElem_cons_zero, List.getElem_cons_succ, Act.put, List.setIfInBounds_toArray, List.set_cons_zero, List.set_cons_succ])
    simp only [List.getElem?_toArray, List.getElem?_cons_succ, List.getElem?_cons_zero] at o1
    go_wp2_with fail
    obtain ⟨hbo, hco⟩ := HX.out
    simp only [List.setIfInBounds_toArray, List.set_cons_succ, List.set_cons_zero] at hbo
    exact bodyPost_end (results_none rfl _ _ _) rfl (fieldEnd2 hkd hc1 hRd hco hbo hog hol hFw)

set_option maxHeartbeats 8000000 in
set_option maxRecDepth 100000 in
theorem recFieldI {w : World} {F G : Nat → Prop} {g o : Nat} {p : Value} {vs : List Value} {c0 c1 c2 c3 c4 c5 c6 c7 c8 c9 c10 : Value}  (h : RdOk w F g (p :: vs)) (hG : ¬ G g) (hl : vs.length ≤ 1000000000000) (hFw : ∀ k, F k → k < w.heap.size ∧ k ≠ o)
    (ho : Blk w o 32 #[c0, c1, c2, c3, c4, c5, c6, c7, c8, c9, c10]) (hog : o ≠ g) {n : Nat} (hr : RdB w G p (numB n)) (hn : U64 n) :
    Calls Try.prog 37 #[.pointer (some ⟨g, 0, none⟩), .pointer (some ⟨o, 0, none⟩), .int .i32 73] w fun e w' => e = .returned (.tuple #[]) ∧ Blk w' o 32 #[c0, c1, c2, c3, c4, c5, c6, c7, c8, .int .u64 (n : Int), c10] ∧ RdOk w' F g vs ∧ Chg (fun k => k = g ∨ k = o) w w' := by
  have hg := h.blk
  have hol := ho.lt
  have hb0 := Blk.new w 82 #[.pointer (some ⟨o, 0, none⟩)]
  have hk0 := (Chg.refl Non w).alloc (.cells #[.pointer (some ⟨o, 0, none⟩)] 82)
  have h0 := h.c0 hk0
  have ho0 := ho.c0 hk0
  have hr0 := hr.c0 hk0
  clear h ho hr
  go_enter Try.func37, Try.ntmps37
  go_upto_region 1 with fail
  have hsz : (w.alloc (.cells #[.pointer (some ⟨o, 0, none⟩)] 82)).heap.size = w.heap.size + 1 := by simp
  generalize World.alloc _ _ = w0 at hb0 hk0 h0 ho0 hr0 hsz ⊢
  have hF0 : ∀ k, F k → k < w0.heap.size := fun k hk => by have := hFw k hk; omega
  have hkd := hk0.drew
  have hd : Chg Non w0 w0.drew := (Chg.refl Non w0).drew
  have h0 := h0.c0 hd
  have hr0 := hr0.c0 hd
  have t0 : w0.drew.cell? ⟨w.heap.size, 0, none⟩ = some (.pointer (some ⟨o, 0, none⟩)) := hb0.cell 0
  have t0' : w0.cell? ⟨w.heap.size, 0, none⟩ = some (.pointer (some ⟨o, 0, none⟩)) := t0
  have htg : ¬ (w.heap.size = g) := by omega
  rw [← numsB1] at hr0
  have hs := recSome (ns := [n]) h0 hr0 hG hl (by simp [hn]) (by simp) hF0
  rw [show (([n].length : Nat) : Int) = 1 from rfl] at hs
  have HC := hide (hs)
  go_upto_region 21 with fail
  go_region_law (first
    | (go_simp; go_at_call 52; refine HC.out.mono ?_; rintro e w1 ⟨q, rfl, hq, hB, hRd, hc1⟩; have t0 := hc1.cell t0 htg; have ho1 := (ho0.c0 hd).chg hc1 hog; have o1 := ho1.cell 9; have f1 := ho1.frozen 9; have q0 : w1.cell? ⟨q, 0, none⟩ = some (.int .u64 (n : Int)) := hB.cell 0))
  all_goals
    have HX := hide (stored1 ho1 9 (.int .u64 (n : Int)))
    (try simp only [List.getElem_toArray, List.getElem_cons_zero, List.getElem_cons_succ, Act.put, List.setIfInBounds_toArray, List.set_cons_zero, List.set_cons_succ])
    simp only [List.getElem?_toArray, List.getElem?_cons_succ, List.getElem?_cons_zero] at o1
    go_wp2_with fail
    obtain ⟨hbo, hco⟩ := HX.out
    simp only [List.setIfInBounds_toArray, List.set_cons_succ, List.set_cons_zero] at hbo
    exact bodyPost_end (results_none rfl _ _ _) rfl (fieldEnd2 hkd hc1 hRd hco hbo hog hol hFw)

set_option maxHeartbeats 8000000 in
set_option maxRecDepth 100000 in
theorem recFieldW {w : World} {F G : Nat → Prop} {g o : Nat} {p : Value} {vs : List Value} {c0 c1 c2 c3 c5 c6 c7 c8 c9 c10 : Value}  (h : RdOk w F g (p :: vs)) (hG : ¬ G g) (hl : vs.length ≤ 1000000000000) (hFw : ∀ k, F k → k < w.heap.size ∧ k ≠ o)
    (ho : Blk w o 32 #[c0, c1, c2, c3, .slice none 0 0, c5, c6, c7, c8, c9, c10]) (hog : o ≠ g) {l : List WrS} (hr : RdB w G p (triB l)) (hw : triW l ≤ 1048576) (hn : l.length ≤ 1048576) :
    Calls Try.prog 37 #[.pointer (some ⟨g, 0, none⟩), .pointer (some ⟨o, 0, none⟩), .int .i32 87] w fun e w' => e = .returned (.tuple #[]) ∧ ∃ v' xs, xs.length = l.length ∧ Blk w' o 32 #[c0, c1, c2, c3, v', c5, c6, c7, c8, c9, c10] ∧ w'.ownsRow w.heap.size 49 3 v' l.length (flW xs l) ∧ OwnPs w' w.heap.size (pcW xs l) ∧ RdOk w' F g vs ∧ Chg (fun k => k = g ∨ k = o) w w' := by
  have hg := h.blk
  have hol := ho.lt
  have hb0 := Blk.new w 82 #[.pointer (some ⟨o, 0, none⟩)]
  have hk0 := (Chg.refl Non w).alloc (.cells #[.pointer (some ⟨o, 0, none⟩)] 82)
  have h0 := h.c0 hk0
  have ho0 := ho.c0 hk0
  have hr0 := hr.c0 hk0
  clear h ho hr
  go_enter Try.func37, Try.ntmps37
  go_upto_region 1 with fail
  have hsz : (w.alloc (.cells #[.pointer (some ⟨o, 0, none⟩)] 82)).heap.size = w.heap.size + 1 := by simp
  generalize World.alloc _ _ = w0 at hb0 hk0 h0 ho0 hr0 hsz ⊢
  have hF0 : ∀ k, F k → k < w0.heap.size := fun k hk => by have := hFw k hk; omega
  have ht := recTriW (t := w.heap.size) h0 hr0 hG hl hw hn (fun k hk => ⟨hF0 k hk, (hFw k hk).2⟩) hb0 ho0 hog (by omega) (by omega)
  have hmf' := hmf
  go_wp2_with fail
  refine ht.mono ?_
  rintro e w1 ⟨rfl, v', xs, hx, hbo, hrow, hP, hRd, hc1⟩
  go_wp2_with fail
  refine bodyPost_end (results_none rfl _ _ _) rfl ⟨rfl, v', xs, hx, hbo, row_low hrow hk0.size, hP.low hk0.size, hRd, (hk0.mono (fun _ _ h => h.elim)).trans hc1 fun _ _ h => h⟩

set_option maxHeartbeats 8000000 in
set_option maxRecDepth 100000 in
theorem recFieldR {w : World} {F G : Nat → Prop} {g o : Nat} {p : Value} {vs : List Value} {c0 c1 c2 c3 c4 c6 c7 c8 c9 c10 : Value}  (h : RdOk w F g (p :: vs)) (hG : ¬ G g) (hl : vs.length ≤ 1000000000000) (hFw : ∀ k, F k → k < w.heap.size ∧ k ≠ o)
    (ho : Blk w o 32 #[c0, c1, c2, c3, c4, .slice none 0 0, c6, c7, c8, c9, c10]) (hog : o ≠ g) {l : List WrS} (hr : RdB w G p (triB l)) (hw : triW l ≤ 1048576) (hn : l.length ≤ 1048576) :
    Calls Try.prog 37 #[.pointer (some ⟨g, 0, none⟩), .pointer (some ⟨o, 0, none⟩), .int .i32 82] w fun e w' => e = .returned (.tuple #[]) ∧ ∃ v' xs, xs.length = l.length ∧ Blk w' o 32 #[c0, c1, c2, c3, c4, v', c6, c7, c8, c9, c10] ∧ w'.ownsRow w.heap.size 63 3 v' l.length (flW xs l) ∧ OwnPs w' w.heap.size (pcW xs l) ∧ RdOk w' F g vs ∧ Chg (fun k => k = g ∨ k = o) w w' := by
  have hg := h.blk
  have hol := ho.lt
  have hb0 := Blk.new w 82 #[.pointer (some ⟨o, 0, none⟩)]
  have hk0 := (Chg.refl Non w).alloc (.cells #[.pointer (some ⟨o, 0, none⟩)] 82)
  have h0 := h.c0 hk0
  have ho0 := ho.c0 hk0
  have hr0 := hr.c0 hk0
  clear h ho hr
  go_enter Try.func37, Try.ntmps37
  go_upto_region 1 with fail
  have hsz : (w.alloc (.cells #[.pointer (some ⟨o, 0, none⟩)] 82)).heap.size = w.heap.size + 1 := by simp
  generalize World.alloc _ _ = w0 at hb0 hk0 h0 ho0 hr0 hsz ⊢
  have hF0 : ∀ k, F k → k < w0.heap.size := fun k hk => by have := hFw k hk; omega
  have ht := recTriR (t := w.heap.size) h0 hr0 hG hl hw hn (fun k hk => ⟨hF0 k hk, (hFw k hk).2⟩) hb0 ho0 hog (by omega) (by omega)
  have hmf' := hmf
  go_wp2_with fail
  refine ht.mono ?_
  rintro e w1 ⟨rfl, v', xs, hx, hbo, hrow, hP, hRd, hc1⟩
  go_wp2_with fail
  refine bodyPost_end (results_none rfl _ _ _) rfl ⟨rfl, v', xs, hx, hbo, row_low hrow hk0.size, hP.low hk0.size, hRd, (hk0.mono (fun _ _ h => h.elim)).trans hc1 fun _ _ h => h⟩
end Go.Proofs.Ytpbgjldjipgfeaa

namespace Go.Proofs.Ytpbgjldjipgfeaa
open Go.RowKit
set_option linter.unusedVariables false

theorem step_I1 {w : World} {ops : Array Oper} {o : Oper} {a : Act} {K : Act → World → Prop} {Q : Exit → Act → World → Prop} {E : Prop} (hgd : o.guard = none) (s x : Operand)
    (ho : o.op = .call { callee := .builtin .append, args := #[s, x], argTypes := #[27, 27] })
    {base : Nat} {v : Value} {xs : List Value} {n : Nat} (hown : w.ownsRow base 3 1 v n xs) (hv : a.eval s = v)
    {m : Int} {g : Nat} (hg : Blk w g 3 #[.int .i64 m]) (hy : a.eval x = .slice (some ⟨g, 0, none⟩) 1 1)
    (hb : n + 1 ≤ 1000000000000) (hbase : base ≤ w.heap.size)
    (h : ∀ v' w', w'.ownsRow base 3 1 v' (n + 1) (xs ++ [.int .i64 m]) → w.grownBy w' v.ownBlock → K (a.put o.dst v') w') :
    if Region.wanted o (yielded ops a.tmps) = true then Oper.wp Try.prog o a w K Q else E := by
  have hw : Region.wanted o (yielded ops a.tmps) = true := by simp [Region.wanted, hgd]
  rw [if_pos hw]
  obtain ⟨i, hi, hz, h1, h2⟩ := info_parts info_int
  have hr : RdV w (fun _ => True) 1 (.slice (some ⟨g, 0, none⟩) 1 1) 1 [.int .i64 m] := ⟨rfl, _, 1, rfl, Nat.le_refl _, by simp [maxLen], fun _ => ⟨_, rfl, trivial, fun j y hyj => by
    rw [add_none, hg.cell]
    match j, hyj with
    | 0, hyj => simpa using hyj
    | j + 1, hyj => simp at hyj⟩⟩
  subst hv
  rw [← hy] at hr
  refine wp_append_rd w s x _ ho base 3 i _ 1 8 Try.underlying27 hi hz h1 h2 rfl (by omega) _ _ hown _ _ _ hr (fun y hy => by simp at hy; subst hy; rfl) (by simp only [maxLen]; omega) (by omega) hbase ?_
  intro v' w' hown' hgr _ _
  exact h v' w' hown' hgr
theorem shB_nums (l : List Int) : shB l = numsB (l.map u64z) := by
  simp [shB, numsB, List.flatMap_map]
theorem wrap_u64z {s : Int} (h : -9223372036854775808 ≤ s ∧ s ≤ 9223372036854775807) : IntKind.i64.wrap ((u64z s : Nat) : Int) = s := by
  rw [IntKind.wrap_i64]
  unfold u64z
  omega

set_option maxHeartbeats 8000000 in
set_option maxRecDepth 100000 in
theorem recFieldS {w : World} {F G : Nat → Prop} {g o : Nat} {p : Value} {vs : List Value} {c0 c1 c2 c3 c4 c5 c6 c8 c9 c10 : Value} {l : List Int} (h : RdOk w F g (p :: vs)) (hG : ¬ G g) (hl : vs.length ≤ 1000000000000) (hFw : ∀ k, F k → k < w.heap.size ∧ k ≠ o)
    (ho : Blk w o 32 #[c0, c1, c2, c3, c4, c5, c6, .slice none 0 0, c8, c9, c10]) (hog : o ≠ g) (hr : RdB w G p (shB l)) (hn : l.length ≤ 1048576) (hw : ∀ s ∈ l, -9223372036854775808 ≤ s ∧ s ≤ 9223372036854775807) :
    Calls Try.prog 37 #[.pointer (some ⟨g, 0, none⟩), .pointer (some ⟨o, 0, none⟩), .int .i32 83] w fun e w' => e = .returned (.tuple #[]) ∧ ∃ sv, Blk w' o 32 #[c0, c1, c2, c3, c4, c5, c6, sv, c8, c9, c10] ∧ w'.ownsRow w.heap.size 3 1 sv l.length (l.map fun n => .int .i64 n) ∧ RdOk w' F g vs ∧ Chg (fun k => k = g ∨ k = o) w w' := by
  have hg := h.blk
  have hol := ho.lt
  have hb0 := Blk.new w 82 #[.pointer (some ⟨o, 0, none⟩)]
  have hk0 := (Chg.refl Non w).alloc (.cells #[.pointer (some ⟨o, 0, none⟩)] 82)
  have h0 := h.c0 hk0
  have ho0 := ho.c0 hk0
  have hr0 := hr.c0 hk0
  clear h ho hr
  go_enter Try.func37, Try.ntmps37
  go_upto_region 1 with fail
  have hsz : (w.alloc (.cells #[.pointer (some ⟨o, 0, none⟩)] 82)).heap.size = w.heap.size + 1 := by simp
  generalize World.alloc _ _ = w0 at hb0 hk0 h0 ho0 hr0 hsz ⊢
  have hF0 : ∀ k, F k → k < w0.heap.size := fun k hk => by have := hFw k hk; omega
  rw [shB_nums] at hr0
  have hall := recAll h0 hr0 hG hl (fun n hn => by obtain ⟨s, _, rfl⟩ := List.mem_map.1 hn; exact u64z_lt s) (by rw [List.length_map]; omega) hF0
  go_wp2_with fail
  refine hall.mono ?_
  rintro e w1 ⟨u, rfl, hu, hRd, hc1⟩
  have hlen : (l.map u64z).length = l.length := List.length_map ..
  obtain ⟨U, cu, rfl, hcu, hmu⟩ := hu.shape
  rw [hlen] at hu hcu ⊢
  unfold maxLen at hmu
  have ho1 := ho0.chg hc1 hog
  have hb1 := hb0.chg hc1 (by omega)
  have hs1 := hc1.size
  clear hall h0 hr0
  go_wp2_with fail
  go_loopw [55] (fun iv wr => ∃ (k : Nat) (sv : Value), k ≤ l.length ∧ iv = .int .i64 (k : Int) ∧ Blk wr o 32 #[c0, c1, c2, c3, c4, c5, c6, sv, c8, c9, c10] ∧ wr.ownsRow w1.heap.size 3 1 sv k ((l.take k).map fun n => .int .i64 n) ∧ Blk wr w.heap.size 82 #[.pointer (some ⟨o, 0, none⟩)] ∧ RdOk wr F g vs ∧ Chg (fun j => j = o) w1 wr) (fun iv _ => l.length - (intOf iv).toNat)
  case atStart => exact ⟨0, _, Nat.zero_le _, rfl, ho1, World.ownsRow_nil _ _ _ 1, hb1, hRd, Chg.refl _ _⟩
  case round =>
    clear hRd ho1 hb1
    obtain ⟨k, sv, hk, rfl, ho, hrow, hb, hRd, hcw⟩ := hrel
    by_cases h1 : k < l.length
    · have hu2 : RdU wr (fun b => w0.heap.size ≤ b) (.slice U l.length cu) (l.map u64z) := by
        refine RdU.chg hu hcw fun j hj e => ?_
        subst e
        have : w0.heap.size ≤ j := hj
        omega
      obtain ⟨ad, rfl, _, _, hca⟩ := hu2.at_ (k := k) (by rw [hlen]; exact h1)
      have hel : (l.map u64z)[k]'(by rw [hlen]; exact h1) = u64z l[k] := List.getElem_map ..
      rw [hel] at hca
      have HT := hide (show (l.take (k + 1)).map (fun n => Value.int .i64 n) = (l.take k).map (fun n => .int .i64 n) ++ [.int .i64 l[k]] from by rw [List.take_succ_eq_append_getElem h1, List.map_append]; rfl)
      have hwr := wrap_u64z (hw _ (List.getElem_mem h1))
      obtain ⟨m, hm⟩ : ∃ m, m = l[k] := ⟨_, rfl⟩
      rw [← hm] at hca HT hwr
      obtain ⟨z, hz⟩ : ∃ z, z = u64z m := ⟨_, rfl⟩
      rw [← hz] at hca hwr
      clear hel hu2 hm hz
      have h1i : (k : Int) < (l.length : Int) := by omega
      have h0i : (0 : Int) ≤ (k : Int) := by omega
      go_upto_region 16 with fail
      have hkd := (Chg.refl Non wr).drew.alloc (.cells #[.int .i64 m] 3)
      have d0 : wr.cell? ⟨w.heap.size, 0, none⟩ = some (.pointer (some ⟨o, 0, none⟩)) := hb.cell 0
      have d1 : wr.cell? ⟨o, 7, none⟩ = some sv := ho.cell 7
      have a0 : (wr.alloc (.cells #[.int .i64 m] 3)).cell? ⟨w.heap.size, 0, none⟩ = some (.pointer (some ⟨o, 0, none⟩)) := cell_al d0
      have a1 : (wr.alloc (.cells #[.int .i64 m] 3)).cell? ⟨o, 7, none⟩ = some sv := cell_al d1
      have HO1 := hide (ho.c0 hkd)
      have HB1 := hide (hb.c0 hkd)
      have HR1 := hide (hRd.c0 hkd)
      have hown1 := row_chg hrow hkd fun _ _ h => h
      have hbl := Blk.new wr.drew 3 #[.int .i64 m]
      have hs9 : w1.heap.size ≤ (wr.drew.alloc (.cells #[.int .i64 m] 3)).heap.size := Nat.le_trans hcw.size hkd.size
      have hn9 : k + 1 ≤ 1000000000000 := by omega
      have hno : ¬ (some o = sv.ownBlock) := fun e => by have := (World.ownsRow.lt hrow o e.symm).1; omega
      have hnt : ¬ (some w.heap.size = sv.ownBlock) := fun e => by have := (World.ownsRow.lt hrow _ e.symm).1; omega
      have HCW := hide hcw
      have HOW := hide hown1
      clear ho hb hRd hrow hcw
      go_region_law (first
        | (refine step_I1 rfl _ _ rfl hown1 rfl hbl rfl hn9 hs9 ?_; intro v3 w3 hO3 hg3; obtain ⟨A3, n3, k3, rfl⟩ := RdV.sl (RdV.of_own hO3); have b0 := (Chg.of_grown hg3).cell a0 hnt; have b1 := (Chg.of_grown hg3).cell a1 hno; have HB3 := hide (HO1.out.chg (Chg.of_grown hg3) hno); have g1 := HB3.out.frozen 7))
      all_goals
        (try simp only [List.getElem_toArray, List.getElem_cons_zero, List.getElem_cons_succ, Act.put, List.setIfInBounds_toArray, List.set_cons_zero, List.set_cons_succ])
        have hbl := HOW.out
        have hlo : ∀ j, sv.ownBlock = some j → w1.heap.size ≤ j := fun j hj => (World.ownsRow.lt HOW.out j hj).1
        have hlo3 := fun j hj => (World.ownsRow.lt hO3 j hj).1
        have HX := hide (stored1 HB3.out 7 (.slice A3 n3 k3))
        have HG := hide hg3
        have HO3 := hide hO3
        clear b0 b1 a0 a1 d0 d1 hbl hO3 hg3 hown1
        go_wp2_with fail
        obtain ⟨hbo, hco⟩ := HX.out
        simp only [List.setIfInBounds_toArray, List.set_cons_succ, List.set_cons_zero] at hbo
        have hbt := (HB1.out.chg (Chg.of_grown HG.out) hnt).chg hco (by omega)
        have hrd := (HR1.out.chg (Chg.of_grown HG.out) (fun e => by have := hlo g e.symm; omega) (fun j hj e => by have := hlo j e.symm; have := hFw j hj; omega)).chg hco (fun e => hog e.symm) (fun j hj e => (hFw j hj).2 e)
        have hr9 := row_chg HO3.out hco fun j hj e => by have := hlo3 j hj; omega
        have hc9 : Chg (fun j => j = o) w1 _ := ((HCW.out.trans0 hkd).own HG.out hlo).trans hco fun _ _ h => h
        go_roundw
        case rel => exact ⟨k + 1, _, by omega, by go_num, hbo, by rw [HT.out]; exact hr9, hbt, hrd, hc9⟩
        case measure => simp [intOf]; omega
    · have hkn : k = l.length := by omega
      subst hkn
      have hfull : l.take l.length = l := List.take_length
      rw [hfull] at hrow
      have HO := hide ho
      have HR := hide hrow
      have HD := hide hRd
      have HC := hide hcw
      clear ho hrow hRd hcw hb
      go_wp2_with fail
      exact bodyPost_end (results_none rfl _ _ _) rfl ⟨rfl, sv, HO.out, row_low HR.out (Nat.le_trans hk0.size hs1), HD.out, ((hk0.mono (S' := fun k => k = g ∨ k = o) fun _ _ h => h.elim).trans hc1 fun _ _ h => .inl h).trans HC.out fun _ _ h => .inr h⟩
end Go.Proofs.Ytpbgjldjipgfeaa

namespace Go.Proofs.Ytpbgjldjipgfeaa
open Go.RowKit
set_option linter.unusedVariables false

/-- a record's block, whatever stands in it -/
def RecBox (w : World) (o : Nat) : Prop := ∃ c0 c1 c2 c3 c4 c5 c6 c7 c8 c9 c10, Blk w o 32 #[c0, c1, c2, c3, c4, c5, c6, c7, c8, c9, c10]
theorem fieldEndB {w w0 w1 w2 : World} {g o : Nat} {er : Int} {c0 c1 c2 c3 c4 c5 c6 c7 c8 c9 c10 : Value} (hk0 : Chg Non w w0) (hc1 : Chg (fun k => k = g) w0 w1) (hRd : RdErr w1 g er)
    (hco : Chg (fun k => k = o) w1 w2) (hbo : Blk w2 o 32 #[c0, c1, c2, c3, c4, c5, c6, c7, c8, c9, c10]) (hog : o ≠ g) :
    Ending.returned (.tuple #[]) = .returned (.tuple #[]) ∧ ∃ er, RecBox w2 o ∧ RdErr w2 g er ∧ Chg (fun k => k = g ∨ k = o) w w2 := by
  refine ⟨rfl, er, ⟨_, _, _, _, _, _, _, _, _, _, _, hbo⟩, hRd.chg hco (fun e => hog e.symm), ?_⟩
  exact ((hk0.mono (S' := fun k => k = g ∨ k = o) fun _ _ h => h.elim).trans hc1 fun _ _ h => .inl h).trans hco fun _ _ h => .inr h
theorem made3 : madeCells #[.int .u64 0] 3 = #[.int .u64 0, .int .u64 0, .int .u64 0] := Array.toList_inj.1 (by rw [toList_madeCells_one]; rfl)
theorem made1 : madeCells #[.int .u64 0] 1 = #[.int .u64 0] := Array.toList_inj.1 (by rw [toList_madeCells_one]; rfl)

set_option maxHeartbeats 8000000 in
set_option maxRecDepth 100000 in
theorem recFieldTB {w : World} {g o : Nat}  (h : RdBad w g) (hbx : RecBox w o) (hog : o ≠ g)  :
    Calls Try.prog 37 #[.pointer (some ⟨g, 0, none⟩), .pointer (some ⟨o, 0, none⟩), .int .i32 84] w fun e w' => e = .returned (.tuple #[]) ∧ ∃ er, RecBox w' o ∧ RdErr w' g er ∧ Chg (fun k => k = g ∨ k = o) w w' := by
  obtain ⟨c0, c1, c2, c3, c4, c5, c6, c7, c8, c9, c10, ho⟩ := hbx
  have hg : g < w.heap.size := by obtain ⟨er, h1, _⟩ := h; exact h1
  have hol := ho.lt
  have hb0 := Blk.new w 82 #[.pointer (some ⟨o, 0, none⟩)]
  have hk0 := (Chg.refl Non w).alloc (.cells #[.pointer (some ⟨o, 0, none⟩)] 82)
  have h0 := h.c0 hk0
  have ho0 := ho.c0 hk0
  clear h ho
  go_enter Try.func37, Try.ntmps37
  go_upto_region 1 with fail
  have hsz : (w.alloc (.cells #[.pointer (some ⟨o, 0, none⟩)] 82)).heap.size = w.heap.size + 1 := by simp
  generalize World.alloc _ _ = w0 at hb0 hk0 h0 ho0 hsz ⊢
  have hs := recSomeB (n := 3) h0 (by omega)
  rw [show ((3 : Nat) : Int) = 3 from rfl] at hs
  go_wp2_with fail
  refine hs.mono ?_
  rintro e w1 ⟨q, er, rfl, hq, hB, hRd, hc1⟩
  rw [made3] at hB
  have ho1 := ho0.chg hc1 hog
  have hb1 := hb0.chg hc1 (by omega)
  have t0 := hb1.cell 0
  have q0 : w1.cell? ⟨q, 0, none⟩ = some (.int .u64 0) := hB.cell 0
  have q1 : w1.cell? ⟨q, 1, none⟩ = some (.int .u64 0) := hB.cell 1
  have q2 : w1.cell? ⟨q, 2, none⟩ = some (.int .u64 0) := hB.cell 2
  have o1 := ho1.cell 1
  have o2 := ho1.cell 2
  have o3 := ho1.cell 3
  have f1 := ho1.frozen 1
  have f2 := ho1.frozen 2
  have f3 := ho1.frozen 3
  simp at t0 o1 o2 o3
  clear hs hB
  go_upto_region 5 with fail
  go_still_tail 11, (by kernel_rfl)
  change wpList _ _ _ _ _ w1.drew
  have HX := hide (stored3 (w := w1.drew) ho1 1 2 3 (.int .u64 0) (.int .u64 0) (.int .u64 0))
  go_wp2_with fail
  obtain ⟨hbo, hco⟩ := HX.out
  simp only [List.setIfInBounds_toArray, List.set_cons_succ, List.set_cons_zero] at hbo
  have hd : Chg Non w1 w1.drew := (Chg.refl Non w1).drew
  exact bodyPost_end (results_none rfl _ _ _) rfl (fieldEndB hk0 (hc1.trans0 hd) (hRd.c0 hd) hco hbo hog)

set_option maxHeartbeats 8000000 in
set_option maxRecDepth 100000 in
theorem recFieldCB {w : World} {g o : Nat}  (h : RdBad w g) (hbx : RecBox w o) (hog : o ≠ g)  :
    Calls Try.prog 37 #[.pointer (some ⟨g, 0, none⟩), .pointer (some ⟨o, 0, none⟩), .int .i32 67] w fun e w' => e = .returned (.tuple #[]) ∧ ∃ er, RecBox w' o ∧ RdErr w' g er ∧ Chg (fun k => k = g ∨ k = o) w w' := by
  obtain ⟨c0, c1, c2, c3, c4, c5, c6, c7, c8, c9, c10, ho⟩ := hbx
  have hg : g < w.heap.size := by obtain ⟨er, h1, _⟩ := h; exact h1
  have hol := ho.lt
  have hb0 := Blk.new w 82 #[.pointer (some ⟨o, 0, none⟩)]
  have hk0 := (Chg.refl Non w).alloc (.cells #[.pointer (some ⟨o, 0, none⟩)] 82)
  have h0 := h.c0 hk0
  have ho0 := ho.c0 hk0
  clear h ho
  go_enter Try.func37, Try.ntmps37
  go_upto_region 1 with fail
  have hsz : (w.alloc (.cells #[.pointer (some ⟨o, 0, none⟩)] 82)).heap.size = w.heap.size + 1 := by simp
  generalize World.alloc _ _ = w0 at hb0 hk0 h0 ho0 hsz ⊢
  have hkd := hk0.drew
  have hd : Chg Non w0 w0.drew := (Chg.refl Non w0).drew
  have h0 := h0.c0 hd
  have t0 : w0.drew.cell? ⟨w.heap.size, 0, none⟩ = some (.pointer (some ⟨o, 0, none⟩)) := hb0.cell 0
  have t0' : w0.cell? ⟨w.heap.size, 0, none⟩ = some (.pointer (some ⟨o, 0, none⟩)) := t0
  have htg : ¬ (w.heap.size = g) := by omega
  have HC := hide (recTruthB h0)
  go_upto_region 11 with fail
  go_region_law (first
    | (go_simp; go_at_call 56; refine HC.out.mono ?_; rintro e w1 ⟨er, rfl, hRd, hc1⟩; have t0 := hc1.cell t0 htg; have ho1 := (ho0.c0 hd).chg hc1 hog; have o1 := ho1.cell 6; have f1 := ho1.frozen 6))
  all_goals
    have HX := hide (stored1 ho1 6 (.bool false))
    (try simp only [List.getElem_toArray, List.getElem_cons_zero, List.getElem_cons_succ, Act.put, List.setIfInBounds_toArray, List.set_cons_zero, List.set_cons_succ])
    simp only [List.getElem?_toArray, List.getElem?_cons_succ, List.getElem?_cons_zero] at o1
    go_wp2_with fail
    obtain ⟨hbo, hco⟩ := HX.out
    simp only [List.setIfInBounds_toArray, List.set_cons_succ, List.set_cons_zero] at hbo
    exact bodyPost_end (results_none rfl _ _ _) rfl (fieldEndB hkd hc1 hRd hco hbo hog)

set_option maxHeartbeats 8000000 in
set_option maxRecDepth 100000 in
theorem recFieldAB {w : World} {g o : Nat}  (h : RdBad w g) (hbx : RecBox w o) (hog : o ≠ g)  :
    Calls Try.prog 37 #[.pointer (some ⟨g, 0, none⟩), .pointer (some ⟨o, 0, none⟩), .int .i32 65] w fun e w' => e = .returned (.tuple #[]) ∧ ∃ er, RecBox w' o ∧ RdErr w' g er ∧ Chg (fun k => k = g ∨ k = o) w w' := by
  obtain ⟨c0, c1, c2, c3, c4, c5, c6, c7, c8, c9, c10, ho⟩ := hbx
  have hg : g < w.heap.size := by obtain ⟨er, h1, _⟩ := h; exact h1
  have hol := ho.lt
  have hb0 := Blk.new w 82 #[.pointer (some ⟨o, 0, none⟩)]
  have hk0 := (Chg.refl Non w).alloc (.cells #[.pointer (some ⟨o, 0, none⟩)] 82)
  have h0 := h.c0 hk0
  have ho0 := ho.c0 hk0
  clear h ho
  go_enter Try.func37, Try.ntmps37
  go_upto_region 1 with fail
  have hsz : (w.alloc (.cells #[.pointer (some ⟨o, 0, none⟩)] 82)).heap.size = w.heap.size + 1 := by simp
  generalize World.alloc _ _ = w0 at hb0 hk0 h0 ho0 hsz ⊢
  have hkd := hk0.drew
  have hd : Chg Non w0 w0.drew := (Chg.refl Non w0).drew
  have h0 := h0.c0 hd
  have t0 : w0.drew.cell? ⟨w.heap.size, 0, none⟩ = some (.pointer (some ⟨o, 0, none⟩)) := hb0.cell 0
  have t0' : w0.cell? ⟨w.heap.size, 0, none⟩ = some (.pointer (some ⟨o, 0, none⟩)) := t0
  have htg : ¬ (w.heap.size = g) := by omega
  obtain ⟨er, hgl, hn0⟩ := h0
  have hn1 := hn0 w0.drew (Chg.refl _ _)
  have HC := hide (hn1)
  go_upto_region 19 with fail
  go_region_law (first
    | (go_simp; go_at_call 36; refine HC.out.mono ?_; rintro e w1 ⟨rfl, hRd, hc1⟩; have t0 := hc1.cell t0 htg; have ho1 := (ho0.c0 hd).chg hc1 hog; have o1 := ho1.cell 8; have f1 := ho1.frozen 8))
  all_goals
    have HX := hide (stored1 ho1 8 (.slice none 0 0))
    (try simp only [List.getElem_toArray, List.getElem_cons_zero, List.getElem_cons_succ, Act.put, List.setIfInBounds_toArray, List.set_cons_zero, List.set_cons_succ])
    simp only [List.getElem?_toArray, List.getElem?_cons_succ, List.getElem?_cons_zero] at o1
    go_wp2_with fail
    obtain ⟨hbo, hco⟩ := HX.out
    simp only [List.setIfInBounds_toArray, List.set_cons_succ, List.set_cons_zero] at hbo
    exact bodyPost_end (results_none rfl _ _ _) rfl (fieldEndB hkd hc1 hRd hco hbo hog)

set_option maxHeartbeats 8000000 in
set_option maxRecDepth 100000 in
theorem recFieldNB {w : World} {g o : Nat}  (h : RdBad w g) (hbx : RecBox w o) (hog : o ≠ g)  :
    Calls Try.prog 37 #[.pointer (some ⟨g, 0, none⟩), .pointer (some ⟨o, 0, none⟩), .int .i32 78] w fun e w' => e = .returned (.tuple #[]) ∧ ∃ er, RecBox w' o ∧ RdErr w' g er ∧ Chg (fun k => k = g ∨ k = o) w w' := by
  obtain ⟨c0, c1, c2, c3, c4, c5, c6, c7, c8, c9, c10, ho⟩ := hbx
  have hg : g < w.heap.size := by obtain ⟨er, h1, _⟩ := h; exact h1
  have hol := ho.lt
  have hb0 := Blk.new w 82 #[.pointer (some ⟨o, 0, none⟩)]
  have hk0 := (Chg.refl Non w).alloc (.cells #[.pointer (some ⟨o, 0, none⟩)] 82)
  have h0 := h.c0 hk0
  have ho0 := ho.c0 hk0
  clear h ho
  go_enter Try.func37, Try.ntmps37
  go_upto_region 1 with fail
  have hsz : (w.alloc (.cells #[.pointer (some ⟨o, 0, none⟩)] 82)).heap.size = w.heap.size + 1 := by simp
  generalize World.alloc _ _ = w0 at hb0 hk0 h0 ho0 hsz ⊢
  have hkd := hk0.drew
  have hd : Chg Non w0 w0.drew := (Chg.refl Non w0).drew
  have h0 := h0.c0 hd
  have t0 : w0.drew.cell? ⟨w.heap.size, 0, none⟩ = some (.pointer (some ⟨o, 0, none⟩)) := hb0.cell 0
  have t0' : w0.cell? ⟨w.heap.size, 0, none⟩ = some (.pointer (some ⟨o, 0, none⟩)) := t0
  have htg : ¬ (w.heap.size = g) := by omega
  obtain ⟨er, hgl, hn0⟩ := h0
  have hn1 := hn0 w0.drew (Chg.refl _ _)
  have HC := hide (hn1)
  go_upto_region 2 with fail
  go_region_law (first
    | (go_simp; go_at_call 36; refine HC.out.mono ?_; rintro e w1 ⟨rfl, hRd, hc1⟩; have t0 := hc1.cell t0 htg; have ho1 := (ho0.c0 hd).chg hc1 hog; have o1 := ho1.cell 10; have f1 := ho1.frozen 10; have hcv := run_str (RdB.nil_ w1 Non)))
  all_goals
    have HX := hide (stored1 ho1 10 (.string ⟨#[]⟩))
    (try simp only [List.getElem_toArray, List.getElem_cons_zero, List.getElem_cons_succ, Act.put, List.setIfInBounds_toArray, List.set_cons_zero, List.set_cons_succ])
    simp only [List.getElem?_toArray, List.getElem?_cons_succ, List.getElem?_cons_zero] at o1
    go_wp2_with fail
    obtain ⟨hbo, hco⟩ := HX.out
    simp only [List.setIfInBounds_toArray, List.set_cons_succ, List.set_cons_zero] at hbo
    exact bodyPost_end (results_none rfl _ _ _) rfl (fieldEndB hkd hc1 hRd hco hbo hog)

set_option maxHeartbeats 8000000 in
set_option maxRecDepth 100000 in
theorem recFieldIB {w : World} {g o : Nat}  (h : RdBad w g) (hbx : RecBox w o) (hog : o ≠ g)  :
    Calls Try.prog 37 #[.pointer (some ⟨g, 0, none⟩), .pointer (some ⟨o, 0, none⟩), .int .i32 73] w fun e w' => e = .returned (.tuple #[]) ∧ ∃ er, RecBox w' o ∧ RdErr w' g er ∧ Chg (fun k => k = g ∨ k = o) w w' := by
  obtain ⟨c0, c1, c2, c3, c4, c5, c6, c7, c8, c9, c10, ho⟩ := hbx
  have hg : g < w.heap.size := by obtain ⟨er, h1, _⟩ := h; exact h1
  have hol := ho.lt
  have hb0 := Blk.new w 82 #[.pointer (some ⟨o, 0, none⟩)]
  have hk0 := (Chg.refl Non w).alloc (.cells #[.pointer (some ⟨o, 0, none⟩)] 82)
  have h0 := h.c0 hk0
  have ho0 := ho.c0 hk0
  clear h ho
  go_enter Try.func37, Try.ntmps37
  go_upto_region 1 with fail
  have hsz : (w.alloc (.cells #[.pointer (some ⟨o, 0, none⟩)] 82)).heap.size = w.heap.size + 1 := by simp
  generalize World.alloc _ _ = w0 at hb0 hk0 h0 ho0 hsz ⊢
  have hkd := hk0.drew
  have hd : Chg Non w0 w0.drew := (Chg.refl Non w0).drew
  have h0 := h0.c0 hd
  have t0 : w0.drew.cell? ⟨w.heap.size, 0, none⟩ = some (.pointer (some ⟨o, 0, none⟩)) := hb0.cell 0
  have t0' : w0.cell? ⟨w.heap.size, 0, none⟩ = some (.pointer (some ⟨o, 0, none⟩)) := t0
  have htg : ¬ (w.heap.size = g) := by omega
  have hs := recSomeB (n := 1) h0 (by omega)
  rw [show ((1 : Nat) : Int) = 1 from rfl, made1] at hs
  have HC := hide (hs)
  go_upto_region 21 with fail
  go_region_law (first
    | (go_simp; go_at_call 52; refine HC.out.mono ?_; rintro e w1 ⟨q, er, rfl, hq, hB, hRd, hc1⟩; have t0 := hc1.cell t0 htg; have ho1 := (ho0.c0 hd).chg hc1 hog; have o1 := ho1.cell 9; have f1 := ho1.frozen 9; have q0 : w1.cell? ⟨q, 0, none⟩ = some (.int .u64 0) := hB.cell 0))
  all_goals
    have HX := hide (stored1 ho1 9 (.int .u64 0))
    (try simp only [List.getElem_toArray, List.getElem_cons_zero, List.getElem_cons_succ, Act.put, List.setIfInBounds_toArray, List.set_cons_zero, List.set_cons_succ])
    simp only [List.getElem?_toArray, List.getElem?_cons_succ, List.getElem?_cons_zero] at o1
    go_wp2_with fail
    obtain ⟨hbo, hco⟩ := HX.out
    simp only [List.setIfInBounds_toArray, List.set_cons_succ, List.set_cons_zero] at hbo
    exact bodyPost_end (results_none rfl _ _ _) rfl (fieldEndB hkd hc1 hRd hco hbo hog)

set_option maxHeartbeats 8000000 in
set_option maxRecDepth 100000 in
theorem recFieldWB {w : World} {g o : Nat}  (h : RdBad w g) (hbx : RecBox w o) (hog : o ≠ g)  :
    Calls Try.prog 37 #[.pointer (some ⟨g, 0, none⟩), .pointer (some ⟨o, 0, none⟩), .int .i32 87] w fun e w' => e = .returned (.tuple #[]) ∧ ∃ er, RecBox w' o ∧ RdErr w' g er ∧ Chg (fun k => k = g ∨ k = o) w w' := by
  obtain ⟨c0, c1, c2, c3, c4, c5, c6, c7, c8, c9, c10, ho⟩ := hbx
  have hg : g < w.heap.size := by obtain ⟨er, h1, _⟩ := h; exact h1
  have hol := ho.lt
  have hb0 := Blk.new w 82 #[.pointer (some ⟨o, 0, none⟩)]
  have hk0 := (Chg.refl Non w).alloc (.cells #[.pointer (some ⟨o, 0, none⟩)] 82)
  have h0 := h.c0 hk0
  have ho0 := ho.c0 hk0
  clear h ho
  go_enter Try.func37, Try.ntmps37
  go_upto_region 1 with fail
  have hsz : (w.alloc (.cells #[.pointer (some ⟨o, 0, none⟩)] 82)).heap.size = w.heap.size + 1 := by simp
  generalize World.alloc _ _ = w0 at hb0 hk0 h0 ho0 hsz ⊢
  have ht := recTriB (fv := .func (.func 54) #[] #[.pointer (some ⟨w.heap.size, 0, none⟩)]) h0
  have hmf' := hmf
  go_wp2_with fail
  refine ht.mono ?_
  rintro e w1 ⟨er, rfl, hRd, hc1⟩
  go_wp2_with fail
  exact bodyPost_end (results_none rfl _ _ _) rfl (fieldEndB hk0 hc1 hRd (Chg.refl _ _) (ho0.chg hc1 hog) hog)

set_option maxHeartbeats 8000000 in
set_option maxRecDepth 100000 in
theorem recFieldRB {w : World} {g o : Nat}  (h : RdBad w g) (hbx : RecBox w o) (hog : o ≠ g)  :
    Calls Try.prog 37 #[.pointer (some ⟨g, 0, none⟩), .pointer (some ⟨o, 0, none⟩), .int .i32 82] w fun e w' => e = .returned (.tuple #[]) ∧ ∃ er, RecBox w' o ∧ RdErr w' g er ∧ Chg (fun k => k = g ∨ k = o) w w' := by
  obtain ⟨c0, c1, c2, c3, c4, c5, c6, c7, c8, c9, c10, ho⟩ := hbx
  have hg : g < w.heap.size := by obtain ⟨er, h1, _⟩ := h; exact h1
  have hol := ho.lt
  have hb0 := Blk.new w 82 #[.pointer (some ⟨o, 0, none⟩)]
  have hk0 := (Chg.refl Non w).alloc (.cells #[.pointer (some ⟨o, 0, none⟩)] 82)
  have h0 := h.c0 hk0
  have ho0 := ho.c0 hk0
  clear h ho
  go_enter Try.func37, Try.ntmps37
  go_upto_region 1 with fail
  have hsz : (w.alloc (.cells #[.pointer (some ⟨o, 0, none⟩)] 82)).heap.size = w.heap.size + 1 := by simp
  generalize World.alloc _ _ = w0 at hb0 hk0 h0 ho0 hsz ⊢
  have ht := recTriB (fv := .func (.func 55) #[] #[.pointer (some ⟨w.heap.size, 0, none⟩)]) h0
  have hmf' := hmf
  go_wp2_with fail
  refine ht.mono ?_
  rintro e w1 ⟨er, rfl, hRd, hc1⟩
  go_wp2_with fail
  exact bodyPost_end (results_none rfl _ _ _) rfl (fieldEndB hk0 hc1 hRd (Chg.refl _ _) (ho0.chg hc1 hog) hog)

set_option maxHeartbeats 8000000 in
set_option maxRecDepth 100000 in
theorem recFieldSB {w : World} {g o : Nat}  (h : RdBad w g) (hbx : RecBox w o) (hog : o ≠ g)  :
    Calls Try.prog 37 #[.pointer (some ⟨g, 0, none⟩), .pointer (some ⟨o, 0, none⟩), .int .i32 83] w fun e w' => e = .returned (.tuple #[]) ∧ ∃ er, RecBox w' o ∧ RdErr w' g er ∧ Chg (fun k => k = g ∨ k = o) w w' := by
  obtain ⟨c0, c1, c2, c3, c4, c5, c6, c7, c8, c9, c10, ho⟩ := hbx
  have hg : g < w.heap.size := by obtain ⟨er, h1, _⟩ := h; exact h1
  have hol := ho.lt
  have hb0 := Blk.new w 82 #[.pointer (some ⟨o, 0, none⟩)]
  have hk0 := (Chg.refl Non w).alloc (.cells #[.pointer (some ⟨o, 0, none⟩)] 82)
  have h0 := h.c0 hk0
  have ho0 := ho.c0 hk0
  clear h ho
  go_enter Try.func37, Try.ntmps37
  go_upto_region 1 with fail
  have hsz : (w.alloc (.cells #[.pointer (some ⟨o, 0, none⟩)] 82)).heap.size = w.heap.size + 1 := by simp
  generalize World.alloc _ _ = w0 at hb0 hk0 h0 ho0 hsz ⊢
  have ht := recAllB h0
  go_wp2_with fail
  refine ht.mono ?_
  rintro e w1 ⟨er, rfl, hRd, hc1⟩
  go_wp2_with fail
  refine wp_loop_rounds 1 ?_
  rw [rounds_succ]
  go_wp2_with fail
  exact bodyPost_end (results_none rfl _ _ _) rfl (fieldEndB hk0 hc1 hRd (Chg.refl _ _) (ho0.chg hc1 hog) hog)
end Go.Proofs.Ytpbgjldjipgfeaa

namespace Go.Proofs.Ytpbgjldjipgfeaa
open Go.RowKit
set_option linter.unusedVariables false

/-- a record of the call's own -/
structure RecOwn (w : World) (base : Nat) (x : RcS) (a b c d : Value) (xs ys : List (Value × Value)) : Prop where
  wl : xs.length = x.ws.length
  rl : ys.length = x.rs.length
  ws : w.ownsRow base 49 3 a x.ws.length (flW xs x.ws)
  rs : w.ownsRow base 63 3 b x.rs.length (flW ys x.rs)
  sh : w.ownsRow base 3 1 c x.shards.length (x.shards.map fun n => .int .i64 n)
  ps : OwnPs w base (pcW xs x.ws ++ pcW ys x.rs ++ [(d, x.reply)])
theorem rdW_of {w : World} {base : Nat} {ty : TypeId} {v : Value} {l : List WrS} {xs : List (Value × Value)} (hl : xs.length = l.length) (h : w.ownsRow base ty 3 v l.length (flW xs l)) (hp : ∀ p ∈ pcW xs l, OwnB w base p.1 p.2) : RdW w (fun k => base ≤ k) v l := by
  refine ⟨xs, hl, (RdV.of_own h).mono fun k hk => (World.ownsRow.lt h k hk).1, fun i x y hx hy => ?_⟩
  have hi := (List.getElem?_eq_some_iff.1 hx).1
  have hz : (xs.zip l)[i]? = some (x, y) := by
    rw [List.getElem?_zip_eq_some]; exact ⟨hx, hy⟩
  have hm : (x, y) ∈ xs.zip l := List.mem_of_getElem? hz
  have h1 : (x.1, y.a) ∈ pcW xs l := List.mem_flatMap.2 ⟨(x, y), hm, by simp⟩
  have h2 : (x.2, y.b) ∈ pcW xs l := List.mem_flatMap.2 ⟨(x, y), hm, by simp⟩
  exact ⟨(hp _ h1).rd.mono fun k hk => ((hp _ h1).lt k hk).1, (hp _ h2).rd.mono fun k hk => ((hp _ h2).lt k hk).1⟩
theorem RecOwn.rd {w : World} {base : Nat} {x : RcS} {a b c d : Value} {xs ys : List (Value × Value)} (h : RecOwn w base x a b c d xs ys) (hu : U64 x.boot ∧ U64 x.sess ∧ U64 x.seq ∧ U64 x.id) (hk : (Lit.int .i64 x.kind).wf = true) : RecR w (fun k => base ≤ k) x a b c d := by
  obtain ⟨h1, h2, h3, h4, h5, h6⟩ := h
  refine ⟨rdW_of h1 h3 fun p hp => h6.1 p (by simp [hp]), rdW_of h2 h4 fun p hp => h6.1 p (by simp [hp]), ?_, ?_, hu.1, hu.2.1, hu.2.2.1, hu.2.2.2, hk⟩
  · have := RdV.of_own h5
    unfold RdI
    exact this.mono fun k hk => (World.ownsRow.lt h5 k hk).1
  · have h7 := h6.1 (d, x.reply) (by simp)
    exact h7.rd.mono fun k hk => (h7.lt k hk).1
/-- what a record must be: its numbers fit -/
structure RcWf (x : RcS) : Prop where
  u : U64 x.boot ∧ U64 x.sess ∧ U64 x.seq ∧ U64 x.id
  sh : ∀ s ∈ x.shards, -9223372036854775808 ≤ s ∧ s ≤ 9223372036854775807
theorem row_iterAt {w : World} {base sz n : Nat} {e : TypeId} {v : Value} {xs : List Value} {g : Nat} {s : ByteArray} {pos : Nat} (h : w.ownsRow base e sz v n xs) (hk : w.heap[g]? = some (.stringIter s pos)) (pos' : Nat) : (w.iterAt g s pos').ownsRow base e sz v n xs := by
  refine ⟨h.1, ?_⟩
  rcases h.2 with hn | ⟨g', cap, cur, rfl, hb, hg, rest⟩
  · exact .inl hn
  · refine .inr ⟨g', cap, cur, rfl, hb, ?_, rest⟩
    rw [Lib.iterAt_other _ _ _ _ _ (fun e => by subst e; rw [hk] at hg; cases hg)]
    exact hg
theorem OwnPs.iterAt {w : World} {base : Nat} {ps : List (Value × List UInt8)} {g : Nat} {s : ByteArray} {pos : Nat} (h : OwnPs w base ps) (hk : w.heap[g]? = some (.stringIter s pos)) (pos' : Nat) : OwnPs (w.iterAt g s pos') base ps :=
  ⟨fun p hp => row_iterAt (h.1 p hp) hk pos', h.2⟩
theorem Blk.iterAt {w : World} {b : Nat} {t : TypeId} {cs : Array Value} {g : Nat} {s : ByteArray} {pos : Nat} (h : Blk w b t cs) (hk : w.heap[g]? = some (.stringIter s pos)) (pos' : Nat) : Blk (w.iterAt g s pos') b t cs := by
  unfold Blk at h ⊢
  rw [Lib.iterAt_other _ _ _ _ _ (fun e => by subst e; rw [hk] at h; cases h)]
  exact h
theorem RdV.iterAt {w : World} {F : Nat → Prop} {sz n : Nat} {v : Value} {xs : List Value} {g : Nat} {s : ByteArray} {pos : Nat} (h : RdV w F sz v n xs) (hk : w.heap[g]? = some (.stringIter s pos)) (pos' : Nat) : RdV (w.iterAt g s pos') F sz v n xs := by
  obtain ⟨h1, A, c, hv, hc, hm, h2⟩ := h
  refine ⟨h1, A, c, hv, hc, hm, fun hn => ?_⟩
  obtain ⟨ad, e, hf, hcell⟩ := h2 hn
  exact ⟨ad, e, hf, fun j u hu => cell_iterAt hk (hcell j u hu)⟩
theorem RdOk.iterAt {w : World} {F : Nat → Prop} {g : Nat} {vs : List Value} {k : Nat} {s : ByteArray} {pos : Nat} (h : RdOk w F g vs) (hk : w.heap[k]? = some (.stringIter s pos)) (pos' : Nat) : RdOk (w.iterAt k s pos') F g vs := by
  obtain ⟨v, h1, h2, h3⟩ := h
  exact ⟨v, h1.iterAt hk pos', h2.iterAt hk pos', h3⟩
theorem readStart {w2 w3 : World} {g n m : Nat} {U : Option Addr} {parts : List (List UInt8)} (hO : OwnsBB w3 w2.heap.size (.slice U n m) parts) (hn : n = parts.length) (hb : Blk w3 g 78 #[.slice none 0 0, .int .i64 0]) (hszg : w2.heap.size = g + 1) :
    ∃ vs0 : List Value, vs0.length = parts.length ∧ RdOk ((w3.setCell ⟨g, 0, none⟩ (.slice U n m)).setCell ⟨g, 1, none⟩ (.int .i64 0)) (fun b => g < b ∧ b < w3.heap.size) g vs0 ∧
      OwnPs ((w3.setCell ⟨g, 0, none⟩ (.slice U n m)).setCell ⟨g, 1, none⟩ (.int .i64 0)) (g + 1) (vs0.zip parts) ∧ (∀ p ∈ vs0.zip parts, ∀ k, p.1.ownBlock = some k → k < w3.heap.size) ∧
      Chg (fun k => k = g) w3 ((w3.setCell ⟨g, 0, none⟩ (.slice U n m)).setCell ⟨g, 1, none⟩ (.int .i64 0)) := by
  subst hn
  obtain ⟨vs0, h1, h2, h3⟩ := hO.psOf
  rw [hszg] at h3
  have hB := (hb.set_ 0 (.slice U parts.length m)).set_ 1 (.int .i64 0)
  simp only [List.setIfInBounds_toArray, List.set_cons_succ, List.set_cons_zero] at hB
  have hc : Chg (fun k => k = g) w3 ((w3.setCell ⟨g, 0, none⟩ (.slice U parts.length m)).setCell ⟨g, 1, none⟩ (.int .i64 0)) := ((Chg.refl (fun k => k = g) w3).setCell (p := ⟨g, 0, none⟩) (fun _ => rfl) _).setCell (p := ⟨g, 1, none⟩) (fun _ => rfl) _
  refine ⟨vs0, h1, ⟨_, hB, ?_, fun h => Nat.lt_irrefl _ h.1⟩, h3.chg hc fun k hk _ e => by omega, h3.lt, hc⟩
  rw [h1]
  refine ((RdV.of_own h2).mono (F' := fun b => g < b ∧ b < w3.heap.size) fun k hk => ?_).chg hc fun k (hk : g < k ∧ k < w3.heap.size) (e : k = g) => by omega
  have := World.ownsRow.lt h2 k hk
  omega
theorem OwnPs.one {w : World} {base : Nat} {v : Value} {l : List UInt8} (h : OwnB w base v l) : OwnPs w base [(v, l)] := ⟨fun p hp => by simp at hp; subst hp; exact h, List.pairwise_singleton _ _⟩
theorem ret_rec {a b : Array Value} (h : a = b) : Ending.returned (.tuple #[.agg a, .int .i64 0]) = .returned (.tuple #[.agg b, .int .i64 0]) := by rw [h]
theorem fits_rec {x : RcS} (hs : RcSm x) : Fits ([kiB x.kind] :: fldR x) := by
  have a1 := txB_len x
  have a2 := triB_len x.ws
  have a3 := triB_len x.rs
  have a4 := flB_len x.commit
  have a5 := shB_len x.shards
  have a6 := numB_length x.id
  have a7 : (nmB x.name).length = x.name.size := Array.length_toList
  obtain ⟨h1, h2, h3, h4, h5, h6, h7⟩ := hs
  have hlen : (fldR x).length ≤ 4 := by
    unfold fldR
    split
    · simp
    split
    · simp
    split
    · simp
    split
    · simp
    split
    · simp
    · simp
  have hmem : ∀ l ∈ fldR x, l.length ≤ 100000000 := by
    intro l hl
    unfold fldR at hl
    split at hl
    · simp at hl; rcases hl with rfl | rfl | rfl <;> omega
    split at hl
    · simp at hl; subst hl; omega
    split at hl
    · simp at hl; rcases hl with rfl | rfl | rfl <;> omega
    split at hl
    · simp at hl; rcases hl with rfl | rfl <;> omega
    split at hl
    · simp at hl; rcases hl with rfl | rfl | rfl | rfl <;> omega
    · simp at hl
  refine ⟨by simp only [List.length_cons]; omega, fun l hl => ?_⟩
  rcases List.mem_cons.1 hl with rfl | hl
  · simp
  · have := hmem l hl; omega
end Go.Proofs.Ytpbgjldjipgfeaa
