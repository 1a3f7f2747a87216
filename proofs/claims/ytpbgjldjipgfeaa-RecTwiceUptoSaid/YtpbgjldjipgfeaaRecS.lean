/- The walks of rec's reader where an error stands, or nothing is left. -/
import Derived.Test.YtpbgjldjipgfeaaRecR
namespace Go.Proofs.Ytpbgjldjipgfeaa
open Go.RowKit
set_option linter.unusedVariables false

/-- what comes next is nothing, and an error stands behind it -/
def RdBad (w : World) (g : Nat) : Prop := ∃ er, g < w.heap.size ∧ ∀ w', Chg Non w w' → Calls Try.prog 36 #[.pointer (some ⟨g, 0, none⟩)] w' fun e w'' => e = .returned (.slice none 0 0) ∧ RdErr w'' g er ∧ Chg (fun k => k = g) w' w''
theorem RdErr.bad {w : World} {g : Nat} {er : Int} (h : RdErr w g er) : RdBad w g := ⟨er, h.blk, fun w' hc => (recNextE (h.c0 hc)).mono fun e w'' ⟨h1, h2⟩ => ⟨h1, by rw [h2]; exact h.c0 hc, by rw [h2]; exact Chg.refl _ _⟩⟩
theorem RdOk.bad {w : World} {F : Nat → Prop} {g : Nat} (h : RdOk w F g []) : RdBad w g := ⟨3, h.blk, fun w' hc => recNextX (h.c0 hc)⟩
theorem RdBad.c0 {w w' : World} {g : Nat} (h : RdBad w g) (hc : Chg Non w w') : RdBad w' g := by
  obtain ⟨er, h0, h1⟩ := h
  exact ⟨er, Nat.lt_of_lt_of_le h0 hc.size, fun w'' hc' => h1 w'' (hc.trans0 hc')⟩

set_option maxHeartbeats 4000000 in
set_option maxRecDepth 100000 in
theorem recSomeB {w : World} {g : Nat} {n : Nat} (h : RdBad w g) (hn : n ≤ 1000) :
    Calls Try.prog 52 #[.pointer (some ⟨g, 0, none⟩), .int .i64 (n : Int)] w fun e w' => ∃ a er, e = .returned (.slice (some ⟨a, 0, none⟩) n n) ∧ w.heap.size ≤ a ∧ Blk w' a 22 (madeCells #[.int .u64 0] n) ∧ RdErr w' g er ∧ Chg (fun k => k = g) w w' := by
  have hmk := run_mk64 n hn
  obtain ⟨er, hg, hn1⟩ := h
  have HN := hide hn1
  clear hn1
  go_enter Try.func52, Try.ntmps52
  go_upto_region 1 with fail
  go_cut [5, 6, 7] from 13 (fun v5 v6 v7 wx => v5 = .slice none 0 0 ∧ v6 = .int .i64 0 ∧ ∃ a, v7 = .slice (some ⟨a, 0, none⟩) n n ∧ w.heap.size ≤ a ∧ Blk wx a 22 (madeCells #[.int .u64 0] n) ∧ RdErr wx g er ∧ Chg (fun k => k = g) w wx)
  case first =>
    go_region_law (first
      | (go_simp; go_at_call 36; refine (HN.out _ ((Chg.refl Non w).drew)).mono ?_; rintro e w1 ⟨rfl, hk1, hc1⟩)
      | (go_simp; go_at_call 36; refine (HN.out _ ((Chg.refl Non w).drew.alloc _)).mono ?_; rintro e w1 ⟨rfl, hk1, hc1⟩))
    · (try simp only [List.getElem_toArray, List.getElem_cons_zero, List.getElem_cons_succ, Act.put, List.setIfInBounds_toArray, List.set_cons_zero, List.set_cons_succ])
      have hB := Blk.new w1 22 (madeCells #[.int .u64 0] n)
      have hs' : w.heap.size ≤ w1.heap.size := hc1.size
      have hk2 := hk1.c0 ((Chg.refl Non w1).alloc (.cells (madeCells #[.int .u64 0] n) 22))
      have hc2 : Chg (fun k => k = g) w (w1.alloc (.cells (madeCells #[.int .u64 0] n) 22)) := ((Chg.refl (fun k => k = g) w).drew).trans (hc1.alloc _) fun _ _ h => h
      generalize World.alloc _ _ = w2 at hB hk2 hc2 ⊢
      go_wp2_with fail
      go_meet
      exact ⟨rfl, rfl, _, rfl, hs', hB, hk2, hc2⟩
    · (try simp only [List.getElem_toArray, List.getElem_cons_zero, List.getElem_cons_succ, Act.put, List.setIfInBounds_toArray, List.set_cons_zero, List.set_cons_succ])
      have hB := (Blk.new w.drew 22 (madeCells #[.int .u64 0] n)).chg hc1 (fun e => by have : w.drew.heap.size = w.heap.size := rfl; omega)
      have hc2 : Chg (fun k => k = g) w w1 := ((Chg.refl (fun k => k = g) w).drew.alloc _).trans hc1 fun _ _ h => h
      go_wp2_with fail
      go_meet
      exact ⟨rfl, rfl, _, rfl, Nat.le_refl _, hB, hk1, hc2⟩
  case rest =>
    obtain ⟨rfl, rfl, a, rfl, ha, hB, hE, hc⟩ := hcut
    have HE := hide hE
    obtain ⟨v, hb, he⟩ := hE
    clear HN hmk
    have e1 : (er == 0) = false := beq_eq_false_iff_ne.2 he
    go_wp2_with fail
    go_loopw [15] (fun iv wr => ∃ k, k ≤ n ∧ iv = .int .i64 (k : Int) ∧ wr = wc) (fun iv _ => n - (intOf iv).toNat)
    case atStart => exact ⟨0, Nat.zero_le _, rfl, rfl⟩
    case round =>
      obtain ⟨k, hk, rfl, rfl⟩ := hrel
      have c1 := hb.cell 1
      simp at c1
      by_cases h1 : k < n
      · clear hB hb
        go_wp2_with fail
        go_roundw
        case rel => exact ⟨k + 1, by omega, by go_num, trivial⟩
        case measure => simp [intOf]; omega
      · clear hb
        have HB := hide hB
        clear hB
        go_wp2_with fail
        go_ret
        exact ⟨a, er, rfl, ha, HB.out, HE.out, hc⟩
set_option maxHeartbeats 4000000 in
theorem recTruthB {w : World} {g : Nat} (h : RdBad w g) :
    Calls Try.prog 56 #[.pointer (some ⟨g, 0, none⟩)] w fun e w' => ∃ er, e = .returned (.bool false) ∧ RdErr w' g er ∧ Chg (fun k => k = g) w w' := by
  obtain ⟨er, hg, hn⟩ := h
  have hn := hn w (Chg.refl _ _)
  go_enter Try.func56, Try.ntmps56
  go_wp2_with fail
  refine hn.mono ?_
  rintro e w1 ⟨rfl, hE, hc⟩
  have HE := hide hE
  obtain ⟨v, hb, he⟩ := hE
  have c1 := hb.cell 1
  simp at c1
  have e1 : (er == 0) = false := beq_eq_false_iff_ne.2 he
  clear hb
  go_wp2_with fail
  go_ret
  exact ⟨er, rfl, HE.out, hc⟩
set_option maxHeartbeats 4000000 in
theorem recAllB {w : World} {g : Nat} (h : RdBad w g) :
    Calls Try.prog 57 #[.pointer (some ⟨g, 0, none⟩)] w fun e w' => ∃ er, e = .returned (.slice none 0 0) ∧ RdErr w' g er ∧ Chg (fun k => k = g) w w' := by
  obtain ⟨er, hg, hn⟩ := h
  have hn := hn w (Chg.refl _ _)
  go_enter Try.func57, Try.ntmps57
  go_wp2_with fail
  refine hn.mono ?_
  rintro e w1 ⟨rfl, hE, hc⟩
  have HE := hide hE
  obtain ⟨v, hb, he⟩ := hE
  have c1 := hb.cell 1
  simp at c1
  have e1 : (er == 0) = false := beq_eq_false_iff_ne.2 he
  clear hb
  go_wp2_with fail
  refine wp_loop_rounds 1 ?_
  rw [rounds_succ]
  go_wp2_with fail
  go_ret
  exact ⟨er, rfl, HE.out, hc⟩
set_option maxHeartbeats 4000000 in
theorem recTriB {w : World} {g : Nat} {fv : Value} (h : RdBad w g) :
    Calls Try.prog 53 #[.pointer (some ⟨g, 0, none⟩), fv] w fun e w' => ∃ er, e = .returned (.tuple #[]) ∧ RdErr w' g er ∧ Chg (fun k => k = g) w w' := by
  obtain ⟨er, hg, hn⟩ := h
  have hn := hn w (Chg.refl _ _)
  go_enter Try.func53, Try.ntmps53
  go_wp2_with fail
  refine hn.mono ?_
  rintro e w1 ⟨rfl, hE, hc⟩
  have HE := hide hE
  obtain ⟨v, hb, he⟩ := hE
  have c1 := hb.cell 1
  simp at c1
  have e1 : (er != 0) = true := by simp [he]
  clear hb
  go_wp2_with fail
  exact bodyPost_ret (results_none rfl _ _ _) rfl ⟨er, rfl, HE.out, hc⟩
end Go.Proofs.Ytpbgjldjipgfeaa
