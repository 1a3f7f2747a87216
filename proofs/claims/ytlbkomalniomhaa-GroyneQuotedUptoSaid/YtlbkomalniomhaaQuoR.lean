/- The walk of groyneref02.Quote. -/
import Derived.Test.YtlbkomalniomhaaQuo
namespace Go.Proofs.Ytlbkomalniomhaa
open Go.RowKit

theorem refDigit {n : Nat} {w : World} (hn : n < 16) :
    Calls Try.prog 18 #[.int .u8 (n : Int)] w fun e w' => e = .returned (.int .u8 ((hexD n).toNat : Int)) ∧ w' = w := by
  by_cases h : n < 10
  · have HH := hide (show ((hexD n).toNat : Int) = 48 + (n : Int) by rw [hexD, if_pos h, UInt8.toNat_ofNat']; omega)
    have hd : decide ((n : Int) < 10) = true := decide_eq_true (by omega)
    go_enter Try.func18, Try.ntmps18
    go_wp2_with fail
    go_ret
    refine ⟨ret_int ?_, rfl⟩
    rw [HH.out]; first | done | omega
  · have HH := hide (show ((hexD n).toNat : Int) = 87 + (n : Int) by rw [hexD, if_neg h, UInt8.toNat_ofNat']; omega)
    have hd : decide ((n : Int) < 10) = false := decide_eq_false (by omega)
    go_enter Try.func18, Try.ntmps18
    go_wp2_with fail
    go_ret
    refine ⟨ret_int ?_, rfl⟩
    rw [HH.out]; first | done | omega

set_option maxRecDepth 100000 in
set_option maxHeartbeats 2000000 in
theorem refQuote {u : Value} {b : List UInt8} {F : Nat → Prop} {w : World} (hr : RdB w F u b) (hbl : b.length ≤ 1000000000) :
    Calls Try.prog 7 #[u] w fun e w' => e = .returned (.string ⟨(quoB b).toArray⟩) ∧ Chg Non w w' := by
  have hr0 := hr.lt
  obtain ⟨A, c, rfl, hcc, hcm⟩ := hr.shape
  unfold maxLen at hcm
  have c1 := (Chg.refl Non w).alloc (.cells #[.int .u8 34] 5)
  have hr1 := hr0.c0 c1
  have ho1 : OwnB (w.alloc (.cells #[.int .u8 34] 5)) w.heap.size (.slice (some ⟨w.heap.size, 0, none⟩) 1 1) [34] := own_one w 34 34 rfl
  clear hr hr0
  go_enter Try.func7, Try.ntmps7
  go_wp2_with fail
  go_loopw [3, 4] (fun ov iv wr => ∃ (k : Nat), iv = .int .i64 (k : Int) ∧ k ≤ b.length ∧ OwnB wr w.heap.size ov ([34] ++ (b.take k).flatMap qB) ∧ RdB wr (fun k => F k ∧ k < w.heap.size) (.slice A b.length c) b ∧ Chg Non w wr) (fun _ iv _ => b.length - (intOf iv).toNat)
  case atStart => exact ⟨0, rfl, Nat.zero_le _, by simpa using ho1, hr1, c1⟩
  case round =>
    clear ho1 c1 hr1
    obtain ⟨k, rfl, hk, hO, hr, hcw⟩ := hrel
    obtain ⟨oA, on_, oc, rfl⟩ := OwnB.slc hO
    by_cases h1 : k < b.length
    · obtain ⟨ad, rfl, hadF, hcell⟩ := hr.at_ h1
      have hft := flat_take b k h1
      have hfl := flat_len (b.take k)
      have htl : (b.take k).length = k := by rw [List.length_take]; omega
      rw [htl] at hfl
      obtain ⟨y, hy⟩ : ∃ y, y = b[k] := ⟨_, rfl⟩
      rw [← hy] at hcell hft
      obtain ⟨cur, hcur⟩ : ∃ cur, cur = [34] ++ (b.take k).flatMap qB := ⟨_, rfl⟩
      have hcl : cur.length ≤ 4 * b.length + 1 := by
        have h1 : ([34] : List UInt8).length = 1 := rfl
        rw [hcur, List.length_append, h1]; omega
      have HN := hide (show [34] ++ (b.take (k + 1)).flatMap qB = cur ++ qB y by rw [hft, hcur, List.append_assoc])
      rw [← hcur] at hO
      have hyl := y.toNat_lt
      have hki : (k : Int) < (b.length : Int) := by omega
      have hk0 : (0 : Int) ≤ (k : Int) := by omega
      clear hy hft hfl hcur htl
      by_cases h2 : y = 34 ∨ y = 92
      · rcases h2 with rfl | rfl
        · have HQ := hide (qB_esc (c := 34) (by decide))
          have hlit := RdB.lit wr 5 (0, 0) #[.int .u8 92, .int .u8 34] [92, 34] 2 rfl rfl (by simp [maxLen])
          have hOA := hO.al (.cells #[.int .u8 92, .int .u8 34] 5)
          have hrA := hr.al (.cells #[.int .u8 92, .int .u8 34] 5)
          have cA := hcw.alloc (.cells #[.int .u8 92, .int .u8 34] 5)
          change wr.cell? (ad.add k) = some (.int .u8 34) at hcell
          have hlen : cur.length + ([92, 34] : List UInt8).length ≤ 140737488355328 := by simp; omega
          have hsz := cA.size
          clear hO hr hcw hyl
          go_wp2_with (at_builtin; refine append_B rfl _ _ rfl hOA rfl hlit rfl hlen hsz ?_; intro v5 w5 hO5 hg5 hat5)
          have hr5 := hrA.chg (Chg.of_grown hg5) fun j hj e => by have := (hOA.lt j e.symm).1; have := hj.2; omega
          have c5 := cA.own hg5 fun j hj => (hOA.lt j hj).1
          rw [← HQ.out, ← HN.out] at hO5
          go_round
          case rel => exact ⟨k + 1, by go_num, by omega, hO5, hr5, c5⟩
          case measure => simp [intOf]; omega
        · have HQ := hide (qB_esc (c := 92) (by decide))
          have hlit := RdB.lit wr 5 (0, 0) #[.int .u8 92, .int .u8 92] [92, 92] 2 rfl rfl (by simp [maxLen])
          have hOA := hO.al (.cells #[.int .u8 92, .int .u8 92] 5)
          have hrA := hr.al (.cells #[.int .u8 92, .int .u8 92] 5)
          have cA := hcw.alloc (.cells #[.int .u8 92, .int .u8 92] 5)
          change wr.cell? (ad.add k) = some (.int .u8 92) at hcell
          have hlen : cur.length + ([92, 92] : List UInt8).length ≤ 140737488355328 := by simp; omega
          have hsz := cA.size
          clear hO hr hcw hyl
          go_wp2_with (at_builtin; refine append_B rfl _ _ rfl hOA rfl hlit rfl hlen hsz ?_; intro v5 w5 hO5 hg5 hat5)
          have hr5 := hrA.chg (Chg.of_grown hg5) fun j hj e => by have := (hOA.lt j e.symm).1; have := hj.2; omega
          have c5 := cA.own hg5 fun j hj => (hOA.lt j hj).1
          rw [← HQ.out, ← HN.out] at hO5
          go_round
          case rel => exact ⟨k + 1, by go_num, by omega, hO5, hr5, c5⟩
          case measure => simp [intOf]; omega
      · have h34 : ¬ y.toNat = 34 := fun h => h2 (.inl ((u8_nat (n := 34) (by omega)).2 h))
        have h92 : ¬ y.toNat = 92 := fun h => h2 (.inr ((u8_nat (n := 92) (by omega)).2 h))
        have b34 : ((y.toNat : Int) == 34) = false := beq_eq_false_iff_ne.2 (by omega)
        have b92 : ((y.toNat : Int) == 92) = false := beq_eq_false_iff_ne.2 (by omega)
        by_cases h3 : 32 ≤ y.toNat ∧ y.toNat ≤ 126
        · have HQ := hide (qB_plain h2 h3)
          have h31 : 32 ≤ y.toNat := h3.1
          have h32 : y.toNat < 127 := by omega
          have d1 : decide ((32 : Int) ≤ (y.toNat : Int)) = true := decide_eq_true (by omega)
          have d2 : decide ((y.toNat : Int) < 127) = true := decide_eq_true (by omega)
          have hlit := RdB.lit wr 5 (0, 0) #[.int .u8 (y.toNat : Int)] [y] 1 rfl rfl (by simp [maxLen])
          have hOA := hO.al (.cells #[.int .u8 (y.toNat : Int)] 5)
          have hrA := hr.al (.cells #[.int .u8 (y.toNat : Int)] 5)
          have cA := hcw.alloc (.cells #[.int .u8 (y.toNat : Int)] 5)
          have hlen : cur.length + ([y] : List UInt8).length ≤ 140737488355328 := by simp; omega
          have hsz := cA.size
          clear hO hr hcw h2 h3
          go_wp2_with (at_builtin; refine append_B rfl _ _ rfl hOA rfl hlit rfl hlen hsz ?_; intro v5 w5 hO5 hg5 hat5)
          have hr5 := hrA.chg (Chg.of_grown hg5) fun j hj e => by have := (hOA.lt j e.symm).1; have := hj.2; omega
          have c5 := cA.own hg5 fun j hj => (hOA.lt j hj).1
          rw [← HQ.out, ← HN.out] at hO5
          go_round
          case rel => exact ⟨k + 1, by go_num, by omega, hO5, hr5, c5⟩
          case measure => simp [intOf]; omega
        · have HQ := hide (qB_hex h2 h3)
          have hdd : (y.toNat < 32) ∨ (¬ y.toNat < 32 ∧ 126 < y.toNat) := by omega
          obtain ⟨q, hq⟩ : ∃ q, q = y.toNat / 16 := ⟨_, rfl⟩
          obtain ⟨m, hm⟩ : ∃ m, m = y.toNat % 16 := ⟨_, rfl⟩
          have hqi : (y.toNat : Int) / 16 = (q : Int) := by omega
          have hmi : (y.toNat : Int) % 16 = (m : Int) := by omega
          have hqt : Int.tdiv (y.toNat : Int) 16 = (q : Int) := by rw [Int.tdiv_eq_ediv_of_nonneg (by omega)]; exact hqi
          have hmt : Int.tmod (y.toNat : Int) 16 = (m : Int) := by rw [Int.tmod_eq_emod_of_nonneg (by omega)]; exact hmi
          have hq16 : q < 16 := by omega
          have hm16 : m < 16 := by omega
          rw [← hq, ← hm] at HQ
          have hcq := fun (w' : World) => refDigit (n := q) (w := w') hq16
          have hcm := fun (w' : World) => refDigit (n := m) (w := w') hm16
          obtain ⟨x1, hx1⟩ : ∃ x, x = hexD q := ⟨_, rfl⟩
          obtain ⟨x2, hx2⟩ : ∃ x, x = hexD m := ⟨_, rfl⟩
          rw [← hx1, ← hx2] at HQ
          simp only [← hx1] at hcq
          simp only [← hx2] at hcm
          have hlit := RdB.lit wr 5 (0, 0) #[.int .u8 92, .int .u8 120, .int .u8 (x1.toNat : Int), .int .u8 (x2.toNat : Int)] [92, 120, x1, x2] 4 rfl rfl (by simp [maxLen])
          have hOA := hO.al (.cells #[.int .u8 92, .int .u8 120, .int .u8 (x1.toNat : Int), .int .u8 (x2.toNat : Int)] 5)
          have hrA := hr.al (.cells #[.int .u8 92, .int .u8 120, .int .u8 (x1.toNat : Int), .int .u8 (x2.toNat : Int)] 5)
          have cA := hcw.alloc (.cells #[.int .u8 92, .int .u8 120, .int .u8 (x1.toNat : Int), .int .u8 (x2.toNat : Int)] 5)
          have hlen : cur.length + ([92, 120, x1, x2] : List UInt8).length ≤ 140737488355328 := by simp; omega
          have hsz := cA.size
          clear hO hr hcw h2 h3 hq hm hx1 hx2
          rcases hdd with h5 | ⟨h5, h6⟩
          case' inl =>
            have d1 : decide ((32 : Int) ≤ (y.toNat : Int)) = false := decide_eq_false (by omega)
            have d1n : ¬ 32 ≤ y.toNat := by omega
          case' inr =>
            have d1 : decide ((32 : Int) ≤ (y.toNat : Int)) = true := decide_eq_true (by omega)
            have d1n : 32 ≤ y.toNat := by omega
            have d2 : decide ((y.toNat : Int) < 127) = false := decide_eq_false (by omega)
            have d2n : ¬ y.toNat < 127 := by omega
          all_goals
            go_wp2_with fail
            refine (hcq _).mono ?_
            rintro e w3 ⟨rfl, rfl⟩
            go_wp2_with fail
            refine (hcm _).mono ?_
            rintro e w3 ⟨rfl, rfl⟩
            go_wp2_with (at_builtin; refine append_B rfl _ _ rfl hOA rfl hlit rfl hlen hsz ?_; intro v5 w5 hO5 hg5 hat5)
            have hr5 := hrA.chg (Chg.of_grown hg5) fun j hj e => by have := (hOA.lt j e.symm).1; have := hj.2; omega
            have c5 := cA.own hg5 fun j hj => (hOA.lt j hj).1
            rw [← HQ.out, ← HN.out] at hO5
            go_round
            case rel => exact ⟨k + 1, by go_num, by omega, hO5, hr5, c5⟩
            case measure => simp [intOf]; omega
    · obtain rfl : k = b.length := by omega
      rw [List.take_length] at hO
      have hfl := flat_len b
      have hlit := RdB.lit wr 5 (0, 0) #[.int .u8 34] [34] 1 rfl rfl (by simp [maxLen])
      have hOA := hO.al (.cells #[.int .u8 34] 5)
      have cA := hcw.alloc (.cells #[.int .u8 34] 5)
      have hlen : ([34] ++ b.flatMap qB).length + ([34] : List UInt8).length ≤ 140737488355328 := by
        have h1 : ([34] : List UInt8).length = 1 := rfl
        rw [List.length_append, h1]; omega
      have hsz := cA.size
      clear hfl hO hr hcw
      go_wp2_with (at_builtin; refine append_B rfl _ _ rfl hOA rfl hlit rfl hlen hsz ?_; intro v5 w5 hO5 hg5 hat5; have hst := run_str hO5.rd)
      go_ret
      exact ⟨rfl, cA.own hg5 fun j hj => (hOA.lt j hj).1⟩
end Go.Proofs.Ytlbkomalniomhaa
