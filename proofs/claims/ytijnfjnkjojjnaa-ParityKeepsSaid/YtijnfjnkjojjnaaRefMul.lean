/- The walk of groyneref03.Mul. -/
import Derived.Test.YtijnfjnkjojjnaaMul
namespace Go.Proofs.Ytijnfjnkjojjnaa
open Go.RowKit

theorem bit_of_div (n i : Nat) : (n / 2 ^ i) % 2 = if n.testBit i then 1 else 0 := by
  rw [Nat.testBit_eq_decide_div_mod_eq]
  rcases Nat.mod_two_eq_zero_or_one (n / 2 ^ i) with h | h <;> simp [h]
theorem and1_u8_t {n : Nat} (i : Nat) (h : n < 256) (ht : n.testBit i = true) : bits .and .u8 ((n : Int) / 2 ^ i) 1 = 1 := by
  have e : (n : Int) / 2 ^ i = ((n / 2 ^ i : Nat) : Int) := by simp
  have := u8_and_nat (n / 2 ^ i) 1 (Nat.lt_of_le_of_lt (Nat.div_le_self _ _) h) (by omega)
  rw [Nat.and_one_is_mod, bit_of_div, if_pos ht] at this
  rw [e]
  exact this
theorem and1_u8_f {n : Nat} (i : Nat) (h : n < 256) (ht : ¬ n.testBit i = true) : bits .and .u8 ((n : Int) / 2 ^ i) 1 = 0 := by
  have e : (n : Int) / 2 ^ i = ((n / 2 ^ i : Nat) : Int) := by simp
  have := u8_and_nat (n / 2 ^ i) 1 (Nat.lt_of_le_of_lt (Nat.div_le_self _ _) h) (by omega)
  rw [Nat.and_one_is_mod, bit_of_div, if_neg ht] at this
  rw [e]
  exact this
theorem i64_and_nat (a b : Nat) (ha : a < 9223372036854775808) (hb : b < 9223372036854775808) : bits .and .i64 (a : Int) (b : Int) = ((a &&& b : Nat) : Int) := by
  have hx : a &&& b < 2 ^ 63 := Nat.and_lt_two_pow _ (by omega)
  show IntKind.i64.wrap ((BitVec.ofInt 64 (a : Int) &&& BitVec.ofInt 64 (b : Int)).toNat : Int) = _
  rw [BitVec.toNat_and, ofInt_i64n a ha, ofInt_i64n b hb, IntKind.wrap_i64]
  omega

theorem and1_i64_t {n : Nat} (i : Nat) (h : n < 65536) (ht : n.testBit i = true) : bits .and .i64 ((n : Int) / 2 ^ i) 1 = 1 := by
  have e : (n : Int) / 2 ^ i = ((n / 2 ^ i : Nat) : Int) := by simp
  have := i64_and_nat (n / 2 ^ i) 1 (Nat.lt_of_le_of_lt (Nat.div_le_self _ _) (by omega)) (by omega)
  rw [Nat.and_one_is_mod, bit_of_div, if_pos ht] at this
  rw [e]
  exact this
theorem and1_i64_f {n : Nat} (i : Nat) (h : n < 65536) (ht : ¬ n.testBit i = true) : bits .and .i64 ((n : Int) / 2 ^ i) 1 = 0 := by
  have e : (n : Int) / 2 ^ i = ((n / 2 ^ i : Nat) : Int) := by simp
  have := i64_and_nat (n / 2 ^ i) 1 (Nat.lt_of_le_of_lt (Nat.div_le_self _ _) (by omega)) (by omega)
  rw [Nat.and_one_is_mod, bit_of_div, if_neg ht] at this
  rw [e]
  exact this
theorem shl_lt {a i n : Nat} (ha : a < n) (hi : i ≤ 7) : a * 2 ^ i < n * 128 := by
  have h1 : (2 : Nat) ^ i ≤ 2 ^ 7 := Nat.pow_le_pow_right (by omega) hi
  calc a * 2 ^ i ≤ a * 128 := Nat.mul_le_mul_left _ h1
    _ < n * 128 := Nat.mul_lt_mul_of_pos_right ha (by omega)
theorem shl_step {p a n i : Nat} (hp : p < 65536) (ha : a < n) (hn : n ≤ 512) (hi : i ≤ 7) : bits .xor .i64 (p : Int) (wrap64 ((a : Int) * 2 ^ i)) = ((p ^^^ (a <<< i) : Nat) : Int) := by
  have h := shl_lt ha hi
  have e : (a : Int) * 2 ^ i = ((a * 2 ^ i : Nat) : Int) := by simp
  rw [e, IntWalk.wrap64_in _ (by omega), i64_xor_nat p (a * 2 ^ i) (by omega) (by omega), Nat.shiftLeft_eq]

set_option maxHeartbeats 400000 in
theorem refMul {a b : UInt8} {w : World} :
    Calls Try.prog 14 #[.int .u8 (a.toNat : Int), .int .u8 (b.toNat : Int)] w fun e w' => e = .returned (.int .u8 ((mulB a b).toNat : Int)) ∧ w' = w := by
  have ha := a.toNat_lt
  have hb := b.toNat_lt
  go_enter Try.func14, Try.ntmps14
  go_wp2
  go_loop [5, 6] (fun pv iv => ∃ (p i : Nat), pv = .int .i64 p ∧ iv = .int .i64 i ∧ i ≤ 8 ∧ p < 65536 ∧ Hid (rmA a.toNat b.toNat i = p)) (fun _ iv => 8 - (intOf iv).toNat)
  case atStart => exact ⟨0, 0, rfl, rfl, by omega, by omega, hide rfl⟩
  case round =>
    obtain ⟨p, i, rfl, rfl, hi, hp, hr⟩ := hrel
    by_cases h1 : i < 8
    · by_cases h2 : b.toNat.testBit i = true
      · have e1 := and1_u8_t i hb h2
        have e2 := shl_step (i := i) hp ha (by omega) (by omega)
        have hs : p ^^^ (a.toNat <<< i) < 65536 := Nat.xor_lt_two_pow (n := 16) hp (by rw [Nat.shiftLeft_eq]; have := shl_lt (i := i) ha (by omega); omega)
        have HS := hide hs
        have H2 := hide h2
        clear hs h2
        go_wp2
        go_round
        case rel => exact ⟨_, i + 1, rfl, by go_num, by omega, HS.out, hide (by rw [← hr.out]; show _ ^^^ sel (b.toNat.testBit i) _ = _; rw [H2.out]; rfl)⟩
        case measure => simp [intOf]; omega
      · have e1 := and1_u8_f i hb h2
        have H2 := hide h2
        clear h2
        go_wp2
        go_round
        case rel => exact ⟨_, i + 1, rfl, by go_num, by omega, hp, hide (by rw [← hr.out]; show _ ^^^ sel (b.toNat.testBit i) _ = _; rw [Bool.eq_false_iff.2 H2.out]; simp [sel])⟩
        case measure => simp [intOf]; omega
    · have hi8 : i = 8 := by omega
      have HB := hide (show rmB 7 p = gm a.toNat b.toNat by rw [← hr.out, hi8]; exact rm_gm ha hb)
      clear hi8 hr
      go_wp2
      go_loop [5, 7] (fun pv iv => ∃ (q j : Nat), pv = .int .i64 q ∧ iv = .int .i64 (j + 7) ∧ j ≤ 7 ∧ q < 65536 ∧ Hid (rmB j q = gm a.toNat b.toNat)) (fun _ iv => (intOf iv).toNat - 7)
      case atStart => exact ⟨p, 7, rfl, rfl, by omega, by omega, HB⟩
      case round =>
        obtain ⟨q, j, rfl, rfl, hj, hq, hrb⟩ := hrel
        by_cases h2 : 0 < j
        · obtain ⟨k, rfl⟩ : ∃ k, j = k + 1 := ⟨j - 1, by omega⟩
          by_cases h3 : q.testBit (k + 8) = true
          · have e1 := and1_i64_t (k + 8) hq h3
            have e2 := shl_step (a := 285) (n := 512) (i := k) hq (by omega) (by omega) (by omega)
            have hs : q ^^^ (285 <<< k) < 65536 := Nat.xor_lt_two_pow (n := 16) hq (by rw [Nat.shiftLeft_eq]; have := shl_lt (a := 285) (n := 286) (i := k) (by omega) (by omega); omega)
            have HS := hide hs
            have H3 := hide h3
            clear hs h3
            go_wp2
            go_round
            case rel =>
              have e2' : bits .xor .i64 (q : Int) (wrap64 (285 * 2 ^ k)) = ((q ^^^ (285 <<< k) : Nat) : Int) := e2
              refine ⟨q ^^^ (285 <<< k), k, by rw [e2'], by congr 1; omega, by omega, HS.out, hide ?_⟩
              have := hrb.out
              rw [← this]
              show _ = rmB k (q ^^^ sel (q.testBit (k + 8)) (285 <<< k))
              rw [H3.out]; rfl
            case measure => simp [intOf]; omega
          · have e1 := and1_i64_f (k + 8) hq h3
            have H3 := hide h3
            clear h3
            go_wp2
            go_round
            case rel =>
              refine ⟨q, k, rfl, by congr 1; omega, by omega, hq, hide ?_⟩
              have := hrb.out
              rw [← this]
              show _ = rmB k (q ^^^ sel (q.testBit (k + 8)) (285 <<< k))
              rw [Bool.eq_false_iff.2 H3.out]; simp [sel]
            case measure => simp [intOf]; omega
        · have hj0 : j = 0 := by omega
          have hr : q = gm a.toNat b.toNat := by
            have := hrb.out
            rw [hj0] at this
            exact this
          have HR := hide hr
          have hlt := gm_lt b.toNat ha
          rw [← hr] at hlt
          clear hr hj0
          go_wp2
          go_ret
          refine ⟨ret_int ?_, rfl⟩
          rw [toNat_mulB, ← HR.out]
end Go.Proofs.Ytijnfjnkjojjnaa
