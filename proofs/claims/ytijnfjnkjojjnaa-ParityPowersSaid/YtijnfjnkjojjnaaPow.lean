/- Powers of two in the field, and the walk of parity.Pow. -/
import Derived.Test.YtijnfjnkjojjnaaMul
namespace Go.Proofs.Ytijnfjnkjojjnaa
open Go.RowKit

def powB : Nat → UInt8
  | 0 => 1
  | k + 1 => mulB (powB k) 2
theorem powB_add (a b : Nat) : powB (a + b) = mulB (powB a) (powB b) := by
  induction b with
  | zero => show powB a = mulB (powB a) 1; rw [mulB_one]
  | succ b ih => show mulB (powB (a + b)) 2 = mulB (powB a) (mulB (powB b) 2); rw [ih, mulB_assoc]
set_option maxRecDepth 100000 in
theorem powB_255 : powB 255 = 1 := by decide +kernel
theorem powB_mul255 (k : Nat) : powB (255 * k) = 1 := by
  induction k with
  | zero => rfl
  | succ k ih => rw [Nat.mul_succ, powB_add, ih, powB_255]; decide
theorem powB_mod (a : Nat) : powB (a % 255) = powB a := by
  conv => rhs; rw [← Nat.mod_add_div a 255, powB_add, powB_mul255, mulB_one]
theorem powB_ne (a : Nat) : powB a ≠ 0 := by
  induction a with
  | zero => decide
  | succ a ih => intro h; rcases mulB_eq_zero.1 h with h | h
                 · exact ih h
                 · exact absurd h (by decide)
theorem tmod255 {n r : Int} (h : n.tmod 255 = r) : -255 < r ∧ r < 255 ∧ ∃ k : Nat, k < 255 ∧ (n % 255).toNat = k ∧ (if r < 0 then r + 255 else r) = (k : Int) := by
  have e : n % 255 = if r < 0 then r + 255 else r := by
    rw [← h]
    rcases Int.lt_or_le n 0 with h0 | h0
    · obtain ⟨m, rfl⟩ : ∃ m : Nat, n = -(m : Int) := ⟨n.natAbs, by omega⟩
      rw [Int.neg_tmod, Int.tmod_eq_emod_of_nonneg (by omega)]
      split <;> omega
    · rw [Int.tmod_eq_emod_of_nonneg h0]
      split <;> omega
  have h1 : r < 255 := by rw [← h]; exact Int.tmod_lt_of_pos _ (by omega)
  have h2 : -255 < r := by
    have h' := Int.tmod_lt_of_pos (-n) (b := 255) (by omega)
    rw [Int.neg_tmod, h] at h'; omega
  refine ⟨h2, h1, (n % 255).toNat, by omega, rfl, ?_⟩
  rw [← e]; omega

theorem parityPow {n : Int} {w : World} (h1 : -9223372036854775808 ≤ n) (h2 : n ≤ 9223372036854775807) :
    Calls Try.prog 23 #[.int .i64 n] w fun e w' => e = .returned (.int .u8 ((powB (n % 255).toNat).toNat : Int)) ∧ w' = w := by
  obtain ⟨r, hr⟩ : ∃ r, n.tmod 255 = r := ⟨_, rfl⟩
  obtain ⟨hr1, hr2, k, hk, hk2, hk3⟩ := tmod255 hr
  rw [hk2]
  clear hk2
  by_cases hneg : r < 0
  all_goals
    first | rw [if_pos hneg] at hk3 | rw [if_neg hneg] at hk3
    go_enter Try.func23, Try.ntmps23
    go_wp2_with fail
    clear hr
    go_loop [3, 11] (fun pv iv => ∃ j : Nat, j ≤ k ∧ iv = .int .i64 j ∧ pv = .int .u8 ((powB j).toNat : Int)) (fun _ iv => k - (intOf iv).toNat)
    case atStart => exact ⟨0, Nat.zero_le _, rfl, rfl⟩
    case round =>
      obtain ⟨j, hj, rfl, rfl⟩ := hrel
      by_cases h5 : j < k
      · go_wp2_with fail
        refine (parityMul (b := 2)).mono ?_
        rintro e w' ⟨rfl, rfl⟩
        go_wp2_with fail
        go_round
        case rel => exact ⟨j + 1, by omega, by go_num, rfl⟩
        case measure => simp [intOf]; omega
      · have hjk : j = k := by omega
        subst hjk
        go_wp2_with fail
        go_ret
        exact ⟨rfl, rfl⟩
end Go.Proofs.Ytijnfjnkjojjnaa
