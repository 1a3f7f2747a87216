/- The walk of parity.Mul. -/
import Derived.Test.YtijnfjnkjojjnaaBase
import Derived.Test.YtijnfjnkjojjnaaGf
namespace Go.Proofs.Ytijnfjnkjojjnaa
open Go.RowKit

theorem and1_odd {y : Nat} (h : y < 256) (h2 : y % 2 = 1) : bits .and .u8 (y : Int) 1 = 1 := by
  have := u8_and_nat y 1 h (by omega)
  rw [Nat.and_one_is_mod, h2] at this
  exact this
theorem and1_even {y : Nat} (h : y < 256) (h2 : ¬ y % 2 = 1) : bits .and .u8 (y : Int) 1 = 0 := by
  have := u8_and_nat y 1 h (by omega)
  rw [Nat.and_one_is_mod, show y % 2 = 0 by omega] at this
  exact this
theorem ofInt_i64n (a : Nat) (ha : a < 9223372036854775808) : (BitVec.ofInt 64 (a : Int)).toNat = a := by
  rw [BitVec.ofInt_natCast, BitVec.toNat_ofNat]; exact Nat.mod_eq_of_lt (by omega)
theorem i64_xor_nat (a b : Nat) (ha : a < 9223372036854775808) (hb : b < 9223372036854775808) : bits .xor .i64 (a : Int) (b : Int) = ((a ^^^ b : Nat) : Int) := by
  have hx : a ^^^ b < 2 ^ 63 := Nat.xor_lt_two_pow (by omega) (by omega)
  show IntKind.i64.wrap ((BitVec.ofInt 64 (a : Int) ^^^ BitVec.ofInt 64 (b : Int)).toNat : Int) = _
  rw [BitVec.toNat_xor, ofInt_i64n a ha, ofInt_i64n b hb, IntKind.wrap_i64]
  omega

theorem xorV (a b : UInt8) : bits .xor .u8 (a.toNat : Int) (b.toNat : Int) = ((a ^^^ b).toNat : Int) := by
  rw [u8_xor_nat _ _ a.toNat_lt b.toNat_lt, UInt8.toNat_xor]

set_option maxHeartbeats 400000 in
theorem parityMul {a b : UInt8} {w : World} :
    Calls Try.prog 13 #[.int .u8 (a.toNat : Int), .int .u8 (b.toNat : Int)] w fun e w' => e = .returned (.int .u8 ((mulB a b).toNat : Int)) ∧ w' = w := by
  have ha := a.toNat_lt
  have hb := b.toNat_lt
  go_enter Try.func13, Try.ntmps13
  go_wp2
  go_loop [1, 5, 6] (fun bv pv xv => ∃ (f y p x : Nat), bv = .int .u8 y ∧ pv = .int .i64 p ∧ xv = .int .i64 x ∧ f ≤ 8 ∧ Hid (y < 2 ^ f) ∧ y < 256 ∧ p < 256 ∧ x < 256 ∧ Hid (p ^^^ gmN f x y = gm a.toNat b.toNat)) (fun bv _ _ => (intOf bv).toNat)
  case atStart => exact ⟨8, _, 0, _, rfl, rfl, rfl, Nat.le_refl _, hide hb, hb, by omega, ha, hide (by rw [Nat.zero_xor]; rfl)⟩
  case round =>
    obtain ⟨f, y, p, x, rfl, rfl, rfl, hf, hy, hy8, hp, hx, hg⟩ := hrel
    by_cases h1 : 0 < y
    · obtain ⟨f', rfl, hy', hg'⟩ := gm_step hy.out h1 hg.out
      have hxl := xtN_lt x hx
      have hpx : p ^^^ x < 256 := Nat.xor_lt_two_pow (n := 8) hp hx
      have HXL := hide hxl
      have HPX := hide hpx
      have HG := hide hg'
      have HY := hide hy'
      clear hxl hpx hg' hy'
      have e1 : bits .xor .i64 (p : Int) (x : Int) = ((p ^^^ x : Nat) : Int) := i64_xor_nat p x (by omega) (by omega)
      by_cases h2 : y % 2 = 1
      · have e2 := and1_odd hy8 h2
        have H2 := hide h2
        clear h2
        by_cases h3 : 255 < 2 * x
        · have e3 : bits .xor .i64 ((x : Int) * 2) 285 = ((xtN x : Nat) : Int) := by
            rw [xtN_big hx h3, Nat.mul_comm]
            exact i64_xor_nat (x * 2) 285 (by omega) (by omega)
          go_wp2
          go_round
          case rel => exact ⟨f', y / 2, p ^^^ x, xtN x, rfl, rfl, rfl, by omega, HY, by omega, HPX.out, HXL.out, hide (by rw [← HG.out, sel_odd x H2.out])⟩
          case measure => simp [intOf]; omega
        · have e3 : xtN x = 2 * x := xtN_small (by omega)
          have E3 := hide e3
          clear e3
          go_wp2
          go_round
          case rel => exact ⟨f', y / 2, p ^^^ x, 2 * x, rfl, rfl, by rw [show (x : Int) * 2 = ((2 * x : Nat) : Int) by omega], by omega, HY, by omega, HPX.out, by omega, hide (by rw [← E3.out, ← HG.out, sel_odd x H2.out])⟩
          case measure => simp [intOf]; omega
      · have e2 := and1_even hy8 h2
        have H2 := hide h2
        clear h2
        by_cases h3 : 255 < 2 * x
        · have e3 : bits .xor .i64 ((x : Int) * 2) 285 = ((xtN x : Nat) : Int) := by
            rw [xtN_big hx h3, Nat.mul_comm]
            exact i64_xor_nat (x * 2) 285 (by omega) (by omega)
          go_wp2
          go_round
          case rel => exact ⟨f', y / 2, p, xtN x, rfl, rfl, rfl, by omega, HY, by omega, hp, HXL.out, hide (by rw [← HG.out, sel_even x H2.out, Nat.xor_zero])⟩
          case measure => simp [intOf]; omega
        · have e3 : xtN x = 2 * x := xtN_small (by omega)
          have E3 := hide e3
          clear e3
          go_wp2
          go_round
          case rel => exact ⟨f', y / 2, p, 2 * x, rfl, rfl, by rw [show (x : Int) * 2 = ((2 * x : Nat) : Int) by omega], by omega, HY, by omega, hp, by omega, hide (by rw [← E3.out, ← HG.out, sel_even x H2.out, Nat.xor_zero])⟩
          case measure => simp [intOf]; omega
    · have h2 : y = 0 := by omega
      have hr : p = gm a.toNat b.toNat := by
        have := hg.out
        rw [h2, gmN_zero, Nat.xor_zero] at this
        exact this
      have HR := hide hr
      clear h2 hr
      go_wp2
      go_ret
      refine ⟨ret_int ?_, rfl⟩
      rw [toNat_mulB, ← HR.out]
end Go.Proofs.Ytijnfjnkjojjnaa
