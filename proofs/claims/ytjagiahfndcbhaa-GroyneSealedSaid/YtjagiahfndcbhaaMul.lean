/- The walk of parity.Mul. -/
import Derived.Test.YtjagiahfndcbhaaBase
import Derived.Test.YtjagiahfndcbhaaGf
namespace Go.Proofs.Ytjagiahfndcbhaa
open Go.RowKit

theorem and1_odd {y : Nat} (h : y < 256) (h2 : y % 2 = 1) : bits .and .u8 (y : Int) 1 = 1 := by
  have := u8_and_nat y 1 h (by omega)
  rw [Nat.and_one_is_mod, h2] at this
  exact this
theorem and1_even {y : Nat} (h : y < 256) (h2 : ¬ y % 2 = 1) : bits .and .u8 (y : Int) 1 = 0 := by
  have := u8_and_nat y 1 h (by omega)
  rw [Nat.and_one_is_mod, show y % 2 = 0 by omega] at this
  exact this
theorem ofInt_i64n (a : Nat) (ha : a < 9223372036854775808) : (BitVec.ofInt 64 (a : Int)).toNat = a := by
  rw [BitVec.ofInt_natCast, BitVec.toNat_ofNat]; exact Nat.mod_eq_of_lt (by omega)
theorem i64_xor_nat (a b : Nat) (ha : a < 9223372036854775808) (hb : b < 9223372036854775808) : bits .xor .i64 (a : Int) (b : Int) = ((a ^^^ b : Nat) : Int) := by
  have hx : a ^^^ b < 2 ^ 63 := Nat.xor_lt_two_pow (by omega) (by omega)
  show IntKind.i64.wrap ((BitVec.ofInt 64 (a : Int) ^^^ BitVec.ofInt 64 (b : Int)).toNat : Int) = _
  rw [BitVec.toNat_xor, ofInt_i64n a ha, ofInt_i64n b hb, IntKind.wrap_i64]
  omega

theorem xorV (a b : UInt8) : bits .xor .u8 (a.toNat : Int) (b.toNat : Int) = ((a ^^^ b).toNat : Int) := by
  rw [u8_xor_nat _ _ a.toNat_lt b.toNat_lt, UInt8.toNat_xor]

end Go.Proofs.Ytjagiahfndcbhaa
