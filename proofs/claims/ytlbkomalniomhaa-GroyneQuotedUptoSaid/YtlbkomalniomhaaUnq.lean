/- The walks of label's plain, escaped and Unquote, at what Quote writes. -/
import Derived.Test.YtlbkomalniomhaaQuo
namespace Go.Proofs.Ytlbkomalniomhaa
open Go.RowKit Go.Shelf

def lays137_ren : Go.Shelf.Ren := ⟨fun | 137 => 22 | 217 => 25 | 266 => 26 | n => n, fun | 9 => 9 | 5 => 5 | 3 => 3 | n => n, fun | n => n⟩
theorem lays137 : Go.Proofs.Lays.n137 Try.prog lays137_ren := {
  mixed := by kernel_rfl
  f137 := Try.func22.trans (congrArg some (by kernel_rfl))
  f217 := Try.func25.trans (congrArg some (by kernel_rfl))
  f266 := Try.func26.trans (congrArg some (by kernel_rfl))
  t3 := Try.underlying3
  a3 := Try.isAgg3
  z3 := Try.sizeOf3
  v3 := Try.zeroValue3
  t5 := Try.underlying5
  a5 := Try.isAgg5
  z5 := Try.sizeOf5
  v5 := Try.zeroValue5
  t9 := Try.underlying9
  a9 := Try.isAgg9
  z9 := Try.sizeOf9
  v9 := Try.zeroValue9 }
theorem idxByte (s : ByteArray) (c : Int) (w : World) :
    Calls Try.prog 22 #[.string s, .int .u8 c] w fun e w' => e = .returned (.int .i64 (Lib.indexByte s.data.toList c.toNat.toUInt8)) ∧ w' = w := Any.strings_IndexByte lays137 s c w
def hexS : ByteArray := ⟨#[48, 49, 50, 51, 52, 53, 54, 55, 56, 57, 97, 98, 99, 100, 101, 102]⟩

theorem plainT {c : UInt8} {w : World} (h1 : 32 ≤ c.toNat) (h2 : c.toNat ≤ 126) (h3 : ¬ c.toNat = 34) (h4 : ¬ c.toNat = 92) :
    Calls Try.prog 15 #[.int .u8 (c.toNat : Int)] w fun e w' => e = .returned (.bool true) ∧ w' = w := by
  have d1 : decide ((32 : Int) ≤ (c.toNat : Int)) = true := decide_eq_true (by omega)
  have d2 : decide ((c.toNat : Int) ≤ 126) = true := decide_eq_true (by omega)
  have d3 : ((c.toNat : Int) != 34) = true := by simp; omega
  have d4 : ((c.toNat : Int) != 92) = true := by simp; omega
  go_enter Try.func15, Try.ntmps15
  go_wp2_with fail
  go_ret
  exact ⟨rfl, rfl⟩
theorem plainLo {c : UInt8} {w : World} (h1 : c.toNat < 32) :
    Calls Try.prog 15 #[.int .u8 (c.toNat : Int)] w fun e w' => e = .returned (.bool false) ∧ w' = w := by
  have d1 : decide ((32 : Int) ≤ (c.toNat : Int)) = false := decide_eq_false (by omega)
  have d1n : ¬ 32 ≤ c.toNat := by omega
  go_enter Try.func15, Try.ntmps15
  go_wp2_with fail
  go_ret
  exact ⟨rfl, rfl⟩
theorem plainHi {c : UInt8} {w : World} (h1 : 126 < c.toNat) :
    Calls Try.prog 15 #[.int .u8 (c.toNat : Int)] w fun e w' => e = .returned (.bool false) ∧ w' = w := by
  have d0 : decide ((32 : Int) ≤ (c.toNat : Int)) = true := decide_eq_true (by omega)
  have d0n : 32 ≤ c.toNat := by omega
  have d1 : decide ((c.toNat : Int) ≤ 126) = false := decide_eq_false (by omega)
  have d1n : ¬ c.toNat ≤ 126 := by omega
  go_enter Try.func15, Try.ntmps15
  go_wp2_with fail
  go_ret
  exact ⟨rfl, rfl⟩
theorem plain92 {w : World} :
    Calls Try.prog 15 #[.int .u8 92] w fun e w' => e = .returned (.bool false) ∧ w' = w := by
  go_enter Try.func15, Try.ntmps15
  go_wp2_with fail
  go_ret
  exact ⟨rfl, rfl⟩

theorem idx_x : Lib.indexByte hexS.data.toList (120 : Int).toNat.toUInt8 = -1 := by decide +kernel
theorem idx_hex : ∀ q, q < 16 → Lib.indexByte hexS.data.toList ((hexD q).toNat : Int).toNat.toUInt8 = (q : Int) := by decide +kernel
theorem bits15 : ∀ q : Nat, q < 16 → bits .and .i64 (q : Int) 15 = (q : Int) := by decide +kernel
theorem bitsOr0 : ∀ q : Nat, q < 16 → bits .or .i64 0 (q : Int) = (q : Int) := by decide +kernel
theorem bitsOr : ∀ q : Nat, q < 16 → ∀ m : Nat, m < 16 → bits .or .i64 ((q : Int) * 16) (m : Int) = ((q * 16 + m : Nat) : Int) := by decide +kernel

set_option maxRecDepth 100000 in
set_option maxHeartbeats 2000000 in
theorem labelEsc1 {c : UInt8} {s : ByteArray} {w : World} (hc : c = 34 ∨ c = 92) (hs : 0 < s.size) (h0 : ∀ h, s[0]'h = c) (hE : s.toList.isEmpty = false) :
    Calls Try.prog 16 #[.string s] w fun e w' => e = .returned (.tuple #[.int .u8 (c.toNat : Int), .int .i64 1, .int .i64 0]) ∧ w' = w := by
  rcases hc with rfl | rfl
  · go_enter Try.func16, Try.ntmps16
    go_wp2_with fail
    go_ret3
    exact ⟨rfl, rfl⟩
  · go_enter Try.func16, Try.ntmps16
    go_wp2_with fail
    go_ret3
    exact ⟨rfl, rfl⟩
set_option maxRecDepth 100000 in
set_option maxHeartbeats 2000000 in
theorem labelEsc3 {c : UInt8} {s : ByteArray} {w : World} (hs : 3 ≤ s.size) (h0 : ∀ h, s[0]'h = 120) (h1 : ∀ h, s[1]'h = hexD (c.toNat / 16)) (h2 : ∀ h, s[2]'h = hexD (c.toNat % 16)) (hsz : s.size ≤ 10000000000) (hE : s.toList.isEmpty = false)
    (hne : ¬ (c = 34 ∨ c = 92)) (hnp : ¬ (32 ≤ c.toNat ∧ c.toNat ≤ 126)) :
    Calls Try.prog 16 #[.string s] w fun e w' => e = .returned (.tuple #[.int .u8 (c.toNat : Int), .int .i64 3, .int .i64 0]) ∧ w' = w := by
  have hcl := c.toNat_lt
  obtain ⟨q, hq⟩ : ∃ q, q = c.toNat / 16 := ⟨_, rfl⟩
  obtain ⟨m, hm⟩ : ∃ m, m = c.toNat % 16 := ⟨_, rfl⟩
  have hq16 : q < 16 := by omega
  have hm16 : m < 16 := by omega
  have hcv := hide (show q * 16 + m = c.toNat by omega)
  rw [← hq] at h1
  rw [← hm] at h2
  have hI0 := fun (w' : World) => idxByte hexS 120 w'
  rw [idx_x] at hI0
  have hI1 := fun (w' : World) => idxByte hexS ((hexD q).toNat : Int) w'
  rw [idx_hex q hq16] at hI1
  have hI2 := fun (w' : World) => idxByte hexS ((hexD m).toNat : Int) w'
  rw [idx_hex m hm16] at hI2
  obtain ⟨x1, hx1⟩ : ∃ x, x = hexD q := ⟨_, rfl⟩
  obtain ⟨x2, hx2⟩ : ∃ x, x = hexD m := ⟨_, rfl⟩
  rw [← hx1] at h1
  rw [← hx2] at h2
  simp only [← hx1] at hI1
  simp only [← hx2] at hI2
  have b1 := bits15 q hq16
  have b2 := bits15 m hm16
  have b3 := bitsOr0 q hq16
  have b4 := bitsOr q hq16 m hm16
  rw [hcv.out] at b4
  have m1 : ¬ (q : Int) < 0 := by omega
  have m2 : ¬ (m : Int) < 0 := by omega
  have m3 : (0 : Int) ≤ (q : Int) := by omega
  have m4 : (0 : Int) ≤ (m : Int) := by omega
  have n34 : ¬ c.toNat = 34 := fun h => hne (.inl ((u8_nat (n := 34) (by omega)).2 h))
  have n92 : ¬ c.toNat = 92 := fun h => hne (.inr ((u8_nat (n := 92) (by omega)).2 h))
  have b34 : ((c.toNat : Int) == 34) = false := beq_eq_false_iff_ne.2 (by omega)
  have b92 : ((c.toNat : Int) == 92) = false := beq_eq_false_iff_ne.2 (by omega)
  have hpl : ∀ w' : World, Calls Try.prog 15 #[.int .u8 (c.toNat : Int)] w' fun e w'' => e = .returned (.bool false) ∧ w'' = w' := fun w' => by
    by_cases h : c.toNat < 32
    · exact plainLo h
    · exact plainHi (by omega)
  have s0 : ((0 : Int) == (s.size : Int)) = false := beq_eq_false_iff_ne.2 (by omega)
  have s1 : ((1 : Int) == (s.size : Int)) = false := beq_eq_false_iff_ne.2 (by omega)
  have s2 : ((2 : Int) == (s.size : Int)) = false := beq_eq_false_iff_ne.2 (by omega)
  have t0 : (0 : Int) < (s.size : Int) := by omega
  have t1 : (1 : Int) < (s.size : Int) := by omega
  have t2 : (2 : Int) < (s.size : Int) := by omega
  have wq : IntKind.i64.wrap ((q : Int) * 16) = (q : Int) * 16 := IntWalk.i64_in _ (by omega)
  have wc : IntKind.u8.wrap (c.toNat : Int) = (c.toNat : Int) := by rw [IntKind.wrap_u8]; omega
  clear hne hnp hq hm hx1 hx2
  go_enter Try.func16, Try.ntmps16
  go_wp2_with fail
  go_loop [5, 21] (fun nv iv => (iv = .int .i64 0 ∧ nv = .int .i64 0) ∨ (iv = .int .i64 1 ∧ nv = .int .i64 0) ∨ (iv = .int .i64 2 ∧ nv = .int .i64 (q : Int)) ∨ (iv = .int .i64 3 ∧ nv = .int .i64 (c.toNat : Int))) (fun _ iv => 3 - (intOf iv).toNat)
  case atStart => exact .inl ⟨rfl, rfl⟩
  case round =>
    rcases hrel with ⟨rfl, rfl⟩ | ⟨rfl, rfl⟩ | ⟨rfl, rfl⟩ | ⟨rfl, rfl⟩
    · go_wp2_with fail
      refine (hI0 _).mono ?_
      rintro e w2 ⟨rfl, rfl⟩
      go_wp2_with fail
      go_round
      case rel => exact .inr (.inl ⟨rfl, rfl⟩)
      case measure => simp [intOf]
    · go_wp2_with fail
      refine (hI1 _).mono ?_
      rintro e w2 ⟨rfl, rfl⟩
      go_wp2_with fail
      go_round
      case rel => exact .inr (.inr (.inl ⟨rfl, rfl⟩))
      case measure => simp [intOf]
    · go_wp2_with fail
      refine (hI2 _).mono ?_
      rintro e w2 ⟨rfl, rfl⟩
      go_wp2_with fail
      go_round
      case rel => exact .inr (.inr (.inr ⟨rfl, rfl⟩))
      case measure => simp [intOf]
    · go_wp2_with fail
      refine (hpl _).mono ?_
      rintro e w2 ⟨rfl, rfl⟩
      go_wp2_with fail
      go_ret3
      exact ⟨rfl, rfl⟩
end Go.Proofs.Ytlbkomalniomhaa
