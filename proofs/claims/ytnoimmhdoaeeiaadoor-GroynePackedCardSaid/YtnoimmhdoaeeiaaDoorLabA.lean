/- Walks of label's digit, pieces, piece, and of cmp.Compare at bytes and cmp.Or. -/
import Derived.Test.YtnoimmhdoaeeiaaDoorShelfPk
import Derived.Test.YtnoimmhdoaeeiaaDoorLabOrd
import Derived.Test.YtnoimmhdoaeeiaaDoorWords
import Derived.Lib.MinMax
import Derived.BigQuiet
namespace Go.Proofs.YtnoimmhdoaeeiaaDoor
open Go.RowKit

theorem toList_mkA (l : List UInt8) : (⟨l.toArray⟩ : ByteArray).toList = l := by rw [Lib.toList_data]
/-- the string s has the bytes l -/
structure Str (s : ByteArray) (l : List UInt8) : Prop where
  sz : s.size = l.length
  get : ∀ (i : Nat) (h : i < s.size) (h' : i < l.length), s[i] = l[i]
  emp : s.toList.isEmpty = l.isEmpty
  ext : ∀ i, s.extract i s.size = ⟨(l.drop i).toArray⟩
  fro : ∀ i, s.extract 0 i = ⟨(l.take i).toArray⟩
  lst : s.data.toList = l
theorem Str.of (l : List UInt8) : Str ⟨l.toArray⟩ l where
  sz := by show l.toArray.size = _; simp
  get := fun i h h' => by show l.toArray[i] = _; simp
  emp := by rw [toList_mkA]
  ext := fun i => by
    apply ByteArray.ext
    show (ByteArray.extract ⟨l.toArray⟩ i l.toArray.size).data = (l.drop i).toArray
    rw [ByteArray.data_extract]
    simp
    exact List.take_of_length_le (by rw [List.length_drop]; omega)
  fro := fun i => by
    apply ByteArray.ext
    show (ByteArray.extract ⟨l.toArray⟩ 0 i).data = (l.take i).toArray
    rw [ByteArray.data_extract]
    simp
  lst := by simp
theorem Str.any (s : ByteArray) : Str s s.data.toList := by
  have h := Str.of s.data.toList
  rw [show (⟨s.data.toList.toArray⟩ : ByteArray) = s from by cases s; simp] at h
  exact h

theorem labDigit (c : UInt8) (w : World) : Calls Tryd.prog 47 #[.int .u8 (c.toNat : Int)] w fun e w' => e = .returned (.bool (isD c)) ∧ w' = w := by
  have hr := isD_range c
  by_cases h1 : 48 ≤ c.toNat
  · by_cases h2 : c.toNat ≤ 57
    · have HQ := hide (show isD c = true from hr.2 ⟨h1, h2⟩)
      have d1 : decide ((48 : Int) ≤ (c.toNat : Int)) = true := decide_eq_true (by omega)
      have d2 : decide ((c.toNat : Int) ≤ 57) = true := decide_eq_true (by omega)
      clear hr
      go_enter Tryd.func47, Tryd.ntmps47
      go_wp2_with fail
      go_ret
      exact ⟨by rw [HQ.out] <;> rfl, rfl⟩
    · have HQ := hide (show isD c = false from Bool.eq_false_iff.2 fun h => h2 (hr.1 h).2)
      have d1 : decide ((48 : Int) ≤ (c.toNat : Int)) = true := decide_eq_true (by omega)
      have d2 : decide ((c.toNat : Int) ≤ 57) = false := decide_eq_false (by omega)
      clear hr
      go_enter Tryd.func47, Tryd.ntmps47
      go_wp2_with fail
      go_ret
      exact ⟨by rw [HQ.out] <;> rfl, rfl⟩
  · have HQ := hide (show isD c = false from Bool.eq_false_iff.2 fun h => h1 (hr.1 h).1)
    have d1 : decide ((48 : Int) ≤ (c.toNat : Int)) = false := decide_eq_false (by omega)
    clear hr
    go_enter Tryd.func47, Tryd.ntmps47
    go_wp2_with fail
    go_ret
    exact ⟨by rw [HQ.out] <;> rfl, rfl⟩

theorem isNaNb (x : Int) (w : World) : Calls Tryd.prog 62 #[.int .u8 x] w fun e w' => e = .returned (.bool false) ∧ w' = w := by
  go_enter Tryd.func62, Tryd.ntmps62
  go_wp2_with fail
  go_ret
  exact ⟨rfl, rfl⟩
theorem cmpByte (a b : Nat) (w : World) : Calls Tryd.prog 48 #[.int .u8 (a : Int), .int .u8 (b : Int)] w fun e w' => e = .returned (.int .i64 (ordI (compare a b))) ∧ w' = w := by
  have hc := Nat.compare_eq_ite_lt a b
  by_cases h1 : a < b
  · have HQ := hide (show ordI (compare a b) = -1 by rw [hc, if_pos h1]; rfl)
    have d1 : decide ((a : Int) < (b : Int)) = true := decide_eq_true (by omega)
    clear hc
    go_enter Tryd.func48, Tryd.ntmps48
    go_wp2_with fail
    refine (isNaNb _ _).mono ?_
    rintro e w1 ⟨rfl, rfl⟩
    go_wp2_with fail
    refine (isNaNb _ _).mono ?_
    rintro e w1 ⟨rfl, rfl⟩
    go_wp2_with fail
    go_ret
    exact ⟨by rw [HQ.out] <;> rfl, rfl⟩
  · by_cases h2 : b < a
    · have HQ := hide (show ordI (compare a b) = 1 by rw [hc, if_neg h1, if_pos h2]; rfl)
      have d1 : decide ((a : Int) < (b : Int)) = false := decide_eq_false (by omega)
      have d2 : decide ((b : Int) < (a : Int)) = true := decide_eq_true (by omega)
      clear hc
      go_enter Tryd.func48, Tryd.ntmps48
      go_wp2_with fail
      refine (isNaNb _ _).mono ?_
      rintro e w1 ⟨rfl, rfl⟩
      go_wp2_with fail
      refine (isNaNb _ _).mono ?_
      rintro e w1 ⟨rfl, rfl⟩
      go_wp2_with fail
      go_ret
      exact ⟨by rw [HQ.out] <;> rfl, rfl⟩
    · have HQ := hide (show ordI (compare a b) = 0 by rw [hc, if_neg h1, if_neg h2]; rfl)
      have d1 : decide ((a : Int) < (b : Int)) = false := decide_eq_false (by omega)
      have d2 : decide ((b : Int) < (a : Int)) = false := decide_eq_false (by omega)
      clear hc
      go_enter Tryd.func48, Tryd.ntmps48
      go_wp2_with fail
      refine (isNaNb _ _).mono ?_
      rintro e w1 ⟨rfl, rfl⟩
      go_wp2_with fail
      refine (isNaNb _ _).mono ?_
      rintro e w1 ⟨rfl, rfl⟩
      go_wp2_with fail
      go_ret
      exact ⟨by rw [HQ.out] <;> rfl, rfl⟩
def orI (x y : Int) : Int := if x ≠ 0 then x else y
theorem cmpOr2 {w : World} {g : Nat} {t : TypeId} {x y : Int} (h : Blk w g t #[.int .i64 x, .int .i64 y]) :
    Calls Tryd.prog 50 #[.slice (some ⟨g, 0, none⟩) 2 2] w fun e w' => e = .returned (.int .i64 (orI x y)) ∧ w' = w := by
  have c0 : w.cell? ⟨g, 0, none⟩ = some (.int .i64 x) := h.cell 0
  have c1 : w.cell? ⟨g, 1, none⟩ = some (.int .i64 y) := h.cell 1
  clear h
  by_cases hx : x = 0
  · subst hx
    by_cases hy : y = 0
    · subst hy
      go_enter Tryd.func50, Tryd.ntmps50
      go_wp2_with fail
      go_loopw [8] (fun iv wr => wr = w ∧ (iv = .int .i64 0 ∨ iv = .int .i64 1 ∨ iv = .int .i64 2)) (fun iv _ => 2 - (intOf iv).toNat)
      case atStart => exact ⟨rfl, .inl rfl⟩
      case round =>
        obtain ⟨rfl, rfl | rfl | rfl⟩ := hrel
        · go_wp2_with fail
          go_round
          case rel => first | exact ⟨rfl, .inr (.inl rfl)⟩ | exact ⟨trivial, .inr (.inl rfl)⟩
          case measure => simp [intOf]
        · go_wp2_with fail
          go_round
          case rel => first | exact ⟨rfl, .inr (.inr rfl)⟩ | exact ⟨trivial, .inr (.inr rfl)⟩
          case measure => simp [intOf]
        · go_wp2_with fail
          go_ret
          exact ⟨rfl, rfl⟩
    · have HQ := hide hy
      have hb : (y != 0) = true := bne_iff_ne.2 hy
      clear hy
      go_enter Tryd.func50, Tryd.ntmps50
      go_wp2_with fail
      go_loopw [8] (fun iv wr => wr = w ∧ (iv = .int .i64 0 ∨ iv = .int .i64 1)) (fun iv _ => 2 - (intOf iv).toNat)
      case atStart => exact ⟨rfl, .inl rfl⟩
      case round =>
        obtain ⟨rfl, rfl | rfl⟩ := hrel
        · go_wp2_with fail
          go_round
          case rel => first | exact ⟨rfl, .inr rfl⟩ | exact ⟨trivial, .inr rfl⟩
          case measure => simp [intOf]
        · go_wp2_with fail
          go_ret
          exact ⟨rfl, rfl⟩
  · have HQ := hide (show orI x y = x by rw [orI, if_pos hx])
    have hb : (x != 0) = true := bne_iff_ne.2 hx
    clear hx
    go_enter Tryd.func50, Tryd.ntmps50
    go_wp2_with fail
    go_loopw [8] (fun iv wr => wr = w ∧ iv = .int .i64 0) (fun iv _ => 2 - (intOf iv).toNat)
    case atStart => exact ⟨rfl, rfl⟩
    case round =>
      obtain ⟨rfl, rfl⟩ := hrel
      go_wp2_with fail
      go_ret
      exact ⟨by rw [HQ.out] <;> rfl, rfl⟩
end Go.Proofs.YtnoimmhdoaeeiaaDoor
