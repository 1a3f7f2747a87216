/- The walk of label.Quote. -/
import Derived.Test.YtlbkomalniomhaaBld
import Derived.Deep.RegionLaw
namespace Go.Proofs.Ytlbkomalniomhaa
open Go.RowKit

def hexD (n : Nat) : UInt8 := if n < 10 then UInt8.ofNat (48 + n) else UInt8.ofNat (87 + n)
def qB (c : UInt8) : List UInt8 := if c = 34 ∨ c = 92 then [92, c] else if 32 ≤ c.toNat ∧ c.toNat ≤ 126 then [c] else [92, 120, hexD (c.toNat / 16), hexD (c.toNat % 16)]
def quoB (b : List UInt8) : List UInt8 := [34] ++ b.flatMap qB ++ [34]
theorem qB_len (c : UInt8) : (qB c).length ≤ 4 := by
  unfold qB; split
  · simp
  · split <;> simp
theorem flat_len : ∀ b : List UInt8, (b.flatMap qB).length ≤ 4 * b.length
  | [] => by simp
  | c :: b => by
    have h1 := qB_len c
    have h2 := flat_len b
    rw [List.flatMap_cons, List.length_append, List.length_cons]; omega
theorem flat_take (b : List UInt8) (k : Nat) (h : k < b.length) : (b.take (k + 1)).flatMap qB = (b.take k).flatMap qB ++ qB b[k] := by
  rw [List.take_succ_eq_append_getElem h, List.flatMap_append]; simp
theorem qB_esc {c : UInt8} (h : c = 34 ∨ c = 92) : qB c = [92, c] := by rw [qB, if_pos h]
theorem qB_plain {c : UInt8} (h : ¬ (c = 34 ∨ c = 92)) (h2 : 32 ≤ c.toNat ∧ c.toNat ≤ 126) : qB c = [c] := by rw [qB, if_neg h, if_pos h2]
theorem qB_hex {c : UInt8} (h : ¬ (c = 34 ∨ c = 92)) (h2 : ¬ (32 ≤ c.toNat ∧ c.toNat ≤ 126)) : qB c = [92, 120, hexD (c.toNat / 16), hexD (c.toNat % 16)] := by rw [qB, if_neg h, if_neg h2]
theorem u8_nat {c : UInt8} {n : Nat} (hn : n < 256) : c = UInt8.ofNat n ↔ c.toNat = n := by
  constructor
  · intro h; rw [h, UInt8.toNat_ofNat']; omega
  · intro h; apply UInt8.toNat.inj; rw [h, UInt8.toNat_ofNat']; omega

theorem hex_get : ∀ (q : Nat) (h : q < (⟨#[48, 49, 50, 51, 52, 53, 54, 55, 56, 57, 97, 98, 99, 100, 101, 102]⟩ : ByteArray).size), (⟨#[48, 49, 50, 51, 52, 53, 54, 55, 56, 57, 97, 98, 99, 100, 101, 102]⟩ : ByteArray)[q] = hexD q
  | 0, _ => rfl | 1, _ => rfl | 2, _ => rfl | 3, _ => rfl | 4, _ => rfl | 5, _ => rfl | 6, _ => rfl | 7, _ => rfl
  | 8, _ => rfl | 9, _ => rfl | 10, _ => rfl | 11, _ => rfl | 12, _ => rfl | 13, _ => rfl | 14, _ => rfl | 15, _ => rfl
  | q + 16, h => absurd h (by
    have e : (⟨#[48, 49, 50, 51, 52, 53, 54, 55, 56, 57, 97, 98, 99, 100, 101, 102]⟩ : ByteArray).size = 16 := rfl
    omega)
theorem and15 (y : UInt8) : bits .and .u8 (y.toNat : Int) 15 = ((y.toNat % 16 : Nat) : Int) := by
  have h : ∀ x : Fin 256, bits .and .u8 (x.val : Int) 15 = ((x.val % 16 : Nat) : Int) := by decide +kernel
  exact h ⟨y.toNat, y.toNat_lt⟩

set_option maxRecDepth 100000 in
set_option maxHeartbeats 2000000 in
theorem labelQuote {u : Value} {b : List UInt8} {F : Nat → Prop} {w : World} (hr : RdB w F u b) (hbl : b.length ≤ 1000000000) :
    Calls Try.prog 4 #[u] w fun e w' => e = .returned (.string ⟨(quoB b).toArray⟩) ∧ Chg Non w w' := by
  have hr0 := hr.lt
  obtain ⟨A, c, rfl, hcc, hcm⟩ := hr.shape
  unfold maxLen at hcm
  have hn := bldNew w
  have c1 := (Chg.refl Non w).alloc (.cells #[.pointer none, .slice none 0 0] 35)
  have hr1 := hr0.c0 c1
  have hby := bldByte (c := 34) hn (by simp)
  rw [List.nil_append] at hby
  obtain ⟨B, hB⟩ : ∃ B, B = w.heap.size := ⟨_, rfl⟩
  clear hr hr0
  go_enter Try.func4, Try.ntmps4
  go_wp2_with fail
  generalize w.alloc (.cells #[.pointer none, .slice none 0 0] 35) = w1 at hn c1 hr1 hby ⊢
  rw [← hB] at hn hr1 hby ⊢
  have HB := hide hB
  clear hB hn
  refine hby.mono ?_
  rintro e w2 ⟨rfl, v2, hb2, k2⟩
  have c2 : Chg Non w w2 := c1.trans k2 fun k hk e => by have := HB.out; have e2 : B ≤ k := e; omega
  have hr2 := hr1.chg k2 fun k hk e => by have e2 : B ≤ k := e; have := hk.2; omega
  clear hby c1 hr1 k2
  go_wp2_with fail
  go_loopw [9] (fun iv wr => ∃ (k : Nat) (v : Value), iv = .int .i64 (k : Int) ∧ k ≤ b.length ∧ Bld wr B B (.pointer (some ⟨B, 0, none⟩)) v ([34] ++ (b.take k).flatMap qB) ∧ RdB wr (fun k => F k ∧ k < B) (.slice A b.length c) b ∧ Chg Non w wr) (fun iv _ => b.length - (intOf iv).toNat)
  case atStart => exact ⟨0, v2, rfl, Nat.zero_le _, by simpa using hb2, hr2, c2⟩
  case round =>
    clear hb2 c2 hr2
    obtain ⟨k, v, rfl, hk, hb, hr, hcw⟩ := hrel
    by_cases h1 : k < b.length
    · obtain ⟨ad, rfl, hadF, hcell⟩ := hr.at_ h1
      have hft := flat_take b k h1
      have hfl := flat_len (b.take k)
      have htl : (b.take k).length = k := by rw [List.length_take]; omega
      rw [htl] at hfl
      obtain ⟨y, hy⟩ : ∃ y, y = b[k] := ⟨_, rfl⟩
      rw [← hy] at hcell hft
      obtain ⟨cur, hcur⟩ : ∃ cur, cur = [34] ++ (b.take k).flatMap qB := ⟨_, rfl⟩
      have hcl : cur.length ≤ 4 * b.length + 1 := by
        have h1 : ([34] : List UInt8).length = 1 := rfl
        rw [hcur, List.length_append, h1]; omega
      have HN := hide (show [34] ++ (b.take (k + 1)).flatMap qB = cur ++ qB y by rw [hft, hcur, List.append_assoc])
      rw [← hcur] at hb
      have hyl := y.toNat_lt
      clear hy hft hfl hcur htl
      by_cases h2 : y = 34 ∨ y = 92
      · rcases h2 with rfl | rfl
        · have HQ := hide (qB_esc (c := 34) (by decide))
          have hlit := RdB.lit wr 5 (0, 0) #[.int .u8 92, .int .u8 34] [92, 34] 2 rfl rfl (by simp [maxLen])
          have hw := bldWrite (hb.al (.cells #[.int .u8 92, .int .u8 34] 5)) hlit (fun k hk => by have := hb.blk.lt; omega) (by simp; omega)
          have hrA := hr.al (.cells #[.int .u8 92, .int .u8 34] 5)
          have cA := hcw.alloc (.cells #[.int .u8 92, .int .u8 34] 5)
          change wr.cell? (ad.add k) = some (.int .u8 34) at hcell
          clear hlit hr hb hcw hyl
          go_wp2_with fail
          refine hw.mono ?_
          rintro e w5 ⟨rfl, v5, hb5, k5⟩
          have hr5 := hrA.chg k5 fun j hj e => by have e2 : B ≤ j := e; have := hj.2; omega
          have c5 : Chg Non w w5 := cA.trans k5 fun j hj e => by have := HB.out; have e2 : B ≤ j := e; omega
          rw [← HQ.out, ← HN.out] at hb5
          clear hw hrA cA k5 hcell
          go_wp2_with fail
          go_round
          case rel => exact ⟨k + 1, _, by go_num, by omega, hb5, hr5, c5⟩
          case measure => simp [intOf]; omega
        · have HQ := hide (qB_esc (c := 92) (by decide))
          have hlit := RdB.lit wr 5 (0, 0) #[.int .u8 92, .int .u8 92] [92, 92] 2 rfl rfl (by simp [maxLen])
          have hw := bldWrite (hb.al (.cells #[.int .u8 92, .int .u8 92] 5)) hlit (fun k hk => by have := hb.blk.lt; omega) (by simp; omega)
          have hrA := hr.al (.cells #[.int .u8 92, .int .u8 92] 5)
          have cA := hcw.alloc (.cells #[.int .u8 92, .int .u8 92] 5)
          change wr.cell? (ad.add k) = some (.int .u8 92) at hcell
          clear hlit hr hb hcw hyl
          go_wp2_with fail
          refine hw.mono ?_
          rintro e w5 ⟨rfl, v5, hb5, k5⟩
          have hr5 := hrA.chg k5 fun j hj e => by have e2 : B ≤ j := e; have := hj.2; omega
          have c5 : Chg Non w w5 := cA.trans k5 fun j hj e => by have := HB.out; have e2 : B ≤ j := e; omega
          rw [← HQ.out, ← HN.out] at hb5
          clear hw hrA cA k5 hcell
          go_wp2_with fail
          go_round
          case rel => exact ⟨k + 1, _, by go_num, by omega, hb5, hr5, c5⟩
          case measure => simp [intOf]; omega
      · have h34 : ¬ y.toNat = 34 := fun h => h2 (.inl ((u8_nat (n := 34) (by omega)).2 h))
        have h92 : ¬ y.toNat = 92 := fun h => h2 (.inr ((u8_nat (n := 92) (by omega)).2 h))
        have b34 : ((y.toNat : Int) == 34) = false := beq_eq_false_iff_ne.2 (by omega)
        have b92 : ((y.toNat : Int) == 92) = false := beq_eq_false_iff_ne.2 (by omega)
        by_cases h3 : 32 ≤ y.toNat ∧ y.toNat ≤ 126
        · have HQ := hide (qB_plain h2 h3)
          have hw := bldByte (c := y) hb (by omega)
          have h31 : 32 ≤ y.toNat := h3.1
          have h32 : y.toNat ≤ 126 := h3.2
          have d1 : decide ((32 : Int) ≤ (y.toNat : Int)) = true := decide_eq_true (by omega)
          have d2 : decide ((y.toNat : Int) ≤ 126) = true := decide_eq_true (by omega)
          clear hb h2 h3
          go_wp2_with fail
          refine hw.mono ?_
          rintro e w5 ⟨rfl, v5, hb5, k5⟩
          have hr5 := hr.chg k5 fun j hj e => by have e2 : B ≤ j := e; have := hj.2; omega
          have c5 : Chg Non w w5 := hcw.trans k5 fun j hj e => by have := HB.out; have e2 : B ≤ j := e; omega
          rw [← HQ.out, ← HN.out] at hb5
          clear hw hr hcw k5 hcell
          go_wp2_with fail
          go_round
          case rel => exact ⟨k + 1, _, by go_num, by omega, hb5, hr5, c5⟩
          case measure => simp [intOf]; omega
        · have HQ := hide (qB_hex h2 h3)
          have hdd : (y.toNat < 32) ∨ (¬ y.toNat < 32 ∧ 126 < y.toNat) := by omega
          have hand := and15 y
          obtain ⟨q, hq⟩ : ∃ q, q = y.toNat / 16 := ⟨_, rfl⟩
          obtain ⟨m, hm⟩ : ∃ m, m = y.toNat % 16 := ⟨_, rfl⟩
          have hqi : (y.toNat : Int) / 16 = (q : Int) := by omega
          have hq16 : q < 16 := by omega
          have hm16 : m < 16 := by omega
          rw [← hm] at hand
          rw [← hq, ← hm] at HQ
          have hgq := hex_get q
          have hgm := hex_get m
          have iq : (0 : Int) ≤ (q : Int) ∧ (q : Int) < 16 := by omega
          have im : (0 : Int) ≤ (m : Int) ∧ (m : Int) < 16 := by omega
          clear h2 h3 hq hm
          rcases hdd with h5 | ⟨h5, h6⟩
          case' inl =>
            have d1 : decide ((32 : Int) ≤ (y.toNat : Int)) = false := decide_eq_false (by omega)
            have d1n : ¬ 32 ≤ y.toNat := by omega
          case' inr =>
            have d1 : decide ((32 : Int) ≤ (y.toNat : Int)) = true := decide_eq_true (by omega)
            have d1n : 32 ≤ y.toNat := by omega
            have d2 : decide ((y.toNat : Int) ≤ 126) = false := decide_eq_false (by omega)
            have d2n : ¬ y.toNat ≤ 126 := by omega
          all_goals
            obtain ⟨x1, hx1⟩ : ∃ x, x = hexD q := ⟨_, rfl⟩
            obtain ⟨x2, hx2⟩ : ∃ x, x = hexD m := ⟨_, rfl⟩
            rw [← hx1, ← hx2] at HQ
            simp only [← hx1] at hgq
            simp only [← hx2] at hgm
            have hlit := RdB.lit wr 5 (0, 0) #[.int .u8 92, .int .u8 120, .int .u8 (x1.toNat : Int), .int .u8 (x2.toNat : Int)] [92, 120, x1, x2] 4 rfl rfl (by simp [maxLen])
            have hw := bldWrite ((hb.al (.cells #[.int .u8 92, .int .u8 120, .int .u8 (x1.toNat : Int), .int .u8 (x2.toNat : Int)] 5)).c0 ((Chg.refl Non _).drew)) hlit.dr (fun k hk => by have := hb.blk.lt; omega) (by simp; omega)
            have hrA := (hr.al (.cells #[.int .u8 92, .int .u8 120, .int .u8 (x1.toNat : Int), .int .u8 (x2.toNat : Int)] 5)).dr
            have cA := (hcw.alloc (.cells #[.int .u8 92, .int .u8 120, .int .u8 (x1.toNat : Int), .int .u8 (x2.toNat : Int)] 5)).drew
            clear hlit hr hb hcw hyl hx1 hx2
            go_wp2_with fail
            go_region_law (first | (go_simp; go_at_call 13; refine hw.mono ?_; rintro e w5 ⟨rfl, v5, hb5, k5⟩))
          all_goals
            have hr5 := hrA.chg k5 fun j hj e => by have e2 : B ≤ j := e; have := hj.2; omega
            have c5 : Chg Non w w5 := cA.trans k5 fun j hj e => by have := HB.out; have e2 : B ≤ j := e; omega
            rw [← HQ.out, ← HN.out] at hb5
            clear hw hrA cA k5 hcell
            go_wp2_with fail
            go_round
            case rel => exact ⟨k + 1, _, by go_num, by omega, hb5, hr5, c5⟩
            case measure => simp [intOf]; omega
    · obtain rfl : k = b.length := by omega
      rw [List.take_length] at hb
      have hfl := flat_len b
      have hl1 : ([34] ++ b.flatMap qB).length + 1 ≤ 140737488355328 := by
        have h1 : ([34] : List UInt8).length = 1 := rfl
        rw [List.length_append, h1]; omega
      have hw := bldByte (c := 34) hb hl1
      clear hfl hl1 hb hr
      go_wp2_with fail
      refine hw.mono ?_
      rintro e w5 ⟨rfl, v5, hb5, k5⟩
      have c5 : Chg Non w w5 := hcw.trans k5 fun j hj e => by have := HB.out; have e2 : B ≤ j := e; omega
      have hs := bldStringAny B B _ w5 hb5.is (Nat.le_trans hb5.le (Nat.le_of_lt hb5.blk.lt))
      clear hw hb5 k5 hcw
      go_wp2_with fail
      refine hs.mono ?_
      rintro e w6 ⟨rfl, k6⟩
      go_wp2_with fail
      go_ret
      exact ⟨rfl, c5.trans (Chg.from_below k6) fun j hj e => by have := HB.out; have e2 : B ≤ j := e; omega⟩
end Go.Proofs.Ytlbkomalniomhaa
