/- The walks of parity.take, Open and OpenAll. -/
import Derived.Test.YtncchbcoldgpbaaSeal
import Derived.Test.YtncchbcoldgpbaaBB
namespace Go.Proofs.Ytncchbcoldgpbaa
open Go.RowKit

set_option maxRecDepth 100000 in
set_option maxHeartbeats 1000000 in
theorem parityTake {u : Value} {b : List UInt8} {F : Nat → Prop} {w : World} {a n : Nat} (hr : RdB w F u b) (ha : a ≤ b.length) (hn : n ≤ 1000000) :
    Calls Try.prog 64 #[u, .int .i64 (a : Int), .int .i64 (n : Int)] w fun e w' => ∃ x, e = .returned (.tuple #[x, .int .i64 (tkE (b.drop a) n)]) ∧
      (tkE (b.drop a) n = 0 → RdB w' F x ((b.drop a).take n)) ∧ Chg Non w w' := by
  have hlen8 := fun (w' : World) (ty : TypeId) => run_len8 hr w' ty
  have hml : b.length ≤ 9223372036854775807 := by obtain ⟨A, c, _, h1, h2⟩ := hr.shape; unfold maxLen at h2; omega
  have hw1 : IntKind.i64.wrap ((b.length : Int) - (a : Int)) = (b.length : Int) - (a : Int) := IntWalk.i64_in _ (by omega)
  have hw2 : IntKind.i64.wrap ((n : Int) + 4) = (n : Int) + 4 := IntWalk.i64_in _ (by omega)
  by_cases h1 : (b.drop a).length < n + 4
  · have HE := hide (show tkE (b.drop a) n = 5 by rw [tkE, if_pos h1])
    rw [List.length_drop] at h1
    have hd : decide ((b.length : Int) - (a : Int) < (n : Int) + 4) = true := decide_eq_true (by omega)
    go_enter Try.func64, Try.ntmps64
    go_wp2_with fail
    go_ret2
    rw [HE.out]
    exact ⟨_, rfl, fun h => absurd h (by decide), Chg.refl _ _⟩
  · have hEE : tkE (b.drop a) n = if goodB ((b.drop a).take (n + 4)) then 0 else 4 := by rw [tkE, if_neg h1]
    rw [List.length_drop] at h1
    have hd : decide ((b.length : Int) - (a : Int) < (n : Int) + 4) = false := decide_eq_false (by omega)
    have hw3 : IntKind.i64.wrap ((a : Int) + (n : Int)) = (a : Int) + (n : Int) := IntWalk.i64_in _ (by omega)
    have hw4 : IntKind.i64.wrap ((a : Int) + (n : Int) + 4) = (a : Int) + (n : Int) + 4 := IntWalk.i64_in _ (by omega)
    obtain ⟨s1, hs1, hc1⟩ := run_cut hr (i := a) (j := a + n + 4) (x := (a : Int)) (y := (a : Int) + (n : Int) + 4) rfl (by omega) (by omega) (by omega)
    obtain ⟨s2, hs2, hc2⟩ := run_cut hr (i := a) (j := a + n) (x := (a : Int)) (y := (a : Int) + (n : Int)) rfl (by omega) (by omega) (by omega)
    rw [show a + n + 4 - a = n + 4 by omega] at hs1
    rw [show a + n - a = n by omega] at hs2
    have hgood := parityGood hs1
    obtain ⟨gb, hgb⟩ : ∃ gb, gb = goodB ((b.drop a).take (n + 4)) := ⟨_, rfl⟩
    rw [← hgb] at hgood hEE
    clear hgb hs1
    cases gb
    all_goals
      have HE := hide hEE
      clear hEE
      go_enter Try.func64, Try.ntmps64
      go_wp2_with fail
      refine hgood.mono ?_
      rintro e w1 ⟨rfl, g1⟩
      go_wp2_with fail
      go_ret2
      rw [HE.out]
      refine ⟨_, rfl, fun h => ?_, g1⟩
      first
        | exact hs2.c0 g1
        | (simp at h)

theorem i64_or_nat (a b : Nat) (ha : a < 9223372036854775808) (hb : b < 9223372036854775808) : bits .or .i64 (a : Int) (b : Int) = ((a ||| b : Nat) : Int) := by
  have hx : a ||| b < 2 ^ 63 := Nat.or_lt_two_pow (by omega) (by omega)
  show IntKind.i64.wrap ((BitVec.ofInt 64 (a : Int) ||| BitVec.ofInt 64 (b : Int)).toNat : Int) = _
  rw [BitVec.toNat_or, ofInt_i64n a ha, ofInt_i64n b hb, IntKind.wrap_i64]
  omega
theorem or_byte64 (x : Nat) (y : UInt8) (hx : x < 16777216) : bits .or .i64 ((x : Int) * 256) (y.toNat : Int) = ((x * 256 + y.toNat : Nat) : Int) := by
  have hy := y.toNat_lt
  rw [show ((x : Int) * 256) = ((x * 256 : Nat) : Int) by omega, i64_or_nat _ _ (by omega) (by omega)]
  congr 1
  have h := Nat.shiftLeft_add_eq_or_of_lt (i := 8) (b := y.toNat) (by omega) x
  rw [Nat.shiftLeft_eq] at h
  exact h.symm
theorem be4_snoc (l : List UInt8) (c : UInt8) : be4 (l ++ [c]) = be4 l * 256 + c.toNat := by simp [be4]
theorem be4_lt : ∀ (n : Nat) (l : List UInt8), l.length = n → be4 l < 256 ^ n
  | 0, l, h => by rw [List.eq_nil_of_length_eq_zero h]; simp [be4]
  | n + 1, l, h => by
    rcases List.eq_nil_or_concat l with rfl | ⟨q, c, rfl⟩
    · simp at h
    · simp only [List.concat_eq_append] at h ⊢
      rw [be4_snoc, Nat.pow_succ]
      have h1 := be4_lt n q (by simpa using h)
      have := c.toNat_lt
      omega

theorem tkE_len {r : List UInt8} {n : Nat} (h : tkE r n = 0) : n + 4 ≤ r.length := by
  rw [tkE] at h
  split at h
  · exact absurd h (by decide)
  · omega
theorem be4_take (l : List UInt8) (i : Nat) (h : i < l.length) : be4 (l.take (i + 1)) = be4 (l.take i) * 256 + l[i].toNat := by
  rw [List.take_succ_eq_append_getElem h, be4_snoc]
theorem be4_small (l : List UInt8) (i : Nat) (h : i < 4) : be4 (l.take i) < 16777216 := by
  have h1 := be4_lt _ (l.take i) rfl
  have h2 : (l.take i).length ≤ 3 := by rw [List.length_take]; omega
  exact Nat.lt_of_lt_of_le h1 (Nat.le_trans (Nat.pow_le_pow_right (by omega) h2) (Nat.le_of_eq (by decide)))
/-- what Open answers -/
def openA (b : List UInt8) (at_ : Int) : List UInt8 × Int × Int :=
  if at_ < 0 ∨ (b.length : Int) < at_ then ([], 0, 1)
  else if (openR (b.drop at_.toNat)).2.2 ≠ 0 then ([], 0, (openR (b.drop at_.toNat)).2.2)
  else ((openR (b.drop at_.toNat)).1, (b.length : Int) - (openR (b.drop at_.toNat)).2.1.length, 0)
theorem openA_bad {b : List UInt8} {a : Nat} {x r : List UInt8} {er : Int} (ha : a ≤ b.length) (h : openR (b.drop a) = (x, r, er)) (he : er ≠ 0) : openA b (a : Int) = ([], 0, er) := by
  rw [openA, if_neg (by omega), Int.toNat_natCast, h, if_pos he]
theorem openA_ok {b : List UInt8} {a : Nat} {x r : List UInt8} (ha : a ≤ b.length) (h : openR (b.drop a) = (x, r, 0)) : openA b (a : Int) = (x, (b.length : Int) - r.length, 0) := by
  rw [openA, if_neg (by omega), Int.toNat_natCast, h, if_neg (by simp)]
def opA (x : List UInt8 × Int × Int) (v : Value) : Ending := .returned (.tuple #[v, .int .i64 x.2.1, .int .i64 x.2.2])

set_option maxRecDepth 100000 in
set_option maxHeartbeats 2000000 in
theorem parityOpen {u : Value} {b : List UInt8} {F : Nat → Prop} {w : World} {at_ : Int} (hr : RdB w F u b) (hbl : b.length ≤ 140737488355328) :
    Calls Try.prog 30 #[u, .int .i64 at_] w fun e w' => ∃ v, e = opA (openA b at_) v ∧ OwnB w' w.heap.size v (openA b at_).1 ∧ Chg Non w w' := by
  have hlen8 := fun (w' : World) (ty : TypeId) => run_len8 hr w' ty
  by_cases h1 : at_ < 0
  · have HA := hide (show openA b at_ = ([], 0, 1) by rw [openA, if_pos (.inl h1)])
    go_enter Try.func30, Try.ntmps30
    go_wp2_with fail
    go_ret3
    rw [HA.out]
    exact ⟨_, rfl, OwnB.nil_ _ _, Chg.refl _ _⟩
  · by_cases h2 : (b.length : Int) < at_
    · have HA := hide (show openA b at_ = ([], 0, 1) by rw [openA, if_pos (.inr h2)])
      go_enter Try.func30, Try.ntmps30
      go_wp2_with fail
      go_ret3
      rw [HA.out]
      exact ⟨_, rfl, OwnB.nil_ _ _, Chg.refl _ _⟩
    · obtain ⟨a, rfl⟩ : ∃ a : Nat, at_ = (a : Int) := ⟨at_.toNat, by omega⟩
      have ha : a ≤ b.length := by omega
      have hd : decide ((b.length : Int) < (a : Int)) = false := decide_eq_false (by omega)
      have htk := parityTake (n := 4) hr ha (by omega)
      have hr0 := hr.lt
      by_cases h3 : tkE (b.drop a) 4 = 0
      · rw [h3] at htk
        have hl8 := tkE_len h3
        obtain ⟨hd4, hhd⟩ : ∃ hd4, hd4 = (b.drop a).take 4 := ⟨_, rfl⟩
        have hd4l : hd4.length = 4 := by rw [hhd, List.length_take]; omega
        rw [← hhd] at htk
        have HOB := fun h => hide (openR_size h3 (show 1048576 < be4 ((b.drop a).take 4) from h))
        have HOK := fun h => hide (openR_ok h3 (show ¬ 1048576 < be4 ((b.drop a).take 4) from h))
        rw [← hhd] at HOB HOK
        rw [List.length_drop] at hl8
        rw [List.drop_drop] at HOK
        clear hhd h3
        go_enter Try.func30, Try.ntmps30
        go_wp2_with fail
        refine htk.mono ?_
        rintro e w1 ⟨x, rfl, hx, g1⟩
        have hx := hx trivial
        have hlenx := fun (w' : World) (ty : TypeId) => run_len8 hx w' ty
        obtain ⟨X, cx, hxe, _, _⟩ := hx.shape
        rw [hd4l] at hxe
        subst hxe
        have hr1 := hr0.c0 g1
        clear htk hr0 hr
        go_wp2_with fail
        go_loop [9, 35] (fun lv iv => ∃ (i : Nat), i ≤ 4 ∧ iv = .int .i64 i ∧ lv = .int .i64 (be4 (hd4.take i) : Int)) (fun _ iv => 4 - (intOf iv).toNat)
        case atStart => exact ⟨0, by omega, rfl, rfl⟩
        case round =>
          obtain ⟨i, hi, rfl, rfl⟩ := hrel
          by_cases h4 : i < 4
          · obtain ⟨xd, rfl, _, hcx⟩ := hx.at_ (k := i) (by omega)
            have HB := hide (be4_take hd4 i (by omega))
            have hsm := be4_small hd4 i h4
            obtain ⟨y, hy⟩ : ∃ y, y = hd4[i]'(by omega) := ⟨_, rfl⟩
            obtain ⟨z, hz⟩ : ∃ z, z = be4 (hd4.take i) := ⟨_, rfl⟩
            rw [← hy] at hcx HB
            rw [← hz] at HB hsm
            rw [← hz]
            clear hy hz
            have hor := or_byte64 z y hsm
            have hyl := y.toNat_lt
            go_wp2_with fail
            go_round
            case rel => exact ⟨i + 1, by omega, by go_num, by rw [HB.out]; congr 1⟩
            case measure => simp [intOf]; omega
          · obtain rfl : i = 4 := by omega
            rw [show hd4.take 4 = hd4 from List.take_of_length_le (by omega)]
            obtain ⟨n0, hn0⟩ : ∃ n0, n0 = be4 hd4 := ⟨_, rfl⟩
            rw [← hn0] at HOB HOK
            rw [← hn0]
            have hn0l : n0 < 4294967296 := by rw [hn0]; have := be4_lt 4 hd4 hd4l; omega
            have hw8 : IntKind.i64.wrap ((a : Int) + 8) = (a : Int) + 8 := IntWalk.i64_in _ (by omega)
            clear hn0 hx hlenx
            by_cases h5 : 1048576 < n0
            · have HA := hide (openA_bad ha (HOB h5).out (by decide))
              have hd5 : decide ((1048576 : Int) < (n0 : Int)) = true := decide_eq_true (by omega)
              clear HOB HOK
              go_wp2_with fail
              go_ret3
              rw [HA.out]
              exact ⟨_, rfl, OwnB.nil_ _ _, g1⟩
            · have HR := HOK h5
              have hd5 : decide ((1048576 : Int) < (n0 : Int)) = false := decide_eq_false (by omega)
              clear HOB HOK
              go_wp2_with fail
              go_loopw [1, 9, 12] (fun av lv ov wr => ∃ (a1 n : Nat) (done : List UInt8), av = .int .i64 (a1 : Int) ∧ lv = .int .i64 (n : Int) ∧ a1 ≤ b.length ∧ n ≤ 1048576 ∧ done.length + n ≤ 1048576 ∧ OwnB wr w.heap.size ov done ∧ Hid (openR (b.drop a) = opN n done (b.drop a1)) ∧ RdB wr (fun k => F k ∧ k < w.heap.size) u b ∧ Chg Non w wr) (fun _ lv _ _ => (intOf lv).toNat)
              case atStart => exact ⟨a + 8, n0, [], by go_num, rfl, by omega, by omega, by simp; omega, OwnB.nil_ _ _, HR, hr1, g1⟩
              case round =>
                clear HR hr1 g1
                obtain ⟨a1, n, done, rfl, rfl, ha1, hn, hdn, hown, hop, hr, hcw⟩ := hrel
                by_cases h6 : 0 < n
                · obtain ⟨m, hm, hcase⟩ : ∃ m, m = min 251 n ∧ ((251 ≤ n ∧ m = 251) ∨ (¬ 251 ≤ n ∧ m = n)) := ⟨_, rfl, by omega⟩
                  have htk := parityTake (n := m) hr ha1 (by omega)
                  have hd6 : decide ((0 : Int) < (n : Int)) = true := decide_eq_true (by omega)
                  have hm1 : 0 < m ∧ m ≤ n ∧ m ≤ 251 := by omega
                  have HBAD := fun h => hide (hop.out.trans (opN_bad h6 h))
                  have HOKN := fun h => hide (hop.out.trans (opN_ok h6 h))
                  rw [← hm] at HBAD HOKN
                  by_cases h7 : tkE (b.drop a1) m = 0
                  · have hl7 := tkE_len h7
                    rw [List.length_drop] at hl7
                    have HN := HOKN h7
                    rw [h7] at htk
                    rw [List.drop_drop] at HN
                    have hlen : done.length + ((b.drop a1).take m).length ≤ 140737488355328 := by rw [List.length_take]; omega
                    have hlm : ((b.drop a1).take m).length = m := by rw [List.length_take, List.length_drop]; omega
                    have hsz := hcw.size
                    have hw1 : IntKind.i64.wrap ((a1 : Int) + (m : Int)) = (a1 : Int) + (m : Int) := IntWalk.i64_in _ (by omega)
                    have hw2 : IntKind.i64.wrap ((a1 : Int) + (m : Int) + 4) = (a1 : Int) + (m : Int) + 4 := IntWalk.i64_in _ (by omega)
                    have hw3 : IntKind.i64.wrap ((n : Int) - (m : Int)) = (n : Int) - (m : Int) := IntWalk.i64_in _ (by omega)
                    clear HBAD HOKN hop h7 hm
                    rcases hcase with ⟨h8, rfl⟩ | ⟨h8, rfl⟩
                    case' inl =>
                      have h8' : (251 : Int) ≤ (n : Int) := by omega
                      simp only [show ((251 : Nat) : Int) = 251 from rfl] at htk hw1 hw2 hw3
                    case' inr => have h8' : ¬ (251 : Int) ≤ (m : Int) := by omega
                    all_goals
                      go_wp2_with fail
                      refine htk.mono ?_
                      rintro e w3 ⟨x3, rfl, hx3, k3⟩
                      have hx3 := hx3 trivial
                      obtain ⟨X3, n3, c3, rfl⟩ : ∃ A n c, x3 = .slice A n c := by obtain ⟨A, c, e, _⟩ := hx3.shape; exact ⟨A, _, c, e⟩
                      have hown3 := hown.chg k3 fun _ _ h => h
                      have hr3 := hr.c0 k3
                      have hcw3 := hcw.trans0 k3
                      have hsz3 := hcw3.size
                      clear htk hown hr hcw k3
                      go_wp2_with (at_builtin; refine append_B rfl _ _ rfl hown3 rfl hx3 rfl hlen hsz3 ?_; intro v4 w4 hown4 hg4 hat4)
                      have hrow4 : ∀ k, u12.ownBlock = some k → w.heap.size ≤ k := fun k hk => (hown3.lt k hk).1
                      have hr4 := hr3.chg (Chg.of_grown hg4) fun k hk e => by have := hrow4 k e.symm; have := hk.2; omega
                      have hcw4 := hcw3.own hg4 hrow4
                      go_round
                      case rel => exact ⟨_, _, _, by go_num, by go_num, by omega, by omega, by rw [List.length_append, hlm]; omega, hown4, HN, hr4, hcw4⟩
                      case measure => simp [intOf]; omega
                  · have HA := hide (openA_bad ha (HBAD h7).out h7)
                    obtain ⟨er, her⟩ : ∃ er, er = tkE (b.drop a1) m := ⟨_, rfl⟩
                    rw [← her] at htk HA h7
                    have hne : (er != 0) = true := by simp [h7]
                    clear her h7 HBAD HOKN hop hm
                    rcases hcase with ⟨h8, rfl⟩ | ⟨h8, rfl⟩
                    case' inl =>
                      have h8' : (251 : Int) ≤ (n : Int) := by omega
                      simp only [show ((251 : Nat) : Int) = 251 from rfl] at htk
                    case' inr => have h8' : ¬ (251 : Int) ≤ (m : Int) := by omega
                    all_goals
                      go_wp2_with fail
                      refine htk.mono ?_
                      rintro e w3 ⟨x3, rfl, _, k3⟩
                      go_wp2_with fail
                      go_ret3
                      rw [HA.out]
                      exact ⟨_, rfl, OwnB.nil_ _ _, hcw.trans0 k3⟩
                · obtain rfl : n = 0 := by omega
                  have hop2 := hop.out
                  rw [opN_zero] at hop2
                  have hA := openA_ok ha hop2
                  rw [List.length_drop, show (b.length : Int) - ((b.length - a1 : Nat) : Int) = (a1 : Int) by omega] at hA
                  have HA := hide hA
                  clear hop hop2 hA
                  go_wp2_with fail
                  go_ret3
                  rw [HA.out]
                  exact ⟨_, rfl, hown, hcw⟩
      · have HA := hide (openA_bad ha (openR_bad h3) h3)
        obtain ⟨er, her⟩ : ∃ er, er = tkE (b.drop a) 4 := ⟨_, rfl⟩
        rw [← her] at htk HA h3
        have hne : (er != 0) = true := by simp [h3]
        clear her h3
        go_enter Try.func30, Try.ntmps30
        go_wp2_with fail
        refine htk.mono ?_
        rintro e w1 ⟨x, rfl, _, g1⟩
        go_wp2_with fail
        go_ret3
        rw [HA.out]
        exact ⟨_, rfl, OwnB.nil_ _ _, g1⟩
end Go.Proofs.Ytncchbcoldgpbaa
