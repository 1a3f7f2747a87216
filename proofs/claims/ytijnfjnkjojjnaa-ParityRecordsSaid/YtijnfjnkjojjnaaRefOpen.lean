/- The walk of groyneref03.Open. -/
import Derived.Test.YtijnfjnkjojjnaaOpen3
import Derived.Test.YtijnfjnkjojjnaaRefChk
namespace Go.Proofs.Ytijnfjnkjojjnaa
open Go.RowKit

theorem Chg.ofQ {w w' : World} (h : Quiet w w') : Chg Non w w' := (Chg.refl _ _).quiet h
theorem tkE_bad {r : List UInt8} {n : Nat} (h : n + 4 ≤ r.length) (hg : goodB (r.take (n + 4)) = false) : tkE r n = 4 := by
  rw [tkE, if_neg (by omega), hg]; rfl
theorem tkE_ok {r : List UInt8} {n : Nat} (h : n + 4 ≤ r.length) (hg : goodB (r.take (n + 4)) = true) : tkE r n = 0 := by
  rw [tkE, if_neg (by omega), hg]; rfl
theorem tkE_short {r : List UInt8} {n : Nat} (h : r.length < n + 4) : tkE r n = 5 := by rw [tkE, if_pos h]
theorem four_lt (x0 x1 x2 x3 : UInt8) : x0.toNat * 16777216 + x1.toNat * 65536 + x2.toNat * 256 + x3.toNat < 4294967296 := by
  have l0 := x0.toNat_lt
  have l1 := x1.toNat_lt
  have l2 := x2.toNat_lt
  have l3 := x3.toNat_lt
  omega
theorem be4_four (b : List UInt8) (a : Nat) (h : a + 4 ≤ b.length) : be4 ((b.drop a).take 4) = b[a].toNat * 16777216 + b[a + 1].toNat * 65536 + b[a + 2].toNat * 256 + b[a + 3].toNat := by
  have e : (b.drop a).take 4 = [b[a], b[a + 1], b[a + 2], b[a + 3]] := by
    rw [List.drop_eq_getElem_cons (by omega), List.drop_eq_getElem_cons (by omega), List.drop_eq_getElem_cons (by omega), List.drop_eq_getElem_cons (by omega)]
    rfl
  rw [e]
  simp only [be4, List.foldl_cons, List.foldl_nil]
  omega

set_option maxRecDepth 100000 in
set_option maxHeartbeats 2000000 in
theorem refOpen {u : Value} {b : List UInt8} {F : Nat → Prop} {w : World} {at_ : Int} (hr : RdB w F u b) (hbl : b.length ≤ 140737488355328) :
    Calls Try.prog 29 #[u, .int .i64 at_] w fun e w' => ∃ v, e = opA (openA b at_) v ∧ OwnB w' w.heap.size v (openA b at_).1 ∧ Chg Non w w' := by
  have hlen8 := fun (w' : World) (ty : TypeId) => run_len8 hr w' ty
  by_cases h1 : at_ < 0
  · have HA := hide (show openA b at_ = ([], 0, 1) by rw [openA, if_pos (.inl h1)])
    go_enter Try.func29, Try.ntmps29
    go_wp2_with fail
    go_ret3
    rw [HA.out]
    exact ⟨_, rfl, OwnB.nil_ _ _, Chg.refl _ _⟩
  · by_cases h2 : (b.length : Int) < at_
    · have HA := hide (show openA b at_ = ([], 0, 1) by rw [openA, if_pos (.inr h2)])
      go_enter Try.func29, Try.ntmps29
      go_wp2_with fail
      go_ret3
      rw [HA.out]
      exact ⟨_, rfl, OwnB.nil_ _ _, Chg.refl _ _⟩
    · obtain ⟨a, rfl⟩ : ∃ a : Nat, at_ = (a : Int) := ⟨at_.toNat, by omega⟩
      have ha : a ≤ b.length := by omega
      have hd : decide ((b.length : Int) < (a : Int)) = false := decide_eq_false (by omega)
      have hw1 : IntKind.i64.wrap ((b.length : Int) - (a : Int)) = (b.length : Int) - (a : Int) := IntWalk.i64_in _ (by omega)
      have hr0 := hr.lt
      by_cases h3 : (b.drop a).length < 8
      · have he := tkE_short (r := b.drop a) (n := 4) h3
        have HA := hide (openA_bad ha (openR_bad (by rw [he]; decide)) (by rw [he]; decide))
        rw [he] at HA
        rw [List.length_drop] at h3
        have hd3 : decide ((b.length : Int) - (a : Int) < 8) = true := decide_eq_true (by omega)
        clear he
        go_enter Try.func29, Try.ntmps29
        go_wp2_with fail
        go_ret3
        rw [HA.out]
        exact ⟨_, rfl, OwnB.nil_ _ _, Chg.refl _ _⟩
      · have h3l : 8 ≤ (b.drop a).length := by omega
        rw [List.length_drop] at h3
        have hd3 : decide ((b.length : Int) - (a : Int) < 8) = false := decide_eq_false (by omega)
        obtain ⟨s1, hs1, hc1⟩ := run_cut hr (i := a) (j := a + 8) (x := (a : Int)) (y := (a : Int) + 8) rfl (by omega) (by omega) (by omega)
        rw [show a + 8 - a = 8 by omega] at hs1
        have hgood := refGood hs1
        have hw2 : IntKind.i64.wrap ((a : Int) + 8) = (a : Int) + 8 := IntWalk.i64_in _ (by omega)
        have hEB := tkE_bad (r := b.drop a) (n := 4) h3l
        have hEO := tkE_ok (r := b.drop a) (n := 4) h3l
        obtain ⟨gb, hgb⟩ : ∃ gb, gb = goodB ((b.drop a).take 8) := ⟨_, rfl⟩
        rw [← hgb] at hgood hEB hEO
        clear hgb hs1
        cases gb
        · have he := hEB rfl
          have HA := hide (openA_bad ha (openR_bad (by rw [he]; decide)) (by rw [he]; decide))
          rw [he] at HA
          clear he hEB hEO h3l
          go_enter Try.func29, Try.ntmps29
          go_wp2_with fail
          refine hgood.mono ?_
          rintro e w1 ⟨rfl, g1⟩
          go_wp2_with fail
          go_ret3
          rw [HA.out]
          exact ⟨_, rfl, OwnB.nil_ _ _, Chg.ofQ g1⟩
        · have he := hEO rfl
          have HOB := fun h => hide (openR_size he (show 1048576 < be4 ((b.drop a).take 4) from h))
          have HOK := fun h => hide (openR_ok he (show ¬ 1048576 < be4 ((b.drop a).take 4) from h))
          have hb4 := be4_four b a (by omega)
          rw [hb4] at HOB HOK
          rw [List.drop_drop] at HOK
          clear hb4 he hEB hEO h3l
          go_enter Try.func29, Try.ntmps29
          go_wp2_with fail
          refine hgood.mono ?_
          rintro e w1 ⟨rfl, g1⟩
          have hr1 := g1.rdb hr0
          have gg1 := Chg.ofQ g1
          obtain ⟨A, c, rfl, hcc, hcm⟩ := hr.shape
          unfold maxLen at hcm
          obtain ⟨ad, rfl, hadF, hx0⟩ := hr1.at_ (k := a) (by omega)
          obtain ⟨ad1, e1, _, hx1⟩ := hr1.at_ (k := a + 1) (by omega)
          obtain ⟨ad2, e2, _, hx2⟩ := hr1.at_ (k := a + 2) (by omega)
          obtain ⟨ad3, e3, _, hx3⟩ := hr1.at_ (k := a + 3) (by omega)
          injection e1 with e1
          injection e2 with e2
          injection e3 with e3
          subst e1; subst e2; subst e3
          obtain ⟨x0, hx0e⟩ : ∃ x, x = b[a] := ⟨_, rfl⟩
          obtain ⟨x1, hx1e⟩ : ∃ x, x = b[a + 1] := ⟨_, rfl⟩
          obtain ⟨x2, hx2e⟩ : ∃ x, x = b[a + 2] := ⟨_, rfl⟩
          obtain ⟨x3, hx3e⟩ : ∃ x, x = b[a + 3] := ⟨_, rfl⟩
          rw [← hx0e, ← hx1e, ← hx2e, ← hx3e] at HOB HOK
          rw [← hx0e] at hx0
          rw [← hx1e] at hx1
          rw [← hx2e] at hx2
          rw [← hx3e] at hx3
          clear hx0e hx1e hx2e hx3e hgood hr0 hr hc1 g1
          have l0 := x0.toNat_lt
          have l1 := x1.toNat_lt
          have l2 := x2.toNat_lt
          have l3 := x3.toNat_lt
          obtain ⟨n0, hn0⟩ : ∃ n0 : Nat, n0 = x0.toNat * 16777216 + x1.toNat * 65536 + x2.toNat * 256 + x3.toNat := ⟨_, rfl⟩
          rw [← hn0] at HOB HOK
          have hn0l := four_lt x0 x1 x2 x3
          rw [← hn0] at hn0l
          obtain ⟨p1, hp1⟩ : ∃ p1, p1 = a + 1 := ⟨_, rfl⟩
          obtain ⟨p2, hp2⟩ : ∃ p2, p2 = a + 2 := ⟨_, rfl⟩
          obtain ⟨p3, hp3⟩ : ∃ p3, p3 = a + 3 := ⟨_, rfl⟩
          rw [← hp1] at hx1
          rw [← hp2] at hx2
          rw [← hp3] at hx3
          have hw11 : IntKind.i64.wrap ((a : Int) + 1) = (p1 : Int) := by rw [IntWalk.i64_in _ (by omega)]; omega
          have hw12 : IntKind.i64.wrap ((a : Int) + 2) = (p2 : Int) := by rw [IntWalk.i64_in _ (by omega)]; omega
          have hw13 : IntKind.i64.wrap ((a : Int) + 3) = (p3 : Int) := by rw [IntWalk.i64_in _ (by omega)]; omega
          have hi0 : (a : Int) < (b.length : Int) := by omega
          have hi1 : (p1 : Int) < (b.length : Int) := by omega
          have hi2 : (p2 : Int) < (b.length : Int) := by omega
          have hi3 : (p3 : Int) < (b.length : Int) := by omega
          have hj0 : (0 : Int) ≤ (a : Int) := by omega
          have hj1 : (0 : Int) ≤ (p1 : Int) := by omega
          have hj2 : (0 : Int) ≤ (p2 : Int) := by omega
          have hj3 : (0 : Int) ≤ (p3 : Int) := by omega
          have hv0 : IntKind.i64.wrap (x0.toNat : Int) = (x0.toNat : Int) := IntWalk.i64_in _ (by omega)
          have hv1 : IntKind.i64.wrap (x1.toNat : Int) = (x1.toNat : Int) := IntWalk.i64_in _ (by omega)
          have hv2 : IntKind.i64.wrap (x2.toNat : Int) = (x2.toNat : Int) := IntWalk.i64_in _ (by omega)
          have hv3 : IntKind.i64.wrap (x3.toNat : Int) = (x3.toNat : Int) := IntWalk.i64_in _ (by omega)
          have hm0 : IntKind.i64.wrap ((x0.toNat : Int) * 16777216) = (x0.toNat : Int) * 16777216 := IntWalk.i64_in _ (by omega)
          have hm1 : IntKind.i64.wrap ((x1.toNat : Int) * 65536) = (x1.toNat : Int) * 65536 := IntWalk.i64_in _ (by omega)
          have hm2 : IntKind.i64.wrap ((x2.toNat : Int) * 256) = (x2.toNat : Int) * 256 := IntWalk.i64_in _ (by omega)
          have hz1 : IntKind.i64.wrap ((x0.toNat : Int) * 16777216 + (x1.toNat : Int) * 65536) = (x0.toNat : Int) * 16777216 + (x1.toNat : Int) * 65536 := IntWalk.i64_in _ (by omega)
          have hz2 : IntKind.i64.wrap ((x0.toNat : Int) * 16777216 + (x1.toNat : Int) * 65536 + (x2.toNat : Int) * 256) = (x0.toNat : Int) * 16777216 + (x1.toNat : Int) * 65536 + (x2.toNat : Int) * 256 := IntWalk.i64_in _ (by omega)
          have hz3 : IntKind.i64.wrap ((x0.toNat : Int) * 16777216 + (x1.toNat : Int) * 65536 + (x2.toNat : Int) * 256 + (x3.toNat : Int)) = (n0 : Int) := by rw [IntWalk.i64_in _ (by omega)]; omega
          have hp1n : p1 ≤ b.length := by omega
          have hc3 : (0 : Int) ≤ (x0.toNat : Int) := by omega
          clear hp1 hp2 hp3 hn0
          clear hc3
          go_wp2_with fail
          go_quiet (fail)
          clear hw11 hw12 hw13 hi0 hi1 hi2 hi3 hj0 hj1 hj2 hj3 hv0 hv1 hv2 hv3 hm0 hm1 hm2 hz1 hz2 hz3 hx0 hx1 hx2 hx3 l0 l1 l2 l3
          have hr2 := hr1.dn nq
          have gg2 := gg1.drewN nq
          clear hr1 gg1
          generalize w1.drewN nq = wq at hr2 gg2 ⊢
          by_cases h5 : 1048576 < n0
          · have HA := hide (openA_bad ha (HOB h5).out (by decide))
            have hd5 : decide ((1048576 : Int) < (n0 : Int)) = true := decide_eq_true (by omega)
            clear HOB HOK
            go_wp2_with fail
            go_ret3
            rw [HA.out]
            exact ⟨_, rfl, OwnB.nil_ _ _, gg2⟩
          · have HR := HOK h5
            have hd5 : decide ((1048576 : Int) < (n0 : Int)) = false := decide_eq_false (by omega)
            clear HOB HOK
            go_wp2_with fail
            go_loopw [1, 7, 8] (fun av lv ov wr => ∃ (a1 n : Nat) (done : List UInt8), av = .int .i64 (a1 : Int) ∧ lv = .int .i64 (n : Int) ∧ a1 ≤ b.length ∧ n ≤ 1048576 ∧ done.length + n ≤ 1048576 ∧ OwnB wr w.heap.size ov done ∧ Hid (openR (b.drop a) = opN n done (b.drop a1)) ∧ RdB wr (fun k => F k ∧ k < w.heap.size) (.slice (some ad) b.length c) b ∧ Chg Non w wr) (fun _ lv _ _ => (intOf lv).toNat)
            case atStart => exact ⟨a + 8, n0, [], by go_num, rfl, by omega, by omega, by simp; omega, OwnB.nil_ _ _, HR, hr2, gg2⟩
            case round =>
              clear HR hr2 gg2
              obtain ⟨a1, n, done, rfl, rfl, ha1, hn, hdn, hown, hop, hr, hcw⟩ := hrel
              by_cases h6 : 0 < n
              · obtain ⟨m, hm, hcase⟩ : ∃ m, m = min 251 n ∧ ((251 < n ∧ m = 251) ∨ (¬ 251 < n ∧ m = n)) := ⟨_, rfl, by omega⟩
                have hd6 : decide ((0 : Int) < (n : Int)) = true := decide_eq_true (by omega)
                have hm1 : 0 < m ∧ m ≤ n ∧ m ≤ 251 := by omega
                have HBAD := fun h => hide (hop.out.trans (opN_bad h6 h))
                have HOKN := fun h => hide (hop.out.trans (opN_ok h6 h))
                rw [← hm] at HBAD HOKN
                have hw1 : IntKind.i64.wrap ((b.length : Int) - (a1 : Int)) = (b.length : Int) - (a1 : Int) := IntWalk.i64_in _ (by omega)
                have hw2 : IntKind.i64.wrap ((m : Int) + 4) = (m : Int) + 4 := IntWalk.i64_in _ (by omega)
                by_cases h7 : (b.drop a1).length < m + 4
                · have he := tkE_short h7
                  have HA := hide (openA_bad ha (HBAD (by rw [he]; decide)).out (by rw [he]; decide))
                  rw [he] at HA
                  rw [List.length_drop] at h7
                  have hd7 : decide ((b.length : Int) - (a1 : Int) < (m : Int) + 4) = true := decide_eq_true (by omega)
                  clear he HBAD HOKN hop hm
                  rcases hcase with ⟨h8, rfl⟩ | ⟨h8, rfl⟩
                  case' inl =>
                    have h8' : decide ((251 : Int) < (n : Int)) = true := decide_eq_true (by omega)
                    simp only [show ((251 : Nat) : Int) = 251 from rfl] at hd7 hw2
                  case' inr => have h8' : decide ((251 : Int) < (m : Int)) = false := decide_eq_false (by omega)
                  all_goals
                    go_wp2_with fail
                    go_ret3
                    rw [HA.out]
                    exact ⟨_, rfl, OwnB.nil_ _ _, hcw⟩
                · have h7l : m + 4 ≤ (b.drop a1).length := by omega
                  rw [List.length_drop] at h7
                  have hd7 : decide ((b.length : Int) - (a1 : Int) < (m : Int) + 4) = false := decide_eq_false (by omega)
                  have hw3 : IntKind.i64.wrap ((a1 : Int) + (m : Int)) = (a1 : Int) + (m : Int) := IntWalk.i64_in _ (by omega)
                  have hw4 : IntKind.i64.wrap ((a1 : Int) + (m : Int) + 4) = (a1 : Int) + (m : Int) + 4 := IntWalk.i64_in _ (by omega)
                  have hw5 : IntKind.i64.wrap ((n : Int) - (m : Int)) = (n : Int) - (m : Int) := IntWalk.i64_in _ (by omega)
                  obtain ⟨s1, hs1, hc1⟩ := run_cut hr (i := a1) (j := a1 + m + 4) (x := (a1 : Int)) (y := (a1 : Int) + (m : Int) + 4) rfl (by omega) (by omega) (by omega)
                  obtain ⟨s2, hs2, hc2⟩ := run_cut hr (i := a1) (j := a1 + m) (x := (a1 : Int)) (y := (a1 : Int) + (m : Int)) rfl (by omega) (by omega) (by omega)
                  rw [show a1 + m + 4 - a1 = m + 4 by omega] at hs1
                  rw [show a1 + m - a1 = m by omega] at hs2
                  have hgood := refGood hs1
                  have hEB := tkE_bad (r := b.drop a1) (n := m) h7l
                  have hEO := tkE_ok (r := b.drop a1) (n := m) h7l
                  obtain ⟨gb, hgb⟩ : ∃ gb, gb = goodB ((b.drop a1).take (m + 4)) := ⟨_, rfl⟩
                  rw [← hgb] at hgood hEB hEO
                  clear hgb hs1
                  cases gb
                  · have he := hEB rfl
                    have HA := hide (openA_bad ha (HBAD (by rw [he]; decide)).out (by rw [he]; decide))
                    rw [he] at HA
                    clear he HBAD HOKN hop hm hEB hEO h7l
                    rcases hcase with ⟨h8, rfl⟩ | ⟨h8, rfl⟩
                    case' inl =>
                      have h8' : decide ((251 : Int) < (n : Int)) = true := decide_eq_true (by omega)
                      simp only [show ((251 : Nat) : Int) = 251 from rfl] at hd7 hw2 hw3 hw4 hw5 hc1 hc2
                    case' inr => have h8' : decide ((251 : Int) < (m : Int)) = false := decide_eq_false (by omega)
                    all_goals
                      go_wp2_with fail
                      refine hgood.mono ?_
                      rintro e w3 ⟨rfl, g3⟩
                      go_wp2_with fail
                      go_ret3
                      rw [HA.out]
                      exact ⟨_, rfl, OwnB.nil_ _ _, hcw.trans0 (Chg.ofQ g3)⟩
                  · have HN := HOKN (hEO rfl)
                    rw [List.drop_drop] at HN
                    have hlen : done.length + ((b.drop a1).take m).length ≤ 140737488355328 := by rw [List.length_take]; omega
                    have hlm : ((b.drop a1).take m).length = m := by rw [List.length_take, List.length_drop]; omega
                    have hsz := hcw.size
                    clear HBAD HOKN hop hm hEB hEO h7l
                    rcases hcase with ⟨h8, rfl⟩ | ⟨h8, rfl⟩
                    case' inl =>
                      have h8' : decide ((251 : Int) < (n : Int)) = true := decide_eq_true (by omega)
                      simp only [show ((251 : Nat) : Int) = 251 from rfl] at hd7 hw2 hw3 hw4 hw5 hc1 hc2
                    case' inr => have h8' : decide ((251 : Int) < (m : Int)) = false := decide_eq_false (by omega)
                    all_goals
                      go_wp2_with fail
                      refine hgood.mono ?_
                      rintro e w3 ⟨rfl, g3⟩
                      have k3 := Chg.ofQ g3
                      have hx3 := hs2.c0 k3
                      have hown3 := hown.chg k3 fun _ _ h => h
                      have hr3 := hr.c0 k3
                      have hcw3 := hcw.trans0 k3
                      have hsz3 := hcw3.size
                      clear hgood hown hr hcw k3 g3 hs2
                      go_wp2_with (at_builtin; refine append_B rfl _ _ rfl hown3 rfl hx3 rfl hlen hsz3 ?_; intro v4 w4 hown4 hg4 hat4)
                      have hrow4 : ∀ k, u8.ownBlock = some k → w.heap.size ≤ k := fun k hk => (hown3.lt k hk).1
                      have hr4 := hr3.chg (Chg.of_grown hg4) fun k hk e => by have := hrow4 k e.symm; have := hk.2; omega
                      have hcw4 := hcw3.own hg4 hrow4
                      go_round
                      case rel => exact ⟨_, _, _, by go_num, by go_num, by omega, by omega, by rw [List.length_append, hlm]; omega, hown4, HN, hr4, hcw4⟩
                      case measure => simp [intOf]; omega
              · obtain rfl : n = 0 := by omega
                have hop2 := hop.out
                rw [opN_zero] at hop2
                have hA := openA_ok ha hop2
                rw [List.length_drop, show (b.length : Int) - ((b.length - a1 : Nat) : Int) = (a1 : Int) by omega] at hA
                have HA := hide hA
                clear hop hop2 hA
                go_wp2_with fail
                go_ret3
                rw [HA.out]
                exact ⟨_, rfl, hown, hcw⟩
end Go.Proofs.Ytijnfjnkjojjnaa
