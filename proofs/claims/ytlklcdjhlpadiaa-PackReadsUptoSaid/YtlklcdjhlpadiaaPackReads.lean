/- PackReads, where what it reads is of bulk at most 1048576: a reader takes from any bytes what stands there, up to the first thing that is wrong, and from then on nothing. -/
import Derived.Test.YtlklcdjhlpadiaaAwake01
import Derived.Test.YtlklcdjhlpadiaaRdr
import Derived.Test.YtlklcdjhlpadiaaRefJ
import Derived.Test.YtlklcdjhlpadiaaOpenI
namespace Go.Proofs.Ytlklcdjhlpadiaa.packReads
open Go.ChangeShapes Go.WideShapes Go.ChangeAt Go.RowKit Go.Deep
open Go.ChangeMaps (open_string shut_string)
set_option linter.unusedVariables false

theorem left_ {F : Nat → Prop} {g a : Nat} {er : Int} {l : List UInt8} {w : World} (h : Rdr w F g l a er) :
    Calls Try.prog 28 #[.pointer (some ⟨g, 0, none⟩)] w fun e w' => e = .returned (.int .i64 ((l.length : Int) - (a : Int))) ∧ ∃ k, w' = w.drewN k := by
  have ha := h.1
  refine (rdrLeft h).mono fun e w' ⟨h1, h2⟩ => ⟨?_, h2⟩
  rw [h1, show ((l.length - a : Nat) : Int) = (l.length : Int) - (a : Int) by omega]
theorem num_ {F : Nat → Prop} {g a : Nat} {er : Int} {l : List UInt8} {w : World} {n a' : Nat} {e' : Int} (h : Rdr w F g l a er) (he : numR l a er = (n, a', e')) :
    Calls Try.prog 24 #[.pointer (some ⟨g, 0, none⟩)] w fun e w' => e = .returned (.int .u64 (n : Int)) ∧ Rdr w' F g l a' e' ∧ Chg (fun k => k = g) w w' := by
  have := rdrNum h
  rw [he] at this
  exact this
theorem text_ {F : Nat → Prop} {g a : Nat} {er : Int} {l : List UInt8} {w : World} {t : List UInt8} {a' : Nat} {e' : Int} (h : Rdr w F g l a er) (hlen : l.length ≤ 140737488355328) (he : textR l a er = (t, a', e')) :
    Calls Try.prog 25 #[.pointer (some ⟨g, 0, none⟩)] w fun e w' => ∃ u, e = .returned u ∧ OwnB w' w.heap.size u t ∧ Rdr w' F g l a' e' ∧ Chg (fun k => k = g) w w' := by
  have := rdrText h hlen
  rw [he] at this
  exact this
theorem flag_ {F : Nat → Prop} {g a : Nat} {er : Int} {l : List UInt8} {w : World} {t : Bool} {a' : Nat} {e' : Int} (h : Rdr w F g l a er) (he : flagR l a er = (t, a', e')) :
    Calls Try.prog 26 #[.pointer (some ⟨g, 0, none⟩)] w fun e w' => e = .returned (.bool t) ∧ Rdr w' F g l a' e' ∧ Chg (fun k => k = g) w w' := by
  have := rdrFlag h
  rw [he] at this
  exact this
theorem chgAt {W w w' : World} {g : Nat} (h : Chg Non W w) (hc : Chg (fun k => k = g) w w') (hg : W.heap.size ≤ g) : Chg Non W w' :=
  h.trans hc fun k hk e => by subst e; exact absurd hk (Nat.not_lt.2 hg)

set_option maxRecDepth 100000 in
set_option maxHeartbeats 4000000 in
theorem walk {W : World} {v0 v1 : Value} {b : List UInt8} {ks : List Int} (hb : RdB W (fun k => k < W.heap.size) v0 b) (h0 : RdI W (fun k => k < W.heap.size) v1 ks)
    (hz : b.length + ks.length ≤ 1048576) :
    Calls Try.prog 5 #[v0, v1] W fun e W' => e = .returned (.bool true) ∧ Chg Non W W' := by
  obtain ⟨A1, c1, rfl, hc1, hm1⟩ := h0.shape
  unfold maxLen at hm1
  have hbl : b.length ≤ 1048576 := by omega
  clear hz
  go_enter Try.func5, Try.ntmps5
  go_wp2_with fail
  refine awake01.mono ?_
  rintro e w1 ⟨rfl, g1⟩
  obtain ⟨m, n, hn, hn8, hmr, hgt⟩ : ∃ (m : List Int) (n : Nat), (m.length ≤ n ∧ n ≤ m.length ∧ m.length ≤ ks.length) ∧ m.length ≤ 200 ∧ RdI w1 (fun k => k < W.heap.size) (.slice A1 n c1) m ∧ ((n = 200 ∧ 200 < ks.length) ∨ (n = ks.length ∧ ¬ 200 < ks.length)) := by
    by_cases h4 : 200 < ks.length
    · exact ⟨ks.take 200, 200, ⟨by simp; omega, by simp; omega, by rw [List.length_take]; omega⟩, by simp; omega, (h0.c0 g1).front (by omega), .inl ⟨rfl, h4⟩⟩
    · exact ⟨ks, ks.length, ⟨Nat.le_refl _, Nat.le_refl _, Nat.le_refl _⟩, by omega, h0.c0 g1, .inr ⟨rfl, h4⟩⟩
  clear h0
  rcases hgt with ⟨rfl, h4⟩ | ⟨rfl, h4⟩
  case' inl => have hdec : decide ((200 : Int) < (ks.length : Int)) = true := decide_eq_true (by omega)
  case' inr => have hdec : decide ((200 : Int) < (ks.length : Int)) = false := decide_eq_false (by omega)
  all_goals
    go_wp2_with fail
    refine (refCopy (hb.c0 g1) (by omega)).mono ?_
    rintro e w2 ⟨bc, rfl, hbc, k2⟩
    have g2 := g1.trans0 k2
    go_wp2_with fail
    refine (packRead hbc.rd (by omega)).mono ?_
    rintro e w3 ⟨g, rfl, hg, hR0, k3⟩
    have g3 := g2.trans0 k3
    have hgW : W.heap.size ≤ g := Nat.le_trans g2.size hg
    have hR3 : Rdr w3 (fun b => W.heap.size ≤ b) g b 0 0 := by
      obtain ⟨x1, x2, x3, x4⟩ := hR0
      exact ⟨x1, x2, x3, x4.mono fun q hq => ⟨Nat.le_trans g2.size hq.1, hq.2⟩⟩
    have hb3 := hb.c0 g3
    have hm3 := (hmr.c0 k2).c0 k3
    clear hbc hR0 g1 g2 k2 k3 hmr hb
    go_wp2_with fail
    go_loopw [6, 7, 29] (fun av ev iv wr => ∃ (i a : Nat) (er : Int), i ≤ m.length ∧ iv = .int .i64 i ∧ av = .int .i64 (a : Int) ∧ ev = .int .i64 er ∧ Rdr wr (fun b => W.heap.size ≤ b) g b a er ∧ RdB wr (fun k => k < W.heap.size) v0 b ∧ RdI wr (fun k => k < W.heap.size) _ m ∧ Chg Non W wr) (fun _ _ iv _ => m.length - (intOf iv).toNat)
    case atStart => exact ⟨0, 0, 0, by omega, rfl, rfl, rfl, hR3, hb3, hm3, g3⟩
    case round =>
      clear hR3 hb3 hm3 g3
      obtain ⟨i, a, er, hi, rfl, rfl, rfl, hR, hb, hm, hcw⟩ := hrel
      by_cases h5 : i < m.length
      · obtain ⟨ad, rfl, hadF, hk⟩ := hm.at_ h5
        obtain ⟨kk, hkk⟩ : ∃ kk, kk = m[i] := ⟨_, rfl⟩
        rw [← hkk] at hk
        have hkd : decide ((i : Int) < 200) = true := decide_eq_true (by omega)
        have hkd2 : decide ((i : Int) < (ks.length : Int)) = true := decide_eq_true (by omega)
        have ha := hR.1
        have hlen8 := fun (w' : World) (ty : TypeId) => run_len8 hb w' ty
        clear hkk
        by_cases hk0 : kk = 0
        · subst hk0
          by_cases he : er = 0
          · subst he
            obtain ⟨n, us, er2, hh⟩ : ∃ n us er2, hd (b.drop a) = (n, us, er2) := ⟨_, _, _, rfl⟩
            have hus := hd_used (b.drop a)
            rw [hh] at hus
            simp only [List.length_drop] at hus
            by_cases he2 : er2 = 0
            · subst he2
              have hu := hus rfl
              have hlt := hd_lt (b.drop a)
              rw [hh] at hlt
              simp only at hlt
              have htk := refTake_ok hb (by omega) ha hh
              have HN := hide (numR_ok hh)
              clear hh hus
              go_wp2_with fail
              refine htk.mono ?_
              rintro e w4 ⟨rfl, c4⟩
              have hR4 := hR.c0 c4
              have hb4 := hb.c0 c4
              have hm4 := hm.c0 c4
              have hcw4 := hcw.trans0 c4
              clear hR hb hm hcw htk c4
              go_wp2_with fail
              refine (num_ hR4 (HN.out)).mono ?_
              rintro e wy ⟨rfl, hR2, hcr⟩
              have hb9 := hb4.chg hcr fun q hq e => by omega
              have hm9 := hm4.chg hcr fun q hq e => by omega
              have hcw9 := chgAt hcw4 hcr hgW
              clear hb4 hm4 hcw4
              go_wp2_with fail
              refine (rdrErr hR2).mono ?_
              rintro e wz ⟨rfl, rfl⟩
              go_wp2_with fail
              refine (left_ hR2).mono ?_
              rintro e w9 ⟨rfl, hq9⟩
              have c9 := (Chg.refl Non wz).quiet hq9
              have hR9 := hR2.c0 c9
              have hbz := hb9.c0 c9
              have hmz := hm9.c0 c9
              have hcz := hcw9.trans0 c9
              clear hR2 hb9 hm9 hcw9 c9 hq9
              rw [show ((a + us : Nat) : Int) = (a : Int) + (us : Int) from rfl]
              go_wp2_with fail
              go_round
              case rel => exact ⟨i + 1, a + us, 0, by omega, by go_num, by go_num, rfl, hR9, hbz, hmz, hcz⟩
              case measure => simp [intOf]; omega
            · have HN := hide (numR_bad hh he2)
              have HT := hide (textR_bad (numR_bad hh he2) he2)
              have htk := refTake_bad hb (by omega) ha hh he2
              have hne : (er2 != 0) = true := by simp [he2]
              have heq : (er2 == 0) = false := beq_eq_false_iff_ne.2 he2
              clear hh he2 hus
              go_wp2_with fail
              refine htk.mono ?_
              rintro e w4 ⟨rfl, c4⟩
              have hR4 := hR.c0 c4
              have hb4 := hb.c0 c4
              have hm4 := hm.c0 c4
              have hcw4 := hcw.trans0 c4
              clear hR hb hm hcw htk c4
              go_wp2_with fail
              refine (num_ hR4 (HN.out)).mono ?_
              rintro e wy ⟨rfl, hR2, hcr⟩
              have hb9 := hb4.chg hcr fun q hq e => by omega
              have hm9 := hm4.chg hcr fun q hq e => by omega
              have hcw9 := chgAt hcw4 hcr hgW
              clear hb4 hm4 hcw4
              go_wp2_with fail
              refine (rdrErr hR2).mono ?_
              rintro e wz ⟨rfl, rfl⟩
              go_wp2_with fail
              refine (left_ hR2).mono ?_
              rintro e w9 ⟨rfl, hq9⟩
              have c9 := (Chg.refl Non wz).quiet hq9
              have hR9 := hR2.c0 c9
              have hbz := hb9.c0 c9
              have hmz := hm9.c0 c9
              have hcz := hcw9.trans0 c9
              clear hR2 hb9 hm9 hcw9 c9 hq9
              go_wp2_with fail
              go_round
              case rel => exact ⟨i + 1, a, er2, by omega, by go_num, rfl, rfl, hR9, hbz, hmz, hcz⟩
              case measure => simp [intOf]; omega
          · have hne : (er != 0) = true := by simp [he]
            have heq : (er == 0) = false := beq_eq_false_iff_ne.2 he
            have HN := hide (numR_err (l := b) (a := a) he)
            have HT := hide (textR_bad (numR_err (l := b) (a := a) he) he)
            clear he
            go_wp2_with fail
            refine (num_ hR (HN.out)).mono ?_
            rintro e wy ⟨rfl, hR2, hcr⟩
            have hb9 := hb.chg hcr fun q hq e => by omega
            have hm9 := hm.chg hcr fun q hq e => by omega
            have hcw9 := chgAt hcw hcr hgW
            clear hb hm hcw
            go_wp2_with fail
            refine (rdrErr hR2).mono ?_
            rintro e wz ⟨rfl, rfl⟩
            go_wp2_with fail
            refine (left_ hR2).mono ?_
            rintro e w9 ⟨rfl, hq9⟩
            have c9 := (Chg.refl Non wz).quiet hq9
            have hR9 := hR2.c0 c9
            have hbz := hb9.c0 c9
            have hmz := hm9.c0 c9
            have hcz := hcw9.trans0 c9
            clear hR2 hb9 hm9 hcw9 c9 hq9
            go_wp2_with fail
            go_round
            case rel => exact ⟨i + 1, a, er, by omega, by go_num, rfl, rfl, hR9, hbz, hmz, hcz⟩
            case measure => simp [intOf]; omega
        · have n0 : (kk == 0) = false := beq_eq_false_iff_ne.2 hk0
          by_cases hk1 : kk = 1
          · subst hk1
            clear n0 hk0
            by_cases he : er = 0
            · subst he
              obtain ⟨n, us, er2, hh⟩ : ∃ n us er2, hd (b.drop a) = (n, us, er2) := ⟨_, _, _, rfl⟩
              have hus := hd_used (b.drop a)
              rw [hh] at hus
              simp only [List.length_drop] at hus
              by_cases he2 : er2 = 0
              · subst he2
                by_cases h7 : b.length - (a + us) < n
                · have hu := hus rfl
                  have hlt := hd_lt (b.drop a)
                  rw [hh] at hlt
                  simp only at hlt
                  have htk := refTake_ok hb (by omega) ha hh
                  have hw : IntKind.u64.wrap ((b.length : Int) - ((a : Int) + (us : Int))) = (b.length : Int) - ((a : Int) + (us : Int)) := by rw [IntKind.wrap_u64]; omega
                  have hd : decide ((b.length : Int) - ((a : Int) + (us : Int)) < (n : Int)) = true := decide_eq_true (by omega)
                  have HT := hide (textR_end (numR_ok hh) h7)
                  clear hh hus
                  go_wp2_with fail
                  refine htk.mono ?_
                  rintro e w4 ⟨rfl, c4⟩
                  have hR4 := hR.c0 c4
                  have hb4 := hb.c0 c4
                  have hm4 := hm.c0 c4
                  have hcw4 := hcw.trans0 c4
                  clear hR hb hm hcw htk c4
                  go_wp2_with fail
                  refine (text_ hR4 (by omega) (HT.out)).mono ?_
                  rintro e wt ⟨tu, rfl, htu, hRt, hct⟩
                  go_wp2_with fail
                  refine (refEqual_true htu.rd (RdB.nil_ wt (fun _ => False))).mono ?_
                  rintro e wy ⟨rfl, hqy⟩
                  have cy := (Chg.refl Non wt).quiet hqy
                  have hR2 := hRt.c0 cy
                  have hcr := hct.trans0 cy
                  clear htu hRt hct cy hqy
                  have hb9 := hb4.chg hcr fun q hq e => by omega
                  have hm9 := hm4.chg hcr fun q hq e => by omega
                  have hcw9 := chgAt hcw4 hcr hgW
                  clear hb4 hm4 hcw4
                  go_wp2_with fail
                  refine (rdrErr hR2).mono ?_
                  rintro e wz ⟨rfl, rfl⟩
                  go_wp2_with fail
                  refine (left_ hR2).mono ?_
                  rintro e w9 ⟨rfl, hq9⟩
                  have c9 := (Chg.refl Non wz).quiet hq9
                  have hR9 := hR2.c0 c9
                  have hbz := hb9.c0 c9
                  have hmz := hm9.c0 c9
                  have hcz := hcw9.trans0 c9
                  clear hR2 hb9 hm9 hcw9 c9 hq9
                  go_wp2_with fail
                  go_round
                  case rel => exact ⟨i + 1, a, 5, by omega, by go_num, rfl, rfl, hR9, hbz, hmz, hcz⟩
                  case measure => simp [intOf]; omega
                · have hu := hus rfl
                  have hlt := hd_lt (b.drop a)
                  rw [hh] at hlt
                  simp only at hlt
                  have htk := refTake_ok hb (by omega) ha hh
                  have hw : IntKind.u64.wrap ((b.length : Int) - ((a : Int) + (us : Int))) = (b.length : Int) - ((a : Int) + (us : Int)) := by rw [IntKind.wrap_u64]; omega
                  have hd : decide ((b.length : Int) - ((a : Int) + (us : Int)) < (n : Int)) = false := decide_eq_false (by omega)
                  have hwn : IntKind.i64.wrap (n : Int) = (n : Int) := IntWalk.i64_in _ (by omega)
                  have HT := hide (textR_ok (numR_ok hh) h7)
                  obtain ⟨sv, hsv, hcut⟩ := run_cut hb (i := a + us) (j := a + us + n) (x := (a : Int) + (us : Int)) (y := (a : Int) + (us : Int) + (n : Int)) (by omega) (by omega) (by omega) (by omega)
                  rw [show a + us + n - (a + us) = n by omega] at hsv
                  clear hh hus
                  go_wp2_with fail
                  refine htk.mono ?_
                  rintro e w4 ⟨rfl, c4⟩
                  have hR4 := hR.c0 c4
                  have hb4 := hb.c0 c4
                  have hm4 := hm.c0 c4
                  have hsv4 := hsv.c0 c4
                  have hcw4 := hcw.trans0 c4
                  clear hR hb hm hcw htk c4 hsv
                  go_wp2_with fail
                  refine (text_ hR4 (by omega) (HT.out)).mono ?_
                  rintro e wt ⟨tu, rfl, htu, hRt, hct⟩
                  go_wp2_with fail
                  refine (refEqual_true htu.rd (hsv4.chg hct fun q hq e => by omega)).mono ?_
                  rintro e wy ⟨rfl, hqy⟩
                  have cy := (Chg.refl Non wt).quiet hqy
                  have hR2 := hRt.c0 cy
                  have hcr := hct.trans0 cy
                  clear htu hRt hct cy hqy
                  have hb9 := hb4.chg hcr fun q hq e => by omega
                  have hm9 := hm4.chg hcr fun q hq e => by omega
                  have hcw9 := chgAt hcw4 hcr hgW
                  clear hb4 hm4 hcw4
                  go_wp2_with fail
                  refine (rdrErr hR2).mono ?_
                  rintro e wz ⟨rfl, rfl⟩
                  go_wp2_with fail
                  refine (left_ hR2).mono ?_
                  rintro e w9 ⟨rfl, hq9⟩
                  have c9 := (Chg.refl Non wz).quiet hq9
                  have hR9 := hR2.c0 c9
                  have hbz := hb9.c0 c9
                  have hmz := hm9.c0 c9
                  have hcz := hcw9.trans0 c9
                  clear hR2 hb9 hm9 hcw9 c9 hq9
                  go_wp2_with fail
                  go_round
                  case rel => exact ⟨i + 1, a + us + n, 0, by omega, by go_num, by go_num, rfl, hR9, hbz, hmz, hcz⟩
                  case measure => simp [intOf]; omega
              · have HN := hide (numR_bad hh he2)
                have HT := hide (textR_bad (numR_bad hh he2) he2)
                have htk := refTake_bad hb (by omega) ha hh he2
                have hne : (er2 != 0) = true := by simp [he2]
                have heq : (er2 == 0) = false := beq_eq_false_iff_ne.2 he2
                clear hh he2 hus
                go_wp2_with fail
                refine htk.mono ?_
                rintro e w4 ⟨rfl, c4⟩
                have hR4 := hR.c0 c4
                have hb4 := hb.c0 c4
                have hm4 := hm.c0 c4
                have hcw4 := hcw.trans0 c4
                clear hR hb hm hcw htk c4
                go_wp2_with fail
                refine (text_ hR4 (by omega) (HT.out)).mono ?_
                rintro e wt ⟨tu, rfl, htu, hRt, hct⟩
                go_wp2_with fail
                refine (refEqual_true htu.rd (RdB.nil_ wt (fun _ => False))).mono ?_
                rintro e wy ⟨rfl, hqy⟩
                have cy := (Chg.refl Non wt).quiet hqy
                have hR2 := hRt.c0 cy
                have hcr := hct.trans0 cy
                clear htu hRt hct cy hqy
                have hb9 := hb4.chg hcr fun q hq e => by omega
                have hm9 := hm4.chg hcr fun q hq e => by omega
                have hcw9 := chgAt hcw4 hcr hgW
                clear hb4 hm4 hcw4
                go_wp2_with fail
                refine (rdrErr hR2).mono ?_
                rintro e wz ⟨rfl, rfl⟩
                go_wp2_with fail
                refine (left_ hR2).mono ?_
                rintro e w9 ⟨rfl, hq9⟩
                have c9 := (Chg.refl Non wz).quiet hq9
                have hR9 := hR2.c0 c9
                have hbz := hb9.c0 c9
                have hmz := hm9.c0 c9
                have hcz := hcw9.trans0 c9
                clear hR2 hb9 hm9 hcw9 c9 hq9
                go_wp2_with fail
                go_round
                case rel => exact ⟨i + 1, a, er2, by omega, by go_num, rfl, rfl, hR9, hbz, hmz, hcz⟩
                case measure => simp [intOf]; omega
            · have hne : (er != 0) = true := by simp [he]
              have heq : (er == 0) = false := beq_eq_false_iff_ne.2 he
              have HN := hide (numR_err (l := b) (a := a) he)
              have HT := hide (textR_bad (numR_err (l := b) (a := a) he) he)
              clear he
              go_wp2_with fail
              refine (text_ hR (by omega) (HT.out)).mono ?_
              rintro e wt ⟨tu, rfl, htu, hRt, hct⟩
              go_wp2_with fail
              refine (refEqual_true htu.rd (RdB.nil_ wt (fun _ => False))).mono ?_
              rintro e wy ⟨rfl, hqy⟩
              have cy := (Chg.refl Non wt).quiet hqy
              have hR2 := hRt.c0 cy
              have hcr := hct.trans0 cy
              clear htu hRt hct cy hqy
              have hb9 := hb.chg hcr fun q hq e => by omega
              have hm9 := hm.chg hcr fun q hq e => by omega
              have hcw9 := chgAt hcw hcr hgW
              clear hb hm hcw
              go_wp2_with fail
              refine (rdrErr hR2).mono ?_
              rintro e wz ⟨rfl, rfl⟩
              go_wp2_with fail
              refine (left_ hR2).mono ?_
              rintro e w9 ⟨rfl, hq9⟩
              have c9 := (Chg.refl Non wz).quiet hq9
              have hR9 := hR2.c0 c9
              have hbz := hb9.c0 c9
              have hmz := hm9.c0 c9
              have hcz := hcw9.trans0 c9
              clear hR2 hb9 hm9 hcw9 c9 hq9
              go_wp2_with fail
              go_round
              case rel => exact ⟨i + 1, a, er, by omega, by go_num, rfl, rfl, hR9, hbz, hmz, hcz⟩
              case measure => simp [intOf]; omega
          · have n1 : (kk == 1) = false := beq_eq_false_iff_ne.2 hk1
            clear hk0 hk1
            by_cases he : er = 0
            · subst he
              by_cases h6 : a < b.length
              · obtain ⟨y, hy⟩ : ∃ y, y = b[a] := ⟨_, rfl⟩
                have HD := hide (show b.drop a = y :: b.drop (a + 1) by rw [hy, List.drop_eq_getElem_cons h6])
                obtain ⟨B0, cb0, hv0, hcb0, hmb0⟩ := hb.shape
                subst hv0
                unfold maxLen at hmb0
                obtain ⟨bd, rfl, hf, hcell⟩ := hb.at_ h6
                rw [← hy] at hcell
                have hyl := y.toNat_lt
                have heq2 : ((a : Int) == (b.length : Int)) = false := beq_eq_false_iff_ne.2 (by omega)
                clear hy
                by_cases h7 : 1 < y.toNat
                · have HF := hide (show flagR b a 0 = (false, a, 3) by rw [flagR, if_neg (by simp), HD.out]; simp [h7])
                  go_wp2_with fail
                  refine (flag_ hR HF.out).mono ?_
                  rintro e wy ⟨rfl, hR2, hcr⟩
                  have hb9 := hb.chg hcr fun q hq e => by omega
                  have hm9 := hm.chg hcr fun q hq e => by omega
                  have hcw9 := chgAt hcw hcr hgW
                  clear hb hm hcw
                  go_wp2_with fail
                  refine (rdrErr hR2).mono ?_
                  rintro e wz ⟨rfl, rfl⟩
                  go_wp2_with fail
                  refine (left_ hR2).mono ?_
                  rintro e w9 ⟨rfl, hq9⟩
                  have c9 := (Chg.refl Non wz).quiet hq9
                  have hR9 := hR2.c0 c9
                  have hbz := hb9.c0 c9
                  have hmz := hm9.c0 c9
                  have hcz := hcw9.trans0 c9
                  clear hR2 hb9 hm9 hcw9 c9 hq9
                  go_wp2_with fail
                  go_round
                  case rel => exact ⟨i + 1, a, 3, by omega, by go_num, rfl, rfl, hR9, hbz, hmz, hcz⟩
                  case measure => simp [intOf]; omega
                · have HF := hide (show flagR b a 0 = (y == 1, a + 1, 0) by rw [flagR, if_neg (by simp), HD.out]; simp [h7])
                  have hy1 := beq_u8_one y
                  have hwa : IntKind.i64.wrap ((a : Int) + 1) = (a : Int) + 1 := IntWalk.i64_in _ (by omega)
                  go_wp2_with fail
                  refine (flag_ hR HF.out).mono ?_
                  rintro e wy ⟨rfl, hR2, hcr⟩
                  have hb9 := hb.chg hcr fun q hq e => by omega
                  have hm9 := hm.chg hcr fun q hq e => by omega
                  have hcw9 := chgAt hcw hcr hgW
                  clear hb hm hcw
                  go_wp2_with fail
                  refine (rdrErr hR2).mono ?_
                  rintro e wz ⟨rfl, rfl⟩
                  go_wp2_with fail
                  refine (left_ hR2).mono ?_
                  rintro e w9 ⟨rfl, hq9⟩
                  have c9 := (Chg.refl Non wz).quiet hq9
                  have hR9 := hR2.c0 c9
                  have hbz := hb9.c0 c9
                  have hmz := hm9.c0 c9
                  have hcz := hcw9.trans0 c9
                  clear hR2 hb9 hm9 hcw9 c9 hq9
                  go_wp2_with fail
                  go_round
                  case rel => exact ⟨i + 1, a + 1, 0, by omega, by go_num, by go_num, rfl, hR9, hbz, hmz, hcz⟩
                  case measure => simp [intOf]; omega
              · have hae : (a : Int) = (b.length : Int) := by omega
                have HF := hide (show flagR b a 0 = (false, a, 5) by rw [flagR, if_neg (by simp), List.drop_of_length_le (by omega)])
                have heq2 : ((a : Int) == (b.length : Int)) = true := by rw [beq_iff_eq]; exact hae
                clear hae h6
                go_wp2_with fail
                refine (flag_ hR HF.out).mono ?_
                rintro e wy ⟨rfl, hR2, hcr⟩
                have hb9 := hb.chg hcr fun q hq e => by omega
                have hm9 := hm.chg hcr fun q hq e => by omega
                have hcw9 := chgAt hcw hcr hgW
                clear hb hm hcw
                go_wp2_with fail
                refine (rdrErr hR2).mono ?_
                rintro e wz ⟨rfl, rfl⟩
                go_wp2_with fail
                refine (left_ hR2).mono ?_
                rintro e w9 ⟨rfl, hq9⟩
                have c9 := (Chg.refl Non wz).quiet hq9
                have hR9 := hR2.c0 c9
                have hbz := hb9.c0 c9
                have hmz := hm9.c0 c9
                have hcz := hcw9.trans0 c9
                clear hR2 hb9 hm9 hcw9 c9 hq9
                go_wp2_with fail
                go_round
                case rel => exact ⟨i + 1, a, 5, by omega, by go_num, rfl, rfl, hR9, hbz, hmz, hcz⟩
                case measure => simp [intOf]; omega
            · have hne : (er != 0) = true := by simp [he]
              have heq : (er == 0) = false := beq_eq_false_iff_ne.2 he
              have HF := hide (show flagR b a er = (false, a, er) by rw [flagR, if_pos he])
              clear he
              go_wp2_with fail
              refine (flag_ hR HF.out).mono ?_
              rintro e wy ⟨rfl, hR2, hcr⟩
              have hb9 := hb.chg hcr fun q hq e => by omega
              have hm9 := hm.chg hcr fun q hq e => by omega
              have hcw9 := chgAt hcw hcr hgW
              clear hb hm hcw
              go_wp2_with fail
              refine (rdrErr hR2).mono ?_
              rintro e wz ⟨rfl, rfl⟩
              go_wp2_with fail
              refine (left_ hR2).mono ?_
              rintro e w9 ⟨rfl, hq9⟩
              have c9 := (Chg.refl Non wz).quiet hq9
              have hR9 := hR2.c0 c9
              have hbz := hb9.c0 c9
              have hmz := hm9.c0 c9
              have hcz := hcw9.trans0 c9
              clear hR2 hb9 hm9 hcw9 c9 hq9
              go_wp2_with fail
              go_round
              case rel => exact ⟨i + 1, a, er, by omega, by go_num, rfl, rfl, hR9, hbz, hmz, hcz⟩
              case measure => simp [intOf]; omega
      · have hkd1 : 200 ≤ m.length → decide ((i : Int) < 200) = false := fun h => decide_eq_false (by omega)
        have hkd2 : ks.length ≤ m.length → decide ((i : Int) < (ks.length : Int)) = false := fun h => decide_eq_false (by omega)
        first
          | have hkd3 := hkd1 hn.2.1
          | have hkd3 := hkd2 hn.2.1
        try have hkn1 : ¬ i < 200 := by have := hn.2.1; omega
        try have hkn2 : ¬ i < ks.length := by have := hn.2.1; omega
        clear hkd1 hkd2 hm
        have hzr : ∀ w4 : World, Blk w4 wr.heap.size 46 #[.slice none 0 0, .int .i64 0, .int .i64 0] → Rdr w4 (fun _ => True) wr.heap.size [] 0 0 := fun w4 h => ⟨Nat.le_refl _, _, h, RdB.nil_ _ _⟩
        have hlen8 := fun (w' : World) (ty : TypeId) => run_len8 hb w' ty
        have ha := hR.1
        have hgz : W.heap.size ≤ wr.heap.size := hcw.size
        have hblk := Blk.new wr 46 #[.slice none 0 0, .int .i64 0, .int .i64 0]
        have hR4 := hR.c0 ((Chg.refl Non wr).alloc (.cells #[.slice none 0 0, .int .i64 0, .int .i64 0] 46))
        have hcw4 := hcw.alloc (.cells #[.slice none 0 0, .int .i64 0, .int .i64 0] 46)
        obtain ⟨cl, hcl, hcases⟩ : ∃ cl : Int, cl = closeR b a er ∧ ((er ≠ 0 ∧ cl = er) ∨ (er = 0 ∧ a < b.length ∧ cl = 3) ∨ (er = 0 ∧ ¬ a < b.length ∧ cl = 0)) := by
          refine ⟨_, rfl, ?_⟩
          by_cases he : er = 0
          · subst he
            by_cases hl : a < b.length
            · exact .inr (.inl ⟨rfl, hl, by rw [closeR, if_pos ⟨rfl, by omega⟩]⟩)
            · exact .inr (.inr ⟨rfl, hl, by rw [closeR, if_neg (by omega)]⟩)
          · exact .inl ⟨he, by rw [closeR, if_neg (fun h => he h.1)]⟩
        have hclose := rdrClose hR4
        rw [← hcl] at hclose
        clear hcl hR hcw hb
        rcases hcases with ⟨he, rfl⟩ | ⟨rfl, hl, rfl⟩ | ⟨rfl, hl, rfl⟩
        case' inl =>
          have hne : (cl != 0) = true := by simp [he]
          have heq : (cl == 0) = false := beq_eq_false_iff_ne.2 he
          clear he
        case' inr.inl => have hdl : decide ((a : Int) < (b.length : Int)) = true := decide_eq_true (by omega)
        case' inr.inr => have hdl : decide ((a : Int) < (b.length : Int)) = false := decide_eq_false (by omega)
        all_goals
          go_wp2_with fail
          refine hclose.mono ?_
          rintro e w5 ⟨rfl, hq5⟩
          have c5 := (Chg.refl Non _).quiet hq5
          have hz5 := hzr w5 (hblk.c0 c5)
          have hcw5 := hcw4.trans0 c5
          clear hclose hq5 c5 hblk hcw4 hR4
          go_wp2_with fail
          refine (rdrLeft hz5).mono ?_
          rintro e w6 ⟨rfl, hq6⟩
          have c6 := (Chg.refl Non _).quiet hq6
          have hz6 := hz5.c0 c6
          have hcw6 := hcw5.trans0 c6
          clear hq6 c6 hz5 hcw5
          go_wp2_with fail
          refine (num_ hz6 (show numR [] 0 0 = (0, 0, 5) from rfl)).mono ?_
          rintro e w7 ⟨rfl, hz7, c7⟩
          have hcw7 := chgAt hcw6 c7 hgz
          clear hz6 hcw6 c7
          go_wp2_with fail
          refine (rdrErr hz7).mono ?_
          rintro e w8 ⟨rfl, rfl⟩
          go_wp2_with fail
          go_ret
          exact ⟨rfl, hcw7⟩

set_option maxRecDepth 100000 in
theorem contract (H : Type) (enc : TypeId × Value → H) (W : World) (base : Nat) (args : Array Value) (ds gs : List (DataW H)) (before : List MemPlace)
    (hval : ∀ (j : Nat) t v, Try.f5.params[j]? = some t → args[j]? = some v → Value.okWide Try.prog W .any base t v)
    (hW : DataW.Whole enc Try.prog Try.f5.params.toList Rows.packReadsSpec.vars false W args.toList ds gs before) (hk : Rows.uptoSmall H (ds ++ gs) = true) :
    Calls Try.prog 5 args W fun e W' => ∃ v, e = .returned v ∧ Rows.packReadsSpec.post enc Try.prog Try.f5 false true false false W args v W' := by
  have hW' := hW
  obtain ⟨p, q, hA0, hV, rfl, hfz, hnd⟩ := hW
  have hA : DataW.TrodAll enc Try.prog W 0 (fun _ => true) true Try.f5.params.toList args.toList ds p := hA0
  rw [Try.params5] at hA hval
  obtain ⟨v0, vs0, d0, ds0, p0, q0, hargs, rfl, rfl, h0, r0⟩ := trodAll_cons hA
  obtain ⟨v1, vs1, d1, ds1, p1, q1, rfl, rfl, rfl, h1, r1⟩ := trodAll_cons r0
  obtain ⟨rfl, rfl, rfl⟩ := trodAll_nil r1
  obtain rfl : args = #[v0, v1] := by cases args; simp_all
  obtain ⟨rfl, rfl⟩ := trodVars_none hV
  have k0 := h0
  have lt0 : ∀ x ∈ p0, x.block < W.heap.size := by obtain ⟨m, hm⟩ := k0; exact DataW.trod_lt m _ _ _ hm
  obtain ⟨l0, w0, z0⟩ := openB (hval 0 22 v0 rfl rfl) h0
  have k1 := h1
  have lt1 : ∀ x ∈ p1, x.block < W.heap.size := by obtain ⟨m, hm⟩ := k1; exact DataW.trod_lt m _ _ _ hm
  obtain ⟨l1, w1, z1⟩ := openI (hval 1 38 v1 rfl rfl) h1
  have hb := of_decide_eq_true hk
  simp only [List.append_nil, Rows.uptoBulkAll] at hb
  have z01 := z0.1
  have z11 := z1.1
  refine (walk w0 w1 (by omega)).mono fun e W' ⟨he, bel0⟩ => ?_
  have bel := bel0.below
  subst he
  exact ⟨_, rfl, _, _, _, [], _, [], hW', trodAll_mk1 (shut_bool Try.underlying4 _), (trodAll_cons_mk (Below.trod laidOut (by kernel_rfl) (of_decide_eq_true (by kernel_rfl)) k0 bel lt0) (trodAll_cons_mk (Below.trod laidOut (by kernel_rfl) (of_decide_eq_true (by kernel_rfl)) k1 bel lt1) trodAll_mk0)), rfl, bel.frame _, fun h => by cases h⟩

set_option maxRecDepth 100000 in
theorem lifted (os : Os) (started : os.Started) (H : Type) (enc : TypeId × Value → H) (F : Stop.Interp) :
    ReturnsInHanded {} Try.checked os 5 .any ((Rows.OpenSpec.upto Rows.packReadsSpec).pre6 enc Try.prog Try.f5 Rows.packReadsUptoRow.domain false) (((Rows.OpenSpec.upto Rows.packReadsSpec).at F).post enc Try.prog Try.f5 false true false false) := by
  refine returnsInHanded_of_cond (C := Try.checked) (s := Rows.OpenSpec.upto Rows.packReadsSpec) (k := Rows.uptoSmall) rfl own started (by kernel_rfl) Try.func5
    (OpenSpec.witness (enc := enc) (C := Try.checked) (s := Rows.OpenSpec.upto Rows.packReadsSpec) (k := Rows.uptoSmall) rfl false ⟨#[], #[.slice none 0 0, .slice none 0 0], []⟩ 8 (by kernel_rfl) (by kernel_rfl) (by kernel_rfl)
      (x := ([.nil, .nil], [], [])) (by kernel_rfl) rfl (by kernel_rfl)) ?_
  intro W base args ds gs before hval hW _ hk _
  exact contract H enc W base args ds gs before hval hW hk

theorem over : Rows.packReadsUptoRow.holds Try.pinned (Rows.OpenSpec.upto Rows.packReadsSpec) :=
  OpenClaim.holds_of_cond 5 Try.f5 rfl rfl rfl rfl rfl rfl rfl ⟨rfl, rfl, rfl, rfl, rfl⟩ rfl rfl rfl rfl rfl (by kernel_rfl) Try.func5 (by kernel_rfl)
    (of_decide_eq_true (by kernel_rfl)) (by unfold Func.isWrapper; first | (rw [if_pos (by decide +kernel)]; kernel_rfl) | (rw [if_neg (by decide +kernel)]; exact ⟨rfl, rfl⟩))
    (fun os started H enc _ F => lifted os started H enc F)

theorem proved : Rows.PackReadsUptoSaid := over
end Go.Proofs.Ytlklcdjhlpadiaa.packReads
