/- The walks of the document's Check of a node, and Same of two leaves. -/
import Derived.Test.YtfgecgmgbngeaaaGreatLfJ
import Derived.Test.YtfgecgmgbngeaaaGreatRefM
import Derived.Test.YtfgecgmgbngeaaaGreatOpenM
set_option maxRecDepth 100000
namespace Go.Proofs.YtfgecgmgbngeaaaGreat
open Go.RowKit
set_option linter.unusedVariables false
set_option linter.unusedSimpArgs false

/-- what Check tells of a leaf -/
structure ChkL (ks vs : List (List UInt8)) (nk : Nat) : Prop where
  k : ∀ x ∈ ks, x.length ≤ 64
  v : ∀ x ∈ vs, x.length ≤ 128
  up : UpK ks
  e : vs.length = ks.length
  z : nk = 0
set_option maxHeartbeats 8000000 in
theorem refCheckN {w : World} {F : Nat → Prop} {lf : Bool} {KA VA NA : Option Addr} {kn kc vn vc nn nc : Nat} {ks vs : List (List UInt8)} {ns : List Int} (hk : RdBB w F (.slice KA kn kc) ks) (hv : RdBB w F (.slice VA vn vc) vs) (hn : RdI w F (.slice NA nn nc) ns) :
    Calls Tryz.prog 4 #[.agg #[.bool lf, .slice KA kn kc, .slice VA vn vc, .slice NA nn nc]] w fun e w' => ∃ c : Int, e = .returned (.int .i64 c) ∧ (c = 0 → lf = true → ChkL ks vs ns.length) ∧ Chg Non w w' := by
  obtain ⟨_, _, ek, hkc, hkm⟩ := hk.shape
  injection ek with e1 e2 e3
  subst e1; subst e2; subst e3
  obtain ⟨_, _, ev, hvc, hvm⟩ := hv.shape
  injection ev with e1 e2 e3
  subst e1; subst e2; subst e3
  obtain ⟨_, _, en, hnc, hnm⟩ := hn.shape
  injection en with e1 e2 e3
  subst e1; subst e2; subst e3
  unfold maxLen at hkm hvm hnm
  have hb := Blk.new w 25 #[.bool lf, .slice KA ks.length kc, .slice VA vs.length vc, .slice NA ns.length nc]
  have hcb := (Chg.refl Non w).alloc (.cells #[.bool lf, .slice KA ks.length kc, .slice VA vs.length vc, .slice NA ns.length nc] 25)
  go_enter Tryz.func4, Tryz.ntmps4
  go_upto_region 1 with fail
  obtain ⟨b, hbe⟩ : ∃ b, b = w.heap.size := ⟨_, rfl⟩
  rw [← hbe] at hb ⊢
  generalize World.alloc _ _ = w1 at hb hcb ⊢
  have HK := hide (hk.c0 hcb)
  have HV := hide (hv.c0 hcb)
  have HN := hide (hn.c0 hcb)
  have HC := hide hcb
  have HB := hide hb
  have b0 : w1.cell? ⟨b, 0, none⟩ = some (.bool lf) := hb.cell 0
  have b1 : w1.cell? ⟨b, 1, none⟩ = some (.slice KA ks.length kc) := hb.cell 1
  have b2 : w1.cell? ⟨b, 2, none⟩ = some (.slice VA vs.length vc) := hb.cell 2
  have b3 : w1.cell? ⟨b, 3, none⟩ = some (.slice NA ns.length nc) := hb.cell 3
  clear hb hcb hk hv hn hbe
  go_wp2_with fail
  go_loopw [3] (fun iv wr => ∃ i : Nat, i ≤ ks.length ∧ iv = .int .i64 (i : Int) ∧ Hid (∀ x ∈ ks.take i, x.length ≤ 64) ∧ wr = w1) (fun iv _ => ks.length - (intOf iv).toNat)
  case atStart => exact ⟨0, Nat.zero_le _, rfl, hide (fun x hx => by simp at hx), rfl⟩
  case round =>
    obtain ⟨i, hi, rfl, h64, hw⟩ := hrel
    subst wr
    by_cases hil : i < ks.length
    · obtain ⟨ad, x, eA, _, hx, hrx⟩ := HK.out.at_ hil
      subst eA
      have hlen := fun w' ty => run_len8 hrx w' ty
      obtain ⟨L, hL⟩ : ∃ L, L = ks[i].length := ⟨_, rfl⟩
      rw [← hL] at hlen
      have HIL := hide hil
      by_cases h9 : 64 < L
      · have hd : decide ((64 : Int) < (L : Int)) = true := decide_eq_true (by omega)
        clear hL hrx
        go_wp2_with fail
        go_ret
        exact ⟨2, rfl, fun h => by omega, HC.out⟩
      · have hd : decide ((64 : Int) < (L : Int)) = false := decide_eq_false (by omega)
        have h64' := hide (show ∀ y ∈ ks.take (i + 1), y.length ≤ 64 from fun y hy => by
          rw [List.take_succ_eq_append_getElem hil] at hy
          rcases List.mem_append.1 hy with hy | hy
          · exact h64.out y hy
          · rw [List.mem_singleton.1 hy]; omega)
        clear hL hrx
        go_wp2_with fail
        go_roundw
        case rel => exact ⟨i + 1, HIL.out, by go_num, h64', trivial⟩
        case measure => (have := HIL.out; simp [intOf]; omega)
    · have hik : i = ks.length := by omega
      subst hik
      rw [List.take_length] at h64
      clear hi
      go_wp2_with fail
      go_loopw [4] (fun iv wr => ∃ i : Nat, i ≤ vs.length ∧ iv = .int .i64 (i : Int) ∧ Hid (∀ x ∈ vs.take i, x.length ≤ 128) ∧ wr = w1) (fun iv _ => vs.length - (intOf iv).toNat)
      case atStart => exact ⟨0, Nat.zero_le _, rfl, hide (fun x hx => by simp at hx), rfl⟩
      case round =>
        obtain ⟨i, hi, rfl, h128, hw⟩ := hrel
        subst wr
        by_cases hil : i < vs.length
        · obtain ⟨ad, x, eA, _, hx, hrx⟩ := HV.out.at_ hil
          subst eA
          have hlen := fun w' ty => run_len8 hrx w' ty
          obtain ⟨L, hL⟩ : ∃ L, L = vs[i].length := ⟨_, rfl⟩
          rw [← hL] at hlen
          have HIL := hide hil
          by_cases h9 : 128 < L
          · have hd : decide ((128 : Int) < (L : Int)) = true := decide_eq_true (by omega)
            clear hL hrx
            go_wp2_with fail
            go_ret
            exact ⟨2, rfl, fun h => by omega, HC.out⟩
          · have hd : decide ((128 : Int) < (L : Int)) = false := decide_eq_false (by omega)
            have h128' := hide (show ∀ y ∈ vs.take (i + 1), y.length ≤ 128 from fun y hy => by
              rw [List.take_succ_eq_append_getElem hil] at hy
              rcases List.mem_append.1 hy with hy | hy
              · exact h128.out y hy
              · rw [List.mem_singleton.1 hy]; omega)
            clear hL hrx
            go_wp2_with fail
            go_roundw
            case rel => exact ⟨i + 1, HIL.out, by go_num, h128', trivial⟩
            case measure => (have := HIL.out; simp [intOf]; omega)
        · have hik : i = vs.length := by omega
          subst hik
          rw [List.take_length] at h128
          clear hi
          go_wp2_with fail
          go_loopw [5] (fun iv wr => ∃ i : Nat, 1 ≤ i ∧ (i ≤ ks.length ∨ i = 1) ∧ iv = .int .i64 (i : Int) ∧ Hid (∀ (j : Nat) (p q : List UInt8), ks[j]? = some p → ks[j + 1]? = some q → j + 1 < i → cmpB p q < 0) ∧ Chg Non w1 wr) (fun iv _ => ks.length - (intOf iv).toNat)
          case atStart => exact ⟨1, Nat.le_refl _, .inr rfl, rfl, hide (fun j p q _ _ h => by omega), Chg.refl _ _⟩
          case round =>
            clear b0 b1 b2 b3
            obtain ⟨i, h1i, hi, rfl, hup, hcq⟩ := hrel
            have hb := HB.out.c0 hcq
            have b0 : wr.cell? ⟨b, 0, none⟩ = some (.bool lf) := hb.cell 0
            have b1 : wr.cell? ⟨b, 1, none⟩ = some (.slice KA ks.length kc) := hb.cell 1
            have b2 : wr.cell? ⟨b, 2, none⟩ = some (.slice VA vs.length vc) := hb.cell 2
            have b3 : wr.cell? ⟨b, 3, none⟩ = some (.slice NA ns.length nc) := hb.cell 3
            by_cases hil : i < ks.length
            · obtain ⟨j, hj⟩ : ∃ j, i = j + 1 := ⟨i - 1, by omega⟩
              obtain ⟨ad, x, eA, _, hx, hrx⟩ := (HK.out.c0 hcq).at_ (k := j) (by omega)
              subst eA
              obtain ⟨ad2, y, eA, _, hy, hry⟩ := (HK.out.c0 hcq).at_ hil
              injection eA with eA
              subst eA
              obtain ⟨xs, hxs⟩ : ∃ xs, xs = ks[j]'(by omega) := ⟨_, rfl⟩
              obtain ⟨ys, hys⟩ : ∃ ys, ys = ks[i] := ⟨_, rfl⟩
              have HX := hide (show ks[j]? = some xs ∧ ks[i]? = some ys from ⟨by rw [hxs]; exact List.getElem?_eq_getElem _, by rw [hys]; exact List.getElem?_eq_getElem hil⟩)
              rw [← hxs] at hrx
              rw [← hys] at hry
              obtain ⟨cv, hcv⟩ : ∃ cv, cv = cmpB xs ys := ⟨_, rfl⟩
              have hcmp := fun n => refCmp (hrx.dn n) (hry.dn n)
              rw [← hcv] at hcmp
              have hw1 : IntKind.i64.wrap ((i : Int) - 1) = (j : Int) := by rw [IntWalk.i64_in _ (by omega)]; omega
              have hjl : j < ks.length := by omega
              have HIL := hide hil
              have HI1 := hide h1i
              have HJ := hide hj
              have HCV := hide hcv
              clear hxs hys hcv hrx hry hj hi h1i b0 b2 b3 hb
              by_cases hneg : cv < 0
              · have hd : decide ((0 : Int) ≤ cv) = false := decide_eq_false (by omega)
                have hd2 : ¬ 0 ≤ cv := by omega
                go_upto_region 14 with fail
                go_quiet ((go_at_call 16; exact Calls.quiet_of (hcmp _)))
                clear hw1 hcmp hx hy
                have hup' := hide (show ∀ (j : Nat) (p q : List UInt8), ks[j]? = some p → ks[j + 1]? = some q → j + 1 < i + 1 → cmpB p q < 0 from fun j2 p q hp hq h => by
                  by_cases e : j2 + 1 < i
                  · exact hup.out j2 p q hp hq e
                  · have e2 : j2 = j := by have := HJ.out; omega
                    subst e2
                    rw [HX.out.1] at hp
                    rw [← HJ.out, HX.out.2] at hq
                    injection hp with hp
                    injection hq with hq
                    rw [← hp, ← hq, ← HCV.out]
                    exact hneg)
                go_wp2_with fail
                go_roundw
                case rel => exact ⟨i + 1, by omega, .inl HIL.out, by go_num, hup', hcq.drewN _⟩
                case measure => (have := HIL.out; simp [intOf]; omega)
              · have hd : decide ((0 : Int) ≤ cv) = true := decide_eq_true (by omega)
                have hd2 : 0 ≤ cv := by omega
                go_upto_region 14 with fail
                go_quiet ((go_at_call 16; exact Calls.quiet_of (hcmp _)))
                clear hw1 hcmp hx hy
                go_wp2_with fail
                go_ret
                exact ⟨3, rfl, fun h => by omega, (HC.out.trans0 hcq).drewN _⟩
            · have HUP := hide (show UpK ks from fun j p q hp hq => hup.out j p q hp hq (by have := (List.getElem?_eq_some_iff.1 hq).1; omega))
              have HQ := hide hcq
              obtain ⟨w3, rfl⟩ : ∃ w', w' = wr := ⟨_, rfl⟩
              have HN3 := hide (HN.out.c0 hcq)
              have hge : decide ((i : Int) < (ks.length : Int)) = false := decide_eq_false (by omega)
              clear hi hup hcq hb
              go_wp2_with fail
              go_loopw [6] (fun iv wr => ∃ i : Nat, i ≤ ns.length ∧ iv = .int .i64 (i : Int) ∧ wr = w3) (fun iv _ => ns.length - (intOf iv).toNat)
              case atStart => exact ⟨0, Nat.zero_le _, rfl, rfl⟩
              case round =>
                obtain ⟨i, hi, rfl, hw⟩ := hrel
                subst wr
                by_cases hin : i < ns.length
                · obtain ⟨ad, eA, _, hx⟩ := HN3.out.at_ hin
                  subst eA
                  obtain ⟨z, hz⟩ : ∃ z, z = ns[i] := ⟨_, rfl⟩
                  rw [← hz] at hx
                  have HIN := hide hin
                  clear hz
                  by_cases hz0 : z < 0
                  · have hd : decide (z < 0) = true := decide_eq_true hz0
                    go_wp2_with fail
                    go_ret
                    exact ⟨3, rfl, fun h => by omega, HC.out.trans0 HQ.out⟩
                  · have hd : decide (z < 0) = false := decide_eq_false hz0
                    by_cases hz1 : 65535 < z
                    · have hd1 : decide ((65535 : Int) < z) = true := decide_eq_true hz1
                      go_wp2_with fail
                      go_ret
                      exact ⟨3, rfl, fun h => by omega, HC.out.trans0 HQ.out⟩
                    · have hd1 : decide ((65535 : Int) < z) = false := decide_eq_false hz1
                      go_wp2_with fail
                      go_roundw
                      case rel => exact ⟨i + 1, HIN.out, by go_num, trivial⟩
                      case measure => (have := HIN.out; simp [intOf]; omega)
                · have hik : i = ns.length := by omega
                  subst hik
                  obtain ⟨nv, hnv⟩ : ∃ nv, nv = vs.length := ⟨_, rfl⟩
                  obtain ⟨nk, hnk⟩ : ∃ nk, nk = ks.length := ⟨_, rfl⟩
                  obtain ⟨nq, hnq⟩ : ∃ nq, nq = ns.length := ⟨_, rfl⟩
                  rw [← hnv] at b2
                  rw [← hnk] at b1
                  rw [← hnq] at b3
                  have HL := hide (And.intro hnv (And.intro hnk hnq))
                  rw [← hnq]
                  have hlt : ¬ nq < nq := Nat.lt_irrefl _
                  have hqs : IntKind.i64.wrap ((nk : Int) + 1) = (nk : Int) + 1 ∨ True := .inr trivial
                  have hbk := hkm
                  clear hnv hnk hnq hi hin hil hge hqs
                  cases lf with
                  | true =>
                    by_cases he : nv = nk
                    · subst he
                      by_cases hz : nq = 0
                      · subst hz
                        go_wp2_with fail
                        go_ret
                        exact ⟨0, rfl, (fun _ => ⟨h64.out, h128.out, HUP.out, by have := HL.out; omega, by have := HL.out; omega⟩), HC.out.trans0 HQ.out⟩
                      · have hd : decide ((0 : Int) < (nq : Int)) = true := decide_eq_true (by omega)
                        have hd0 : 0 < nq := by omega
                        go_wp2_with fail
                        go_ret
                        exact ⟨3, rfl, fun h => by omega, HC.out.trans0 HQ.out⟩
                    · have hne : ((nv : Int) == (nk : Int)) = false := beq_eq_false_iff_ne.2 (by omega)
                      go_wp2_with fail
                      go_ret
                      exact ⟨3, rfl, fun h => by omega, HC.out.trans0 HQ.out⟩
                  | false =>
                    obtain ⟨W, hwq⟩ : ∃ W, IntKind.i64.wrap ((nk : Int) + 1) = W := ⟨_, rfl⟩
                    by_cases hz : 0 < nv
                    · have hd : decide ((0 : Int) < (nv : Int)) = true := decide_eq_true (by omega)
                      go_wp2_with fail
                      go_ret
                      exact ⟨3, rfl, fun h => by omega, HC.out.trans0 HQ.out⟩
                    · have hd : decide ((0 : Int) < (nv : Int)) = false := decide_eq_false (by omega)
                      by_cases hy : (nq : Int) = W
                      · have hne : ((nq : Int) == W) = true := beq_iff_eq.2 hy
                        clear hy
                        go_wp2_with fail
                        go_ret
                        exact ⟨0, rfl, (fun _ h => (by cases h)), HC.out.trans0 HQ.out⟩
                      · have hne : ((nq : Int) == W) = false := beq_eq_false_iff_ne.2 hy
                        clear hy
                        go_wp2_with fail
                        go_ret
                        exact ⟨3, rfl, fun h => by omega, HC.out.trans0 HQ.out⟩
set_option maxHeartbeats 4000000 in
theorem refSameL {w : World} {F G : Nat → Prop} {K1 V1 N1 K2 V2 N2 : Option Addr} {kn1 kc1 vn1 vc1 nc1 kn2 kc2 vn2 vc2 nc2 : Nat} {ks1 vs1 ks2 vs2 : List (List UInt8)} (hk1 : RdBB w F (.slice K1 kn1 kc1) ks1) (hv1 : RdBB w F (.slice V1 vn1 vc1) vs1) (hk2 : RdBB w G (.slice K2 kn2 kc2) ks2) (hv2 : RdBB w G (.slice V2 vn2 vc2) vs2) :
    Calls Tryz.prog 15 #[.agg #[.bool true, .slice K1 kn1 kc1, .slice V1 vn1 vc1, .slice N1 0 nc1], .agg #[.bool true, .slice K2 kn2 kc2, .slice V2 vn2 vc2, .slice N2 0 nc2]] w fun e w' => e = .returned (.bool (decide (ks1 = ks2) && decide (vs1 = vs2))) ∧ Chg Non w w' := by
  have hb1 := Blk.new w 25 #[.bool true, .slice K1 kn1 kc1, .slice V1 vn1 vc1, .slice N1 0 nc1]
  have hc1 := (Chg.refl Non w).alloc (.cells #[.bool true, .slice K1 kn1 kc1, .slice V1 vn1 vc1, .slice N1 0 nc1] 25)
  have hn1 := sizeAl' w (.cells #[.bool true, .slice K1 kn1 kc1, .slice V1 vn1 vc1, .slice N1 0 nc1] 25)
  have hb2 := Blk.new (w.alloc (.cells #[.bool true, .slice K1 kn1 kc1, .slice V1 vn1 vc1, .slice N1 0 nc1] 25)) 25 #[.bool true, .slice K2 kn2 kc2, .slice V2 vn2 vc2, .slice N2 0 nc2]
  have hc2 := (Chg.refl Non (w.alloc (.cells #[.bool true, .slice K1 kn1 kc1, .slice V1 vn1 vc1, .slice N1 0 nc1] 25))).alloc (.cells #[.bool true, .slice K2 kn2 kc2, .slice V2 vn2 vc2, .slice N2 0 nc2] 25)
  rw [hn1] at hb2
  obtain ⟨BB, hBB⟩ : ∃ BB, BB = (decide (ks1 = ks2) && decide (vs1 = vs2)) := ⟨_, rfl⟩
  rw [← hBB]
  have HBB := hide hBB
  clear hBB
  go_enter Tryz.func15, Tryz.ntmps15
  go_upto_region 1 with fail
  obtain ⟨N, hN⟩ : ∃ N, N = w.heap.size := ⟨_, rfl⟩
  have hc := hc1.trans0 hc2
  have hb1' := hb1.c0 hc2
  rw [← hN] at hb1' hb2 ⊢
  clear hb1 hc1 hc2 hn1 hN
  generalize World.alloc (World.alloc w _) _ = w2 at hb1' hb2 hc ⊢
  have HB := hide (And.intro hb1' hb2)
  have a0 : w2.cell? ⟨N, 0, none⟩ = some (.bool true) := hb1'.cell 0
  have a1 : w2.cell? ⟨N, 1, none⟩ = some (.slice K1 kn1 kc1) := hb1'.cell 1
  have c0 : w2.cell? ⟨N + 1, 0, none⟩ = some (.bool true) := hb2.cell 0
  have c1 : w2.cell? ⟨N + 1, 1, none⟩ = some (.slice K2 kn2 kc2) := hb2.cell 1
  have heq := refEquals (hk1.c0 hc) (hk2.c0 hc)
  have HV := hide (And.intro (hv1.c0 hc) (hv2.c0 hc))
  have HC := hide hc
  clear hb1' hb2 hk1 hk2 hv1 hv2 hc
  by_cases hke : ks1 = ks2
  · rw [decide_eq_true hke] at heq
    have HKE := hide hke
    clear hke
    by_cases hve : vs1 = vs2
    · have HVE := hide hve
      clear hve
      go_wp2_with fail
      refine heq.mono ?_
      rintro e w3 ⟨rfl, hq3⟩
      have hc3 := (Chg.refl Non w2).quiet hq3
      have hB1 := HB.out.1.c0 hc3
      have hB2 := HB.out.2.c0 hc3
      have a2 : w3.cell? ⟨N, 2, none⟩ = some (.slice V1 vn1 vc1) := hB1.cell 2
      have c2 : w3.cell? ⟨N + 1, 2, none⟩ = some (.slice V2 vn2 vc2) := hB2.cell 2
      have heq2 := refEquals (HV.out.1.c0 hc3) (HV.out.2.c0 hc3)
      rw [decide_eq_true HVE.out] at heq2
      clear heq hq3 hB1 hB2
      go_wp2_with fail
      refine heq2.mono ?_
      rintro e w4 ⟨rfl, hq4⟩
      have hc4 := hc3.quiet hq4
      have hB1 := HB.out.1.c0 hc4
      have hB2 := HB.out.2.c0 hc4
      have a3 : w4.cell? ⟨N, 3, none⟩ = some (.slice N1 0 nc1) := hB1.cell 3
      have c3 : w4.cell? ⟨N + 1, 3, none⟩ = some (.slice N2 0 nc2) := hB2.cell 3
      clear heq2 hq4 hB1 hB2
      go_wp2_with fail
      go_loopw [5] (fun iv wr => iv = .int .i64 0 ∧ wr = w4) (fun _ _ => 0)
      case atStart => exact ⟨rfl, rfl⟩
      case round =>
        obtain ⟨rfl, hw⟩ := hrel
        subst wr
        go_wp2_with fail
        go_ret
        exact ⟨by rw [HBB.out, decide_eq_true HKE.out, decide_eq_true HVE.out]; rfl, HC.out.trans0 hc4⟩
    · have HVE := hide hve
      clear hve
      go_wp2_with fail
      refine heq.mono ?_
      rintro e w3 ⟨rfl, hq3⟩
      have hc3 := (Chg.refl Non w2).quiet hq3
      have hB1 := HB.out.1.c0 hc3
      have hB2 := HB.out.2.c0 hc3
      have a2 : w3.cell? ⟨N, 2, none⟩ = some (.slice V1 vn1 vc1) := hB1.cell 2
      have c2 : w3.cell? ⟨N + 1, 2, none⟩ = some (.slice V2 vn2 vc2) := hB2.cell 2
      have heq2 := refEquals (HV.out.1.c0 hc3) (HV.out.2.c0 hc3)
      rw [decide_eq_false HVE.out] at heq2
      clear heq hq3 hB1 hB2
      go_wp2_with fail
      refine heq2.mono ?_
      rintro e w4 ⟨rfl, hq4⟩
      have hc4 := hc3.quiet hq4
      clear heq2 hq4
      go_wp2_with fail
      go_ret
      exact ⟨by rw [HBB.out, decide_eq_true HKE.out, decide_eq_false HVE.out]; rfl, HC.out.trans0 hc4⟩
  · rw [decide_eq_false hke] at heq
    have HKE := hide hke
    clear hke
    go_wp2_with fail
    refine heq.mono ?_
    rintro e w3 ⟨rfl, hq3⟩
    have hc3 := (Chg.refl Non w2).quiet hq3
    clear heq hq3
    go_wp2_with fail
    go_ret
    exact ⟨by rw [HBB.out, decide_eq_false HKE.out]; rfl, HC.out.trans0 hc3⟩
end Go.Proofs.YtfgecgmgbngeaaaGreat
