/- The walk of groynelaw20.look. -/
import Derived.Test.YtlcnlcjfnpicgaaGateQ
import Derived.Test.YtlcnlcjfnpicgaaGate8
import Derived.BigQuiet
import Derived.Deep.RegionLaw
import Derived.Deep.Cut
import Derived.Deep.CutRange
namespace Go.Proofs.Ytlcnlcjfnpicgaa
open Go.RowKit Go.Maps

def recD (s : GSt) : Array Value := if wantsS s = 1 then recC 7 s.id s.name else if wantsS s = 2 then recC 8 s.id s.name else recC 0 0 ⟨#[]⟩
theorem recV_D (s : GSt) : recV s = .agg (recD s) := by
  unfold recV recD
  split
  · rfl
  · split <;> rfl
/-- the marks that are wanting, of the first k, where marks are asked for -/
def retryK (s : GSt) (k : Nat) : List Nat := if s.shut && s.cut then missS s.ms k else []
theorem retryK_all (s : GSt) : retryK s s.n = retryS s := rfl
theorem miss_split (ms : List (Option Nat)) (k n : Nat) (hk : k < n) (hm : mh ms k = false) : ∃ r, missS ms n = missS ms k ++ k :: r := by
  induction n with
  | zero => omega
  | succ n ih =>
    rw [missS_succ]
    by_cases h : k = n
    · subst h
      rw [hm]
      exact ⟨[], by simp⟩
    · obtain ⟨r, hr⟩ := ih (by omega)
      rw [hr]
      exact ⟨r ++ (if mh ms n = true then [] else [n]), by simp⟩
theorem sends_get (s : GSt) (l : List Nat) (j i q : Nat) (u : Value) (hj : l[j]? = some i) (hq : (sendC s i)[q]? = some u) (hq13 : q < 13) : (sendsC s l)[j * 13 + q]? = some u := by
  induction l generalizing j with
  | nil => simp at hj
  | cons x l ih =>
    have e : sendsC s (x :: l) = sendC s x ++ sendsC s l := by simp [sendsC]
    rw [e]
    match j, hj with
    | 0, hj =>
      simp at hj
      subst hj
      rw [Nat.zero_mul, Nat.zero_add, List.getElem?_append_left (by simp [sendC]; omega)]
      exact hq
    | j + 1, hj =>
      rw [List.getElem?_append_right (by simp [sendC]; omega), show (j + 1) * 13 + q - (sendC s x).length = j * 13 + q from by simp [sendC]; omega]
      exact ih j (by simpa using hj)
theorem ats_get (s : GSt) (k : Nat) (hk : k < s.n) : ((atsS s s.n ++ [s.at_]).map uv)[k]? = some (.int .u64 (mv s.ms k : Int)) := by
  rw [List.getElem?_map, List.getElem?_append_left (by rw [atsS_len]; exact hk), atsS, List.getElem?_map, List.getElem?_range hk]
  rfl
theorem ats_last (s : GSt) : ((atsS s s.n ++ [s.at_]).map uv)[s.n]? = some (.int .u64 (s.at_ : Int)) := by
  rw [List.getElem?_map, List.getElem?_append_right (by rw [atsS_len]; exact Nat.le_refl _), atsS_len, Nat.sub_self]
  rfl

theorem row_at {w : World} {F : Nat → Prop} {A : Option Addr} {c n k : Nat} {xs : List Value} {u : Value} (h : RdV w F 1 (.slice A n c) n xs) (hk : k < n) (hx : xs[k]? = some u) : ∃ ad, A = some ad ∧ w.cell? (ad.add k) = some u := by
  obtain ⟨ad, u', hA, _, hu, hc⟩ := h.at_ (i := 0) hk (by omega)
  rw [Nat.add_zero, Nat.mul_one] at hu hc
  rw [hx] at hu
  injection hu with hu
  subst hu
  exact ⟨ad, hA, hc⟩
theorem mark_at {w : World} {F : Nat → Prop} {A : Option Addr} {c n k : Nat} {ms : List (Option Nat)} (h : RdV w F 2 (.slice A n c) n (mks ms)) (hl : ms.length = n) (hk : k < n) : ∃ ad, A = some ad ∧ w.cell? (ad.add (k * 2)) = some (.bool (mh ms k)) ∧ w.cell? ⟨(ad.add (k * 2)).block, (ad.add (k * 2)).off + 1, none⟩ = some (.int .u64 (mv ms k : Int)) := by
  obtain ⟨g1, g2⟩ := mks_get ms k (by rw [hl]; exact hk)
  obtain ⟨ad, u0, hA, _, e0, h0⟩ := h.at_ (i := 0) hk (by omega)
  obtain ⟨ad1, u1, hA1, _, e1, h1⟩ := h.at_ (i := 1) hk (by omega)
  rw [hA] at hA1
  injection hA1 with hA1
  subst hA1
  rw [Nat.add_zero] at e0 h0
  rw [g1] at e0
  rw [g2] at e1
  injection e0 with e0
  injection e1 with e1
  subst e0 e1
  rw [add_succ ad (k * 2) 1 (by omega)] at h1
  exact ⟨ad, hA, h0, h1⟩
theorem send_at {w : World} {F : Nat → Prop} {A : Option Addr} {c n j i : Nat} {s : GSt} {l : List Nat} (h : RdV w F 13 (.slice A n c) n (sendsC s l)) (hj : j < n) (hi : l[j]? = some i) :
    ∃ ad, A = some ad ∧ w.cell? (ad.add (j * 13)) = some (.int .i64 (i : Int)) ∧ w.cell? ⟨(ad.add (j * 13)).block, (ad.add (j * 13)).off + 1, none⟩ = some (.int .i64 6) ∧ w.cell? ⟨(ad.add (j * 13)).block, (ad.add (j * 13)).off + 11, none⟩ = some (.int .u64 (s.id : Int)) ∧ w.cell? ⟨(ad.add (j * 13)).block, (ad.add (j * 13)).off + 12, none⟩ = some (.string s.name) := by
  have g : ∀ (q : Nat) (u : Value), q < 13 → (sendC s i)[q]? = some u → ∃ ad, A = some ad ∧ w.cell? (ad.add (j * 13 + q)) = some u := by
    intro q u hq hu
    obtain ⟨ad, u', hA, _, e, hc⟩ := h.at_ (i := q) hj hq
    rw [sends_get s l j i q u hi hu hq] at e
    injection e with e
    subst e
    exact ⟨ad, hA, hc⟩
  obtain ⟨ad, hA, h0⟩ := g 0 _ (by omega) rfl
  obtain ⟨ad1, hA1, h1⟩ := g 1 _ (by omega) rfl
  obtain ⟨ad2, hA2, h2⟩ := g 11 _ (by omega) rfl
  obtain ⟨ad3, hA3, h3⟩ := g 12 _ (by omega) rfl
  rw [hA] at hA1 hA2 hA3
  injection hA1 with hA1
  injection hA2 with hA2
  injection hA3 with hA3
  subst hA1 hA2 hA3
  rw [add_succ ad (j * 13) 1 (by omega)] at h1
  rw [add_succ ad (j * 13) 11 (by omega)] at h2
  rw [add_succ ad (j * 13) 12 (by omega)] at h3
  rw [Nat.add_zero] at h0
  exact ⟨ad, hA, h0, h1, h2, h3⟩

set_option maxHeartbeats 4000000 in
set_option maxRecDepth 100000 in
theorem lawLook {X : Nat → Prop} {b : Nat} {w0 w : World} {g : Nat} {mp rv v : Value} {s : GSt} (h : Pair X b w0 w g mp rv v s s) :
    Calls Try.prog 14 #[.pointer (some ⟨g, 0, none⟩), v] w fun e w' => e = .returned (.bool true) ∧ Chg Non w w' := by
  obtain ⟨A, c, B, d, rfl⟩ := h.shape
  have kk := (Chg.refl Non w).alloc (.cells #[.int .i64 s.p, .bool s.shut, .bool s.cut, .int .u64 (s.id : Int), .string s.name, .int .u64 (s.at_ : Int), .int .i64 s.age, .slice A s.n c, .slice B s.res.length d] 30)
  have b3 := Blk.new w 30 #[.int .i64 s.p, .bool s.shut, .bool s.cut, .int .u64 (s.id : Int), .string s.name, .int .u64 (s.at_ : Int), .int .i64 s.age, .slice A s.n c, .slice B s.res.length d]
  have hP := h.c0 kk
  clear h
  generalize hWW : w.alloc _ = WW at kk b3 hP
  obtain ⟨G3, hG3⟩ : ∃ G3, G3 = w.heap.size := ⟨_, rfl⟩
  rw [← hG3] at b3
  have HP := hide hP
  have HB := hide b3
  have KK := hide kk
  -- the callees, in whatever world behind this one
  have HSH := hide (fun (w' : World) (k : Chg Non WW w') => (gateShut (hP.c0 k).ga))
  have HW := hide (fun (w' : World) (k : Chg Non WW w') => (gateWants (hP.c0 k).ga))
  have HRW := hide (fun (w' : World) (k : Chg Non WW w') => (pairRefWants (hP.c0 k)))
  have cD := (Chg.refl Non WW).drew
  obtain ⟨x0, x1, x2, x3, x4, x5, x6, x7, x8⟩ := blk9 (b3.c0 cD)
  obtain ⟨ws, hws⟩ : ∃ ws, ws = wantsS s := ⟨_, rfl⟩
  rw [← hws] at HW HRW
  have HWS := hide hws
  clear hP b3 kk hws
  go_enter Try.func14, Try.ntmps14
  go_upto_region 1 with fail
  rw [← hG3]
  clear hG3 hWW
  go_cut [25] from 14 (fun v wx => v = .bool false ∧ Chg Non WW wx)
  case first =>
    as_aux_lemma =>
      go_region_law (first
        | (go_simp; go_at_call 12; refine (HSH.out _ cD).mono ?_; rintro e wS ⟨rfl, rfl⟩)
        | (go_simp; go_at_call 9; refine (HW.out _ cD).mono ?_; rintro e w4 ⟨rfl, hq4⟩; have c4 := cD.quiet hq4; clear hq4; obtain ⟨y0, y1, y2, y3, y4, y5, y6, y7, y8⟩ := blk9 (HB.out.c0 c4))
        | (go_simp; go_at_call 9; refine (HW.out _ c5).mono ?_; rintro e w4 ⟨rfl, hq4⟩; have c4 := c5.quiet hq4; clear hq4)
        | (go_simp; go_at_call 20; refine (HRW.out _ cD).mono ?_; rintro e w5 ⟨rfl, -, k5⟩; have c5 := cD.trans0 k5; clear k5)
        | (go_simp; go_at_call 20; refine (HRW.out _ c4).mono ?_; rintro e w5 ⟨rfl, -, k5⟩; have c5 := c4.trans0 k5; clear k5))
      all_goals
        (try simp only [List.getElem_toArray, List.getElem_cons_zero, List.getElem_cons_succ, Act.put, List.setIfInBounds_toArray, List.set_cons_zero, List.set_cons_succ])
        go_wp2_with fail
        go_meet
        case rel => first | exact ⟨rfl, c4⟩ | exact ⟨rfl, c5⟩
  case rest =>
    obtain ⟨rfl, cW⟩ := hcut
    clear x0 x1 x2 x3 x4 x5 x6 x7 x8 cD
    have HREC := hide (gateRecord (HP.out.c0 cW).ga)
    have CW := hide cW
    clear cW
    go_upto_region 3 with fail
    go_cut [5] from 14 (fun v5 wx => ∃ z5, v5 = .pointer (some ⟨z5, 0, none⟩) ∧ Blk wx z5 54 (recD s) ∧ Chg Non WW wx)
    case first =>
      as_aux_lemma =>
        have hrec := HREC.out
        rw [recV_D] at hrec
        rcases wants_le s with hw | hw | hw
        · have hD : recD s = recC 0 0 ⟨#[]⟩ := by rw [recD, if_neg (by rw [hw]; decide), if_neg (by rw [hw]; decide)]
          rw [hD] at hrec
          unfold recC at hrec
          have HD := hide hD
          clear hw hD
          go_wp2_with fail
          refine hrec.mono ?_
          rintro e w3 ⟨rfl, c3⟩
          have C3 := hide (CW.out.trans0 c3)
          clear hrec c3
          go_wp2_with fail
          go_meet
          case rel => rw [HD.out]; exact ⟨w3.heap.size, rfl, Blk.new _ _ _, C3.out.alloc _⟩
        · have hD : recD s = recC 7 s.id s.name := by rw [recD, if_pos hw]
          rw [hD] at hrec
          unfold recC at hrec
          have HD := hide hD
          clear hw hD
          go_wp2_with fail
          refine hrec.mono ?_
          rintro e w3 ⟨rfl, c3⟩
          have C3 := hide (CW.out.trans0 c3)
          clear hrec c3
          go_wp2_with fail
          go_meet
          case rel => rw [HD.out]; exact ⟨w3.heap.size, rfl, Blk.new _ _ _, C3.out.alloc _⟩
        · have hD : recD s = recC 8 s.id s.name := by rw [recD, if_neg (by rw [hw]; decide), if_pos hw]
          rw [hD] at hrec
          unfold recC at hrec
          have HD := hide hD
          clear hw hD
          go_wp2_with fail
          refine hrec.mono ?_
          rintro e w3 ⟨rfl, c3⟩
          have C3 := hide (CW.out.trans0 c3)
          clear hrec c3
          go_wp2_with fail
          go_meet
          case rel => rw [HD.out]; exact ⟨w3.heap.size, rfl, Blk.new _ _ _, C3.out.alloc _⟩
    case rest =>
      obtain ⟨z5, rfl, hX, cX⟩ := hcut
      have HX := hide hX
      have CX := hide cX
      clear hX cX HREC
      go_upto_region 4 with fail
      go_cut [6, 7] from 14 (fun v6 v7 wx => ∃ z6 cs, v6 = .pointer (some ⟨z6, 0, none⟩) ∧ Blk wx z6 83 cs ∧ v7 = .bool (decide (wantsS s = 2)) ∧ (wantsS s = 2 → ∃ v, cs = #[.int .u64 (s.id : Int), .string s.name, v] ∧ RdV wx (fun _ => True) 1 v (s.n + 1) ((atsS s s.n ++ [s.at_]).map uv)) ∧ Blk wx z5 54 (recD s) ∧ Chg Non WW wx)
      case first =>
        as_aux_lemma =>
          by_cases hw : wantsS s = 2
          · go_wp2_with fail
            refine (gateBarrierYes (HP.out.c0 CX.out).ga hw).mono ?_
            rintro e w3 ⟨v, rfl, ho, c3⟩
            have C3 := hide (CX.out.trans0 c3)
            have X3 := hide (HX.out.c0 c3)
            have R3 := hide (RdV.of_own ho)
            obtain ⟨A6, c6, rfl, _, _⟩ := R3.out.shape
            clear ho c3
            go_wp2_with fail
            go_meet
            case rel => rw [decide_eq_true hw]; exact ⟨w3.heap.size, _, rfl, Blk.new _ _ _, rfl, fun _ => ⟨_, rfl, (R3.out.chg ((Chg.refl Non _).alloc _) (fun _ _ h => h)).mono fun _ _ => trivial⟩, X3.out.al _, C3.out.alloc _⟩
          · go_wp2_with fail
            refine (gateBarrierNo (HP.out.c0 CX.out).ga hw).mono ?_
            rintro e w3 ⟨rfl, c3⟩
            have C3 := hide (CX.out.trans0 c3)
            have X3 := hide (HX.out.c0 c3)
            clear c3
            go_wp2_with fail
            go_meet
            case rel => rw [decide_eq_false hw]; exact ⟨w3.heap.size, _, rfl, Blk.new _ _ _, rfl, fun h => absurd h hw, X3.out.al _, C3.out.alloc _⟩
      case rest =>
        obtain ⟨z6, cs, rfl, hY, rfl, hcs, hX, cY⟩ := hcut
        have HX := hide hX
        have HY := hide hY
        have HCS := hide hcs
        have CY := hide cY
        clear hX hY hcs cY
        obtain ⟨x0, x1, x2, x3, x4, x5, x6, x7, x8⟩ := blk9 (HB.out.c0 CY.out)
        go_step
        go_step
        go_cut [7] from 14 (fun v7 wx => v7 = .bool (decide (wantsS s = 2)) ∧ Chg Non WW wx)
        case first =>
          rcases wants_le s with hw | hw | hw
          · as_aux_lemma =>
              have HV := hide hw
              have hws0 : ws = 0 := by rw [HWS.out, hw]
              subst hws0
              have hE : recD s = recC 0 0 ⟨#[]⟩ := by rw [recD, if_neg (by rw [hw]; decide), if_neg (by rw [hw]; decide)]
              have HX0 := hide (show Blk _ z5 54 (recC 0 0 ⟨#[]⟩) from hE ▸ HX.out)
              clear hE hw
              unfold recC at HX0
              go_wp2_with fail
              refine (HRW.out _ CY.out).mono ?_
              rintro e w5 ⟨rfl, -, k5⟩
              clear x0 x1 x2 x3 x4 x5 x6 x7 x8
              obtain ⟨x0, x1, x2, x3, x4, x5, x6, x7, x8⟩ := blk9 (HB.out.c0 (CY.out.trans0 k5))
              obtain ⟨r0, r1, r2, r3, r4, r5, r6, r7, r8, r9, r10⟩ := blk11 (HX0.out.c0 k5)
              have C5 := hide (CY.out.trans0 k5)
              clear k5
              go_wp2_with fail
              go_meet
              case rel => exact ⟨by first | rfl | (rw [HV.out]; rfl), C5.out⟩
          · as_aux_lemma =>
              have HV := hide hw
              have hws1 : ws = 1 := by rw [HWS.out, hw]
              subst hws1
              have hE : recD s = recC 7 s.id s.name := by rw [recD, if_pos hw]
              have HX0 := hide (show Blk _ z5 54 (recC 7 s.id s.name) from hE ▸ HX.out)
              clear hE hw
              unfold recC at HX0
              go_wp2_with fail
              refine (HRW.out _ CY.out).mono ?_
              rintro e w5 ⟨rfl, -, k5⟩
              clear x0 x1 x2 x3 x4 x5 x6 x7 x8
              obtain ⟨x0, x1, x2, x3, x4, x5, x6, x7, x8⟩ := blk9 (HB.out.c0 (CY.out.trans0 k5))
              obtain ⟨r0, r1, r2, r3, r4, r5, r6, r7, r8, r9, r10⟩ := blk11 (HX0.out.c0 k5)
              have C5 := hide (CY.out.trans0 k5)
              clear k5
              go_wp2_with fail
              go_meet
              case rel => exact ⟨by first | rfl | (rw [HV.out]; rfl), C5.out⟩
          · as_aux_lemma =>
              have HV := hide hw
              have hws2 : ws = 2 := by rw [HWS.out, hw]
              subst hws2
              have hE : recD s = recC 8 s.id s.name := by rw [recD, if_neg (by rw [hw]; decide), if_pos hw]
              have HX0 := hide (show Blk _ z5 54 (recC 8 s.id s.name) from hE ▸ HX.out)
              obtain ⟨v6, hcs6, hR6⟩ := HCS.out hw
              subst hcs6
              obtain ⟨A6, c6, rfl, hc6, hm6⟩ := hR6.shape
              rw [hw, show decide ((2 : Int) = 2) = true from rfl]
              clear hE hw
              unfold recC at HX0
              have HR6 := hide hR6
              clear hR6
              go_wp2_with fail
              refine (HRW.out _ CY.out).mono ?_
              rintro e w5 ⟨rfl, -, k5⟩
              clear x0 x1 x2 x3 x4 x5 x6 x7 x8
              obtain ⟨x0, x1, x2, x3, x4, x5, x6, x7, x8⟩ := blk9 (HB.out.c0 (CY.out.trans0 k5))
              obtain ⟨r0, r1, r2, r3, r4, r5, r6, r7, r8, r9, r10⟩ := blk11 (HX0.out.c0 k5)
              obtain ⟨b0, b1, b2⟩ := blk3 (HY.out.c0 k5)
              obtain ⟨a6, hA6, hl6⟩ := row_at (HR6.out.chg k5 (fun _ _ h => h)) (Nat.lt_succ_self _) (ats_last s)
              subst hA6
              have C5 := hide (CY.out.trans0 k5)
              have R5 := hide (HR6.out.chg k5 (fun _ _ h => h))
              have Y5 := hide (HY.out.c0 k5)
              have hnw : IntKind.i64.wrap ((s.n : Int) + 1) = (s.n : Int) + 1 := IntWalk.i64_in _ (by have := HP.out.ga.n20; omega)
              have hi1 : (0 : Int) ≤ (s.n : Int) := by omega
              have hi2 : (s.n : Int) < ((s.n + 1 : Nat) : Int) := by omega
              clear k5
              go_upto_region 12 with fail
              go_quiet (fail)
              obtain ⟨F, hr0, hF0⟩ := HP.out.open_
              have hln := hr0.len
              have HM5 := hide (hr0.m.chg C5.out (fun _ _ h => h))
              have hn20 := HP.out.ga.n20
              clear hr0 hF0
              go_wp2_with fail
              go_loopw [124] (fun iv wr => ∃ k : Nat, iv = .int .i64 (k : Int) ∧ k ≤ s.n ∧ Chg Non w5 wr) (fun iv _ => s.n - (intOf iv).toNat)
              case atStart => first | exact ⟨0, rfl, Nat.zero_le _, (Chg.refl Non _).drewN _⟩ | exact ⟨0, rfl, Nat.zero_le _, (Chg.refl Non _).drew⟩ | exact ⟨0, rfl, Nat.zero_le _, Chg.refl Non _⟩
              case round =>
                obtain ⟨k, rfl, hk, hc⟩ := hrel
                clear x0 x1 x2 x3 x4 x5 x6 x7 x8 r0 r1 r2 r3 r4 r5 r6 r7 r8 r9 r10 b0 b1 b2 hl6 hi1 hi2
                by_cases h1 : k < s.n
                · have hd1 : decide ((k : Int) < (s.n : Int)) = true := decide_eq_true (by omega)
                  have hi1 : (0 : Int) ≤ (k : Int) := by omega
                  have hi2 : (k : Int) < (s.n : Int) := by omega
                  have hi3 : (k : Int) < ((s.n + 1 : Nat) : Int) := by omega
                  have hi4 : (k : Int) < (s.n : Int) + 1 := by omega
                  obtain ⟨am, rfl, m0, m1⟩ := mark_at (HM5.out.chg hc (fun _ _ h => h)) hln h1
                  have kA := hc.alloc (.cells #[.bool (mh s.ms k), .int .u64 (mv s.ms k : Int)] 65)
                  obtain ⟨b0, b1, b2⟩ := blk3 (Y5.out.c0 kA)
                  obtain ⟨a6', hA6', hk6⟩ := row_at (R5.out.chg kA (fun _ _ h => h)) (Nat.lt_succ_of_lt h1) (ats_get s k h1)
                  injection hA6' with hA6'
                  subst hA6'
                  have z1 : (wr.alloc (.cells #[.bool (mh s.ms k), .int .u64 (mv s.ms k : Int)] 65)).cell? ⟨wr.heap.size, 1, none⟩ = some (.int .u64 (mv s.ms k : Int)) := (Blk.new wr 65 #[.bool (mh s.ms k), .int .u64 (mv s.ms k : Int)]).cell 1
                  have H1 := hide h1
                  have KA := hide kA
                  clear hc kA
                  go_upto_region 17 with fail
                  go_quiet (fail)
                  clear m0 m1 b0 b1 b2 hk6 z1
                  go_wp2_with fail
                  go_round
                  case rel => first | exact ⟨k + 1, by go_num, by have := H1.out; omega, KA.out.drewN _⟩ | ((repeat apply Exists.intro); exact ⟨⟨k + 1, by go_num, by have := H1.out; omega, KA.out.drewN _⟩, rfl⟩) | ((repeat apply Exists.intro); exact ⟨⟨k + 1, by go_num, by have := H1.out; omega, KA.out.drew⟩, rfl⟩)
                  case measure => have := H1.out; simp [intOf]; omega
                · obtain rfl : k = s.n := by omega
                  have hd1 : decide ((s.n : Int) < (s.n : Int)) = false := decide_eq_false (by omega)
                  have CF := hide (C5.out.trans0 hc)
                  clear hc
                  go_wp2_with fail
                  go_meet
                  case rel => exact ⟨by first | rfl | (rw [HV.out]; rfl), CF.out⟩
        case rest =>
          obtain ⟨rfl, hcut⟩ := hcut
          have CZ := hide hcut
          clear x0 x1 x2 x3 x4 x5 x6 x7 x8 hcut HX HY HCS
          have hn20 := HP.out.ga.n20
          obtain ⟨F, hr0, hF0⟩ := HP.out.open_
          have hln := hr0.len
          have HM := hide (hr0.m.chg CZ.out (fun _ _ h => h))
          clear hr0 hF0
          go_wp2_with fail
          refine (gateRetry (HP.out.c0 CZ.out).ga).mono ?_
          rintro e w8 ⟨v8, rfl, ho8, c8⟩
          have R8 := hide (RdV.of_own ho8)
          obtain ⟨A8, c8', rfl, _, _⟩ := R8.out.shape
          have C8 := hide (CZ.out.trans0 c8)
          have HM8 := hide (HM.out.chg c8 (fun _ _ h => h))
          obtain ⟨x0, x1, x2, x3, x4, x5, x6, x7, x8⟩ := blk9 (HB.out.c0 C8.out)
          obtain ⟨L, hL⟩ : ∃ L, L = retryS s := ⟨_, rfl⟩
          obtain ⟨nl, hnl⟩ : ∃ nl, nl = (retryS s).length := ⟨_, rfl⟩
          rw [← hnl, ← hL] at R8
          rw [← hnl]
          have HL := hide hL
          have HNL := hide (show nl = L.length by rw [hnl, hL])
          clear ho8 c8 HM hnl hL
          go_wp2_with fail
          go_loopw [11, 143] (fun nv iv wr => ∃ k : Nat, iv = .int .i64 (k : Int) ∧ k ≤ s.n ∧ nv = .int .i64 ((retryK s k).length : Int) ∧ Chg Non w8 wr) (fun _ iv _ => s.n - (intOf iv).toNat)
          case atStart =>
            refine ⟨0, rfl, Nat.zero_le _, ?_, Chg.refl _ _⟩
            have : retryK s 0 = [] := by unfold retryK; split <;> rfl
            rw [this]; rfl
          case round =>
            as_aux_lemma =>
              obtain ⟨k, rfl, hk, rfl, hc⟩ := hrel
              clear x0 x1 x2 x3 x4 x5 x6 x7 x8
              by_cases h1 : k < s.n
              · have hd1 : decide ((k : Int) < (s.n : Int)) = true := decide_eq_true (by omega)
                have hi1 : (0 : Int) ≤ (k : Int) := by omega
                have hi2 : (k : Int) < (s.n : Int) := by omega
                obtain ⟨am, rfl, m0, m1⟩ := mark_at (HM8.out.chg hc (fun _ _ h => h)) hln h1
                obtain ⟨bm, hbm⟩ : ∃ bm, bm = mh s.ms k := ⟨_, rfl⟩
                rw [← hbm] at m0
                have kA := hc.alloc (.cells #[.bool bm, .int .u64 (mv s.ms k : Int)] 65)
                have kB := C8.out.trans0 kA
                obtain ⟨y0, y1, y2, y3, y4, y5, y6, y7, y8⟩ := blk9 (HB.out.c0 kB)
                have hmb := Blk.new wr 65 #[.bool bm, .int .u64 (mv s.ms k : Int)]
                have z0 : (wr.alloc (.cells #[.bool bm, .int .u64 (mv s.ms k : Int)] 65)).cell? ⟨wr.heap.size, 0, none⟩ = some (.bool bm) := hmb.cell 0
                have hKA := hide kA
                have hK1 := hide h1
                obtain ⟨nk, hnk⟩ : ∃ nk, nk = (retryK s k).length := ⟨_, rfl⟩
                rw [← hnk]
                have HNK := hide hnk
                by_cases hgo : s.shut = true ∧ s.cut = true ∧ mh s.ms k = false
                · obtain ⟨g1, g2, g3⟩ := hgo
                  have hrk : retryK s k = missS s.ms k := by rw [retryK, g1, g2]; rfl
                  have hrk1 : retryK s (k + 1) = missS s.ms k ++ [k] := by rw [retryK, g1, g2, missS_succ, g3]; rfl
                  have hLm : L = missS s.ms s.n := by rw [HL.out, ← retryK_all, retryK, g1, g2]; rfl
                  obtain ⟨r, hr⟩ := miss_split s.ms k s.n h1 g3
                  have hget : L[nk]? = some k := by rw [hLm, hr, hnk, hrk]; simp
                  have hlt : nk < nl := by rw [HNL.out]; exact (List.getElem?_eq_some_iff.1 hget).1
                  obtain ⟨al, rfl, s0, s1, s2, s3⟩ := send_at (R8.out.chg kA (fun _ _ h => h)) hlt hget
                  obtain ⟨t0, t1, t2, t3⟩ := (show (wr.alloc (.cells #[.bool bm, .int .u64 (mv s.ms k : Int)] 65)).drew.cell? _ = _ ∧ (wr.alloc (.cells #[.bool bm, .int .u64 (mv s.ms k : Int)] 65)).drew.cell? _ = _ ∧ (wr.alloc (.cells #[.bool bm, .int .u64 (mv s.ms k : Int)] 65)).drew.cell? _ = _ ∧ (wr.alloc (.cells #[.bool bm, .int .u64 (mv s.ms k : Int)] 65)).drew.cell? _ = _ from ⟨s0, s1, s2, s3⟩)
                  have HN1 := hide (show (retryK s (k + 1)).length = nk + 1 by rw [hrk1, hnk, hrk]; simp)
                  have hi3 : (0 : Int) ≤ (nk : Int) := by omega
                  have hi4 : (nk : Int) < (nl : Int) := by omega
                  have hd3 : decide ((nl : Int) ≤ (nk : Int)) = false := decide_eq_false (by omega)
                  have hd4 : ¬ nl ≤ nk := by omega
                  have hnw : IntKind.i64.wrap ((nk : Int) + 1) = (nk : Int) + 1 := IntWalk.i64_in _ (by have := missS_len s.ms k; rw [hrk] at hnk; omega)
                  rw [g1] at y1
                  rw [g2] at y2
                  have hbf : bm = false := by rw [hbm, g3]
                  subst hbf
                  clear hrk hrk1 hLm hr hget hnk g1 g2 g3 hc kA kB hmb h1 hbm
                  go_upto_region 26 with fail
                  go_quiet (fail)
                  clear y0 y1 y2 y3 y4 y5 y6 y7 y8 s0 s1 s2 s3 t0 t1 t2 t3 m0 m1 z0
                  go_wp2_with fail
                  go_round
                  case rel => first | exact ⟨k + 1, by go_num, by have := hK1.out; omega, by rw [HN1.out]; first | rfl | go_num, hKA.out.drewN _⟩ | ((repeat apply Exists.intro); exact ⟨⟨k + 1, by go_num, by have := hK1.out; omega, by rw [HN1.out]; first | rfl | go_num, hKA.out.drewN _⟩, rfl⟩) | ((repeat apply Exists.intro); exact ⟨⟨k + 1, by go_num, by have := hK1.out; omega, by rw [HN1.out]; first | rfl | go_num, hKA.out.drew⟩, rfl⟩)
                  case measure => have := hK1.out; simp [intOf]; omega
                · rcases (Bool.eq_false_or_eq_true s.shut).symm with g1 | g1
                  · have HN1 := hide (show (retryK s (k + 1)).length = nk by rw [hnk, retryK, retryK, g1]; rfl)
                    rw [g1] at y1
                    clear hnk hgo g1 hc kA kB hmb h1 hbm
                    go_wp2_with fail
                    go_round
                    case rel => first | exact ⟨k + 1, by go_num, by have := hK1.out; omega, by rw [HN1.out], hKA.out⟩ | ((repeat apply Exists.intro); exact ⟨⟨k + 1, by go_num, by have := hK1.out; omega, by rw [HN1.out], hKA.out⟩, rfl⟩)
                    case measure => have := hK1.out; simp [intOf]; omega
                  · rcases (Bool.eq_false_or_eq_true s.cut).symm with g2 | g2
                    · have HN1 := hide (show (retryK s (k + 1)).length = nk by rw [hnk, retryK, retryK, g1, g2]; rfl)
                      rw [g1] at y1
                      rw [g2] at y2
                      clear hnk hgo g1 g2 hc kA kB hmb h1 hbm
                      go_wp2_with fail
                      go_round
                      case rel => first | exact ⟨k + 1, by go_num, by have := hK1.out; omega, by rw [HN1.out], hKA.out⟩ | ((repeat apply Exists.intro); exact ⟨⟨k + 1, by go_num, by have := hK1.out; omega, by rw [HN1.out], hKA.out⟩, rfl⟩)
                      case measure => have := hK1.out; simp [intOf]; omega
                    · have g3 : mh s.ms k = true := by
                        cases g3 : mh s.ms k
                        · exact absurd ⟨g1, g2, g3⟩ hgo
                        · rfl
                      have HN1 := hide (show (retryK s (k + 1)).length = nk by rw [hnk, retryK, retryK, g1, g2, missS_succ, g3]; simp)
                      rw [g1] at y1
                      rw [g2] at y2
                      have hbf : bm = true := by rw [hbm, g3]
                      subst hbf
                      clear hnk hgo g1 g2 g3 hc kA kB hmb h1 hbm
                      go_wp2_with fail
                      go_round
                      case rel => first | exact ⟨k + 1, by go_num, by have := hK1.out; omega, by rw [HN1.out], hKA.out⟩ | ((repeat apply Exists.intro); exact ⟨⟨k + 1, by go_num, by have := hK1.out; omega, by rw [HN1.out], hKA.out⟩, rfl⟩)
                      case measure => have := hK1.out; simp [intOf]; omega
              · obtain rfl : k = s.n := by omega
                have hd1 : decide ((s.n : Int) < (s.n : Int)) = false := decide_eq_false (by omega)
                have hnl2 : (retryK s s.n).length = nl := by rw [retryK_all, HNL.out, HL.out]
                rw [hnl2]
                obtain ⟨x0, x1, x2, x3, x4, x5, x6, x7, x8⟩ := blk9 (HB.out.c0 (C8.out.trans0 hc))
                have CC := hide (C8.out.trans0 hc)
                clear hnl2 hc
                rcases wants_le s with hw | hw | hw
                · have hws0 : ws = 0 := by rw [HWS.out, hw]
                  subst hws0
                  rw [hw, show decide ((0 : Int) = 2) = false from rfl]
                  clear hw
                  go_wp2_with fail
                  refine (HRW.out _ CC.out).mono ?_
                  rintro e w9 ⟨rfl, -, k9⟩
                  have CF := hide (KK.out.trans0 (CC.out.trans0 k9))
                  clear k9
                  go_wp2_with fail
                  go_ret
                  exact ⟨rfl, CF.out⟩
                · have hws0 : ws = 1 := by rw [HWS.out, hw]
                  subst hws0
                  rw [hw, show decide ((1 : Int) = 2) = false from rfl]
                  clear hw
                  go_wp2_with fail
                  refine (HRW.out _ CC.out).mono ?_
                  rintro e w9 ⟨rfl, -, k9⟩
                  have CF := hide (KK.out.trans0 (CC.out.trans0 k9))
                  clear k9
                  go_wp2_with fail
                  go_ret
                  exact ⟨rfl, CF.out⟩
                · have hws0 : ws = 2 := by rw [HWS.out, hw]
                  subst hws0
                  rw [hw, show decide ((2 : Int) = 2) = true from rfl]
                  clear hw
                  go_wp2_with fail
                  refine (HRW.out _ CC.out).mono ?_
                  rintro e w9 ⟨rfl, -, k9⟩
                  have CF := hide (KK.out.trans0 (CC.out.trans0 k9))
                  clear k9
                  go_wp2_with fail
                  go_ret
                  exact ⟨rfl, CF.out⟩
end Go.Proofs.Ytlcnlcjfnpicgaa
