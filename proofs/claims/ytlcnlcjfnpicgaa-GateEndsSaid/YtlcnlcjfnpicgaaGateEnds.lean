/- GateEnds: every barrier ends in time, and then the gate is open. -/
import Derived.Test.YtlcnlcjfnpicgaaOpenAct
import Derived.Test.YtlcnlcjfnpicgaaGateQ
import Derived.Deep.Cut
import Derived.Deep.CutRange
import Derived.Lib.MinMax
import Derived.Deep.LoopGhost
namespace Go.Proofs.Ytlcnlcjfnpicgaa.gateEnds
open Go.ChangeShapes Go.WideShapes Go.ChangeAt Go.RowKit Go.Deep Go.Maps
open Go.ChangeMaps (open_string shut_string)
set_option linter.unusedVariables false

set_option maxRecDepth 100000 in
set_option maxHeartbeats 4000000 in
theorem walk {W : World} {n p : Int} {v2 : Value} {al : List ActS} (wf0 : (Lit.int .i64 n).wf = true) (wf1 : (Lit.int .i64 p).wf = true) (h2 : RdAct W (fun k => k < W.heap.size) v2 al) (hz : al.length ≤ reachBytes) :
    Calls Try.prog 3 #[.int .i64 n, .int .i64 p, v2] W fun e W' => e = .returned (.bool true) ∧ Chg Non W W' := by
  obtain ⟨A2, c2, rfl, hc2, hm2⟩ := h2.shape
  unfold maxLen at hm2
  unfold reachBytes at hz
  have H2 := hide h2
  clear h2 wf0 wf1
  go_enter Try.func3, Try.ntmps3
  go_wp2_with fail
  refine awake20.mono ?_
  rintro e w1 ⟨rfl, c1⟩
  have H2' := hide (H2.out.c0 c1)
  have C1 := hide c1
  clear H2 c1
  go_upto_if 14 with fail
  obtain ⟨N, hN, hN0⟩ : ∃ N : Int, N ≤ 20 ∧ N = (if 20 < n then 20 else n) := ⟨_, by split <;> omega, rfl⟩
  have HN := hide hN
  have HN0 := hide hN0
  clear hN hN0
  go_cut [0] from 11 (fun v wx => v = .int .i64 N ∧ wx = w1)
  case first =>
    by_cases hn : 20 < n
    · skip
      have hM := hide (show N = 20 by rw [HN0.out, if_pos hn])
      go_wp2_with fail
      go_meet
      case rel => rw [hM.out]; exact ⟨rfl, rfl⟩
    · skip
      have hM := hide (show N = n by rw [HN0.out, if_neg hn])
      go_wp2_with fail
      go_meet
      case rel => rw [hM.out]; exact ⟨rfl, rfl⟩
  case rest =>
    obtain ⟨rfl, rfl⟩ := hcut
    go_upto_if 16 with fail
    obtain ⟨P, hP, hP0⟩ : ∃ P : Int, P ≤ 100 ∧ P = (if 100 < p then 100 else p) := ⟨_, by split <;> omega, rfl⟩
    have HP := hide hP
    have HP0 := hide hP0
    clear hP hP0
    go_cut [1] from 15 (fun v wx => v = .int .i64 P ∧ wx = wc)
    case first =>
      by_cases hn : 100 < p
      · skip
        have hM := hide (show P = 100 by rw [HP0.out, if_pos hn])
        go_wp2_with fail
        go_meet
        case rel => rw [hM.out]; exact ⟨rfl, rfl⟩
      · skip
        have hM := hide (show P = p by rw [HP0.out, if_neg hn])
        go_wp2_with fail
        go_meet
        case rel => rw [hM.out]; exact ⟨rfl, rfl⟩
    case rest =>
      obtain ⟨rfl, rfl⟩ := hcut
      generalize wc = wb at H2' C1 ⊢
      go_wp2_with fail
      refine (gateNew _ N P HN.out).mono ?_
      rintro e w2 ⟨rfl, hg2, k2⟩
      go_wp2_with fail
      refine (refNew _ N P HN.out).mono ?_
      rintro e w3 ⟨v3, m3, rfl, hr3, k3⟩
      obtain ⟨S0, hS0⟩ : ∃ S0, S0 = newS N.toNat (max 1 P) := ⟨_, rfl⟩
      rw [← hS0] at hg2 hr3
      have hP3 := pairNew hg2 k2 hr3 k3
      have hf0 : Fit S0 0 := by rw [hS0]; exact Fit.new _ _ (by omega)
      have hp0 : S0.p = max 1 P := by rw [hS0]; rfl
      obtain ⟨A, c, B, d, rfl⟩ := hP3.shape
      obtain ⟨X, hP4, x8, _⟩ := pairBox hP3 #[.int .i64 S0.p, .bool S0.shut, .bool S0.cut, .int .u64 (S0.id : Int), .string S0.name, .int .u64 (S0.at_ : Int), .int .i64 S0.age, .slice A S0.n c, .slice B S0.res.length d]
      have y8 := Blk.new w3 30 #[.int .i64 S0.p, .bool S0.shut, .bool S0.cut, .int .u64 (S0.id : Int), .string S0.name, .int .u64 (S0.at_ : Int), .int .i64 S0.age, .slice A S0.n c, .slice B S0.res.length d]
      have hA4 := H2'.out.c0 ((k2.trans0 k3).alloc (.cells #[.int .i64 S0.p, .bool S0.shut, .bool S0.cut, .int .u64 (S0.id : Int), .string S0.name, .int .u64 (S0.at_ : Int), .int .i64 S0.age, .slice A S0.n c, .slice B S0.res.length d] 30))
      have Z8 := hide hP3.c.size
      have HP4 := hide hP4
      have X8 := hide x8
      have Y8 := hide y8
      have HA4 := hide hA4
      have HF0 := hide hf0
      have HP00 := hide hp0
      clear hS0 hg2 hr3 hP3 hf0 hp0 hP4 x8 y8 hA4 k2 k3
      go_wp2_with fail
      generalize World.alloc _ _ = w4 at HP4 Y8 HA4 ⊢
      obtain ⟨m, hml, hm60, hmm⟩ : ∃ m, m ≤ al.length ∧ m ≤ 60 ∧ (m = al.length ∨ m = 60 ∧ 60 < al.length) := by
        by_cases h : al.length ≤ 60
        · exact ⟨al.length, Nat.le_refl _, h, .inl rfl⟩
        · exact ⟨60, by omega, Nat.le_refl _, .inr ⟨rfl, by omega⟩⟩
      have HMM := hide hmm
      obtain ⟨G8, hG8⟩ : ∃ G8, G8 = w3.heap.size := ⟨_, rfl⟩
      rw [← hG8] at X8 Y8 Z8 ⊢
      clear hmm hG8
      go_loopw [9] (fun iv wr => ∃ (k : Nat) (mp rv : Value) (cs : Array Value) (T : GSt), iv = .int .i64 (k : Int) ∧ k ≤ m ∧ Pair X wb.heap.size wb wr wb.heap.size mp rv (.agg cs) T T ∧ Blk wr G8 30 cs ∧ Fit T k ∧ T.p = max 1 P) (fun iv _ => m - (intOf iv).toNat)
      case atStart => exact ⟨0, _, _, _, _, rfl, Nat.zero_le _, HP4.out, Y8.out, HF0.out, HP00.out⟩
      case round =>
        obtain ⟨k, mp, rv, cs, T, rfl, hk, hP, hB, hF, hTp⟩ := hrel
        obtain ⟨A1, c1', B1, d1, hcs⟩ := hP.shape
        injection hcs with hcs
        subst hcs
        by_cases h1 : k < m
        · have hd1 : decide ((k : Int) < (al.length : Int)) = true := decide_eq_true (by omega)
          have hd2 : decide ((k : Int) < 60) = true := decide_eq_true (by omega)
          have hRA := H2'.out.chg hP.c fun k hk h => by have := C1.out.size; omega
          obtain ⟨ad, rfl, _, hU, hcell⟩ := hRA.at_ (k := k) (by omega)
          obtain ⟨a, ha⟩ : ∃ a, a = al[k] := ⟨_, rfl⟩
          rw [← ha] at hU hcell
          obtain ⟨y0, y1, y2, y3, y4, y5, y6⟩ := act_field (w := wr) hcell
          obtain ⟨t0, t1, t2, t3, t4, t5, t6⟩ := act_field (w := wr.drew) hcell
          obtain ⟨x0, x1, x2, x3, x4, x5, x6, x7, x8⟩ := blk9 hB
          obtain ⟨z0, z1, z2, z3, z4, z5, z6, z7, z8⟩ := blk9 (hB.c0 ((Chg.refl Non _).drew))
          have hcall := lawPlay (hP.c0 ((Chg.refl Non _).drew)) hF (by omega) a hU
          unfold actC at hcall
          obtain ⟨T2, hT2⟩ : ∃ T2, T2 = playS T a := ⟨_, rfl⟩
          have hF2 := hF.play a hU
          have hp2 := playS_p T a
          rw [← hT2] at hcall hF2 hp2
          have HF2 := hide hF2
          have HP2 := hide (hp2.trans hTp)
          have hkeep := fun (w5 : World) (k5 : Chg (fun k => wb.heap.size ≤ k ∧ ¬ X k) wr.drew w5) => (hB.c0 ((Chg.refl Non wr).drew)).chg k5 (fun h => h.2 X8.out)
          have HC := hide hcall
          have HK := hide hkeep
          have H1 := hide h1
          have hkl : k < al.length := by omega
          have hk9 : (0 : Int) ≤ (k : Int) := by omega
          have hk8 : (k : Int) < (al.length : Int) := by omega
          clear hRA hcell ha hcall hkeep hT2 hF2 hp2 hF hTp hP hB hU h1
          go_upto_region 11 with fail
          go_region_law (first
            | (go_simp; go_at_call 8; refine HC.out.mono ?_; rintro e w5 ⟨v5, mp5, rv5, rfl, hP5, k5⟩; obtain ⟨A5, c5, B5, d5, hv5⟩ := hP5.shape; subst hv5; obtain ⟨e0, e1, e2, e3, e4, e5, e6, e7, e8⟩ := blk9 (HK.out _ k5); obtain ⟨f0, f1, f2, f3, f4, f5, f6, f7, f8⟩ := frz9 (HK.out _ k5)))
          all_goals
            (try simp only [List.getElem_toArray, List.getElem_cons_zero, List.getElem_cons_succ, Act.put, List.setIfInBounds_toArray, List.set_cons_zero, List.set_cons_succ])
            obtain ⟨hB9, hC9⟩ := put9 (HK.out _ k5) (.int .i64 T2.p) (.bool T2.shut) (.bool T2.cut) (.int .u64 (T2.id : Int)) (.string T2.name) (.int .u64 (T2.at_ : Int)) (.int .i64 T2.age) (.slice A5 T2.n c5) (.slice B5 T2.res.length d5)
            clear e0 e1 e2 e3 e4 e5 e6 e7 e8 f0 f1 f2 f3 f4 f5 f6 f7 f8 x0 x1 x2 x3 x4 x5 x6 x7 x8 z0 z1 z2 z3 z4 z5 z6 z7 z8 y0 y1 y2 y3 y4 y5 y6 t0 t1 t2 t3 t4 t5 t6
            generalize World.setCell _ _ _ = w9 at hB9 hC9 ⊢
            go_wp2_with fail
            go_wp2_with fail
            go_round
            case rel => first | exact ⟨k + 1, mp5, rv5, _, T2, by go_num, by have := H1.out; omega, hP5.chg hC9 (fun k hk => by subst hk; exact ⟨X8.out, Z8.out⟩), hB9, HF2.out, HP2.out⟩ | ((repeat apply Exists.intro); exact ⟨⟨k + 1, mp5, rv5, _, T2, by go_num, by have := H1.out; omega, hP5.chg hC9 (fun k hk => by subst hk; exact ⟨X8.out, Z8.out⟩), hB9, HF2.out, HP2.out⟩, rfl⟩)
            case measure => have := H1.out; simp [intOf]; omega
        · have hkm : k = m := by omega
          have hT1 : T.res.length ≤ 100000 := by have := hF.res; omega
          have HR := hide (show T.res.length ≤ 60 ∧ 0 ≤ T.age ∧ T.age ≤ 60 by have := hF.res; have := hF.age; omega)
          have HTp := hide hTp
          have hww := gateWants hP.ga
          have HPP := hide hP
          rcases HMM.out with hmm | ⟨hmm, hm'⟩
          · have hd1 : decide ((k : Int) < (al.length : Int)) = false := decide_eq_false (by omega)
            have hn1 : ¬ k < al.length := by omega
            clear hkm hmm hk h1 hF hTp hP hB
            go_wp2_with fail
            refine hww.mono ?_
            rintro e w5 ⟨rfl, hq5⟩
            have HP5 := hide (HPP.out.c0 ((Chg.refl Non _).quiet hq5))
            clear hq5 hww HPP
            go_upto_if 45 with fail
            go_cut [7] from 43 (fun v7 wx => v7 = .pointer (some ⟨wb.heap.size, 0, none⟩) ∧ ∃ (mp7 rv7 : Value) (T7 : GSt), Pair X wb.heap.size wb wx wb.heap.size mp7 rv7 (.agg #[.int .i64 T.p, .bool T.shut, .bool T.cut, .int .u64 (T.id : Int), .string T.name, .int .u64 (T.at_ : Int), .int .i64 T.age, .slice A1 T.n c1', .slice B1 T.res.length d1]) T7 T ∧ wantsS T7 ≠ 1 ∧ T7.p = max 1 P ∧ T7.res.length ≤ 61 ∧ 0 ≤ T7.age ∧ T7.age ≤ 60)
            case first =>
              rcases wants_le T with hw | hw | hw
              · have HW := hide hw
                rw [hw]
                clear hw
                go_wp2_with fail
                go_meet
                case rel => exact ⟨rfl, _, _, T, HP5.out, by rw [HW.out]; decide, HTp.out, by have := HR.out; omega, by have := HR.out; omega, by have := HR.out; omega⟩
              · have HW := hide hw
                rw [hw]
                clear hw
                go_wp2_with fail
                refine (pairGateLogged HP5.out hT1 5).mono ?_
                rintro e w6 ⟨A6, n6, c6, rfl, -, mp6, rv6, hP6, -⟩
                have HP6 := hide hP6
                clear hP6
                go_wp2_with fail
                go_meet
                case rel =>
                  refine ⟨rfl, _, _, logS T 5, HP6.out, ?_, ?_, ?_, ?_, ?_⟩
                  · rw [logS, if_pos HW.out]
                    have hsh := wants_shut (s := T) (by rw [HW.out]; decide)
                    rw [wantsS, if_neg (show ¬ T.shut = false by rw [hsh]; decide), if_neg (show ¬ true = false by decide)]
                    split <;> decide
                  · rw [logS, if_pos HW.out]; exact HTp.out
                  · rw [logS, if_pos HW.out]; have := HR.out; show T.res.length ≤ 61; omega
                  · rw [logS, if_pos HW.out]; exact HR.out.2.1
                  · rw [logS, if_pos HW.out]; exact HR.out.2.2
              · have HW := hide hw
                rw [hw]
                clear hw
                go_wp2_with fail
                go_meet
                case rel => exact ⟨rfl, _, _, T, HP5.out, by rw [HW.out]; decide, HTp.out, by have := HR.out; omega, by have := HR.out; omega, by have := HR.out; omega⟩
            case rest =>
              obtain ⟨rfl, mp7, rv7, T7, hP7, hw7, hp7, hr7, ha7, ha7'⟩ := hcut
              have HP7 := hide hP7
              have HI7 := hide (show wantsS T7 ≠ 1 ∧ T7.p = max 1 P ∧ T7.res.length ≤ 61 ∧ 0 ≤ T7.age ∧ T7.age ≤ 60 from ⟨hw7, hp7, hr7, ha7, ha7'⟩)
              clear hP7 hw7 hp7 hr7 ha7 ha7' HP5
              have hP100 := HP.out
              obtain ⟨M, hM, hM1⟩ : ∃ M : Nat, (M : Int) = max P 1 ∧ M ≤ 100 := ⟨(max P 1).toNat, by omega, by omega⟩
              have HM := hide hM
              clear hM
              have hmx : max P 1 = (M : Int) := HM.out.symm
              go_upto_region 15 with fail
              go_loopw [10] (fun iv wr => ∃ (q : Nat) (mp8 rv8 : Value) (T8 : GSt), iv = .int .i64 (q : Int) ∧ q ≤ M ∧ Pair X wb.heap.size wb wr wb.heap.size mp8 rv8 (.agg #[.int .i64 T.p, .bool T.shut, .bool T.cut, .int .u64 (T.id : Int), .string T.name, .int .u64 (T.at_ : Int), .int .i64 T.age, .slice A1 T.n c1', .slice B1 T.res.length d1]) T8 T ∧ wantsS T8 ≠ 1 ∧ (0 < q → T8.shut = true → wantsS T8 = 0 → T8.age < T8.p) ∧ (T8.shut = true → wantsS T8 = 0 → (q : Int) ≤ T8.age) ∧ T8.p = (M : Int) ∧ T8.res.length ≤ 61 + q ∧ 0 ≤ T8.age ∧ T8.age ≤ 60 + q) (fun iv _ => M - (intOf iv).toNat)
              case atStart =>
                have hI := HI7.out
                exact ⟨0, _, _, T7, rfl, Nat.zero_le _, HP7.out, hI.1, (fun h => absurd h (Nat.lt_irrefl _)), (fun _ _ => hI.2.2.2.1), by rw [hI.2.1]; have := HM.out; omega, hI.2.2.1, hI.2.2.2.1, by have := hI.2.2.2.2; omega⟩
              case round =>
                obtain ⟨q, mp8, rv8, T8, rfl, hq, hP8, hw8, hag, hka, hp8, hr8, ha8, ha8'⟩ := hrel
                have hww8 := gateWants hP8.ga
                have HQ := hide hP8
                have HR8 := hide (show T8.res.length ≤ 100000 by omega)
                by_cases h1 : q < M
                · have hd1 : decide ((q : Int) < (M : Int)) = true := decide_eq_true (by omega)
                  rcases wants_le T8 with hw | hw | hw
                  · rw [hw] at hww8
                    obtain ⟨t1, t2, t3⟩ := tick_step (k := q) hw8 hka
                    obtain ⟨b1, b2, b3⟩ := tick_bnd T8
                    have hag8 : -1000000000 ≤ T8.age ∧ T8.age ≤ 1000000000 := by omega
                    obtain ⟨T9, hT9⟩ : ∃ T9, T9 = tickS T8 := ⟨_, rfl⟩
                    rw [← hT9] at t1 t2 t3 b1 b2 b3
                    have HREL := hide (show wantsS T9 ≠ 1 ∧ (0 < q + 1 → T9.shut = true → wantsS T9 = 0 → T9.age < T9.p) ∧ (T9.shut = true → wantsS T9 = 0 → ((q + 1 : Nat) : Int) ≤ T9.age) ∧ T9.p = (M : Int) ∧ T9.res.length ≤ 61 + (q + 1) ∧ 0 ≤ T9.age ∧ T9.age ≤ 60 + ((q + 1 : Nat) : Int) from ⟨t1, (fun _ h h' => by rw [t3]; exact (t2 h h').2), (fun h h' => (t2 h h').1), t3.trans hp8, by omega, by omega, by omega⟩)
                    have HT9 := hide hT9
                    have H1 := hide h1
                    clear t1 t2 t3 b1 b2 b3 hT9 hP8 hw8 hag hka hp8 hr8 ha8 ha8' hw hq h1
                    go_wp2_with fail
                    refine hww8.mono ?_
                    rintro e w5' ⟨rfl, hq5⟩
                    have HQ2 := hide (HQ.out.c0 ((Chg.refl Non _).quiet hq5))
                    clear hq5 hww8 HQ
                    go_wp2_with fail
                    refine (pairGateTick HQ2.out HR8.out hag8).mono ?_
                    rintro e w6' ⟨rfl, mp9, rv9, hP9, -⟩
                    rw [← HT9.out] at hP9
                    have HP9 := hide hP9
                    clear hP9 HQ2
                    go_wp2_with fail
                    go_wp2_with fail
                    go_round
                    case rel => first | exact ⟨q + 1, mp9, rv9, T9, by go_num, by have := H1.out; omega, HP9.out, HREL.out⟩ | ((repeat apply Exists.intro); exact ⟨⟨q + 1, mp9, rv9, T9, by go_num, by have := H1.out; omega, HP9.out, HREL.out⟩, rfl⟩)
                    case measure => have := H1.out; simp [intOf]; omega
                  · exact absurd hw hw8
                  · rw [hw] at hww8
                    have HW2 := hide hw
                    clear hP8 hw8 hag hka hp8 hr8 ha8 ha8' hw hq
                    go_wp2_with fail
                    refine hww8.mono ?_
                    rintro e w5' ⟨rfl, hq5⟩
                    replace HQ := hide (HQ.out.c0 ((Chg.refl Non _).quiet hq5))
                    clear hq5 hww8
                    go_wp2_with fail
                    refine (gateWants HQ.out.ga).mono ?_
                    rintro e w8 ⟨rfl, hq8⟩
                    rw [HW2.out]
                    have H8 := hide (HQ.out.c0 ((Chg.refl Non _).quiet hq8))
                    clear hq8
                    go_wp2_with fail
                    refine (pairGateLogged H8.out (by have := HR8.out; omega) 6).mono ?_
                    rintro e w9 ⟨A9, n9, c9, rfl, -, mp9, rv9, hP9, -⟩
                    obtain ⟨T9, hT9⟩ : ∃ T9, T9 = logS T8 6 := ⟨_, rfl⟩
                    have HS9 := hide (show T9.shut = false by rw [hT9, logS, if_neg (by rw [HW2.out]; decide), if_pos HW2.out])
                    rw [← hT9] at hP9
                    have H9 := hide hP9
                    clear hP9 hT9
                    have hsh := gateShut H9.out.ga
                    rw [HS9.out] at hsh
                    go_wp2_with fail
                    refine hsh.mono ?_
                    rintro e w10 ⟨rfl, rfl⟩
                    clear hsh
                    have W9 := hide (show wantsS T9 = 0 by rw [wantsS, if_pos HS9.out])
                    go_wp2_with fail
                    refine (gateWants H9.out.ga).mono ?_
                    rintro e w11 ⟨rfl, hq8⟩
                    rw [W9.out]
                    have H11 := hide (H9.out.c0 ((Chg.refl Non _).quiet hq8))
                    clear hq8
                    have R9 := hide (show retryS T9 = [] by rw [retryS, HS9.out]; rfl)
                    go_wp2_with fail
                    refine (gateRetry H11.out.ga).mono ?_
                    rintro e w12 ⟨v12, rfl, ho12, c12⟩
                    rw [R9.out] at ho12
                    obtain ⟨A12, k12, rfl, _, _⟩ := (RdV.of_own ho12).shape
                    have HF := hide (C1.out.trans (H11.out.c.trans0 c12) fun k hk h => by have := C1.out.size; omega)
                    clear ho12 c12
                    go_wp2_with fail
                    go_ret
                    exact ⟨rfl, HF.out⟩
                · obtain rfl : q = M := by omega
                  have hd1 : decide ((q : Int) < (q : Int)) = false := decide_eq_false (by omega)
                  have key : T8.shut = false ∨ wantsS T8 = 2 := by
                    cases hs : T8.shut
                    · exact .inl rfl
                    · right
                      rcases wants_le T8 with hw | hw | hw
                      · exfalso
                        have hq1 : 0 < q := by have := HM.out; omega
                        have := hag hq1 hs hw
                        have := hka hs hw
                        omega
                      · exact absurd hw hw8
                      · exact hw
                  rcases key with hs8 | hw
                  · have HS8 := hide hs8
                    clear hP8 hw8 hag hka hp8 hr8 ha8 ha8' hq h1 hs8 hww8
                    have HS9 := HS8
                    have H9 := HQ
                    have T9e := hide (show wantsS T8 = 0 by rw [wantsS, if_pos HS8.out])
                    go_wp2_with fail
                    refine (gateWants H9.out.ga).mono ?_
                    rintro e w9 ⟨rfl, hq8⟩
                    rw [T9e.out]
                    replace H9 := hide (H9.out.c0 ((Chg.refl Non _).quiet hq8))
                    clear hq8
                    have hsh := gateShut H9.out.ga
                    rw [HS9.out] at hsh
                    go_wp2_with fail
                    refine hsh.mono ?_
                    rintro e w10 ⟨rfl, rfl⟩
                    clear hsh
                    have W9 := hide (show wantsS T8 = 0 by rw [wantsS, if_pos HS9.out])
                    go_wp2_with fail
                    refine (gateWants H9.out.ga).mono ?_
                    rintro e w11 ⟨rfl, hq8⟩
                    rw [W9.out]
                    have H11 := hide (H9.out.c0 ((Chg.refl Non _).quiet hq8))
                    clear hq8
                    have R9 := hide (show retryS T8 = [] by rw [retryS, HS9.out]; rfl)
                    go_wp2_with fail
                    refine (gateRetry H11.out.ga).mono ?_
                    rintro e w12 ⟨v12, rfl, ho12, c12⟩
                    rw [R9.out] at ho12
                    obtain ⟨A12, k12, rfl, _, _⟩ := (RdV.of_own ho12).shape
                    have HF := hide (C1.out.trans (H11.out.c.trans0 c12) fun k hk h => by have := C1.out.size; omega)
                    clear ho12 c12
                    go_wp2_with fail
                    go_ret
                    exact ⟨rfl, HF.out⟩
                  · have HW2 := hide hw
                    clear hP8 hw8 hag hka hp8 hr8 ha8 ha8' hq h1 hw hww8
                    go_wp2_with fail
                    refine (gateWants HQ.out.ga).mono ?_
                    rintro e w8 ⟨rfl, hq8⟩
                    rw [HW2.out]
                    have H8 := hide (HQ.out.c0 ((Chg.refl Non _).quiet hq8))
                    clear hq8
                    go_wp2_with fail
                    refine (pairGateLogged H8.out (by have := HR8.out; omega) 6).mono ?_
                    rintro e w9 ⟨A9, n9, c9, rfl, -, mp9, rv9, hP9, -⟩
                    obtain ⟨T9, hT9⟩ : ∃ T9, T9 = logS T8 6 := ⟨_, rfl⟩
                    have HS9 := hide (show T9.shut = false by rw [hT9, logS, if_neg (by rw [HW2.out]; decide), if_pos HW2.out])
                    rw [← hT9] at hP9
                    have H9 := hide hP9
                    clear hP9 hT9
                    have hsh := gateShut H9.out.ga
                    rw [HS9.out] at hsh
                    go_wp2_with fail
                    refine hsh.mono ?_
                    rintro e w10 ⟨rfl, rfl⟩
                    clear hsh
                    have W9 := hide (show wantsS T9 = 0 by rw [wantsS, if_pos HS9.out])
                    go_wp2_with fail
                    refine (gateWants H9.out.ga).mono ?_
                    rintro e w11 ⟨rfl, hq8⟩
                    rw [W9.out]
                    have H11 := hide (H9.out.c0 ((Chg.refl Non _).quiet hq8))
                    clear hq8
                    have R9 := hide (show retryS T9 = [] by rw [retryS, HS9.out]; rfl)
                    go_wp2_with fail
                    refine (gateRetry H11.out.ga).mono ?_
                    rintro e w12 ⟨v12, rfl, ho12, c12⟩
                    rw [R9.out] at ho12
                    obtain ⟨A12, k12, rfl, _, _⟩ := (RdV.of_own ho12).shape
                    have HF := hide (C1.out.trans (H11.out.c.trans0 c12) fun k hk h => by have := C1.out.size; omega)
                    clear ho12 c12
                    go_wp2_with fail
                    go_ret
                    exact ⟨rfl, HF.out⟩
          · have hd1 : decide ((k : Int) < (al.length : Int)) = true := decide_eq_true (by omega)
            have hd2 : decide ((k : Int) < 60) = false := decide_eq_false (by omega)
            have hn1 : k < al.length := by omega
            have hn2 : ¬ k < 60 := by omega
            have hn3 : ¬ (k : Int) < 60 := by omega
            clear hkm hmm hm' hk h1 hF hTp hP hB
            go_wp2_with fail
            refine hww.mono ?_
            rintro e w5 ⟨rfl, hq5⟩
            have HP5 := hide (HPP.out.c0 ((Chg.refl Non _).quiet hq5))
            clear hq5 hww HPP
            go_upto_if 45 with fail
            go_cut [7] from 43 (fun v7 wx => v7 = .pointer (some ⟨wb.heap.size, 0, none⟩) ∧ ∃ (mp7 rv7 : Value) (T7 : GSt), Pair X wb.heap.size wb wx wb.heap.size mp7 rv7 (.agg #[.int .i64 T.p, .bool T.shut, .bool T.cut, .int .u64 (T.id : Int), .string T.name, .int .u64 (T.at_ : Int), .int .i64 T.age, .slice A1 T.n c1', .slice B1 T.res.length d1]) T7 T ∧ wantsS T7 ≠ 1 ∧ T7.p = max 1 P ∧ T7.res.length ≤ 61 ∧ 0 ≤ T7.age ∧ T7.age ≤ 60)
            case first =>
              rcases wants_le T with hw | hw | hw
              · have HW := hide hw
                rw [hw]
                clear hw
                go_wp2_with fail
                go_meet
                case rel => exact ⟨rfl, _, _, T, HP5.out, by rw [HW.out]; decide, HTp.out, by have := HR.out; omega, by have := HR.out; omega, by have := HR.out; omega⟩
              · have HW := hide hw
                rw [hw]
                clear hw
                go_wp2_with fail
                refine (pairGateLogged HP5.out hT1 5).mono ?_
                rintro e w6 ⟨A6, n6, c6, rfl, -, mp6, rv6, hP6, -⟩
                have HP6 := hide hP6
                clear hP6
                go_wp2_with fail
                go_meet
                case rel =>
                  refine ⟨rfl, _, _, logS T 5, HP6.out, ?_, ?_, ?_, ?_, ?_⟩
                  · rw [logS, if_pos HW.out]
                    have hsh := wants_shut (s := T) (by rw [HW.out]; decide)
                    rw [wantsS, if_neg (show ¬ T.shut = false by rw [hsh]; decide), if_neg (show ¬ true = false by decide)]
                    split <;> decide
                  · rw [logS, if_pos HW.out]; exact HTp.out
                  · rw [logS, if_pos HW.out]; have := HR.out; show T.res.length ≤ 61; omega
                  · rw [logS, if_pos HW.out]; exact HR.out.2.1
                  · rw [logS, if_pos HW.out]; exact HR.out.2.2
              · have HW := hide hw
                rw [hw]
                clear hw
                go_wp2_with fail
                go_meet
                case rel => exact ⟨rfl, _, _, T, HP5.out, by rw [HW.out]; decide, HTp.out, by have := HR.out; omega, by have := HR.out; omega, by have := HR.out; omega⟩
            case rest =>
              obtain ⟨rfl, mp7, rv7, T7, hP7, hw7, hp7, hr7, ha7, ha7'⟩ := hcut
              have HP7 := hide hP7
              have HI7 := hide (show wantsS T7 ≠ 1 ∧ T7.p = max 1 P ∧ T7.res.length ≤ 61 ∧ 0 ≤ T7.age ∧ T7.age ≤ 60 from ⟨hw7, hp7, hr7, ha7, ha7'⟩)
              clear hP7 hw7 hp7 hr7 ha7 ha7' HP5
              have hP100 := HP.out
              obtain ⟨M, hM, hM1⟩ : ∃ M : Nat, (M : Int) = max P 1 ∧ M ≤ 100 := ⟨(max P 1).toNat, by omega, by omega⟩
              have HM := hide hM
              clear hM
              have hmx : max P 1 = (M : Int) := HM.out.symm
              go_upto_region 15 with fail
              go_loopw [10] (fun iv wr => ∃ (q : Nat) (mp8 rv8 : Value) (T8 : GSt), iv = .int .i64 (q : Int) ∧ q ≤ M ∧ Pair X wb.heap.size wb wr wb.heap.size mp8 rv8 (.agg #[.int .i64 T.p, .bool T.shut, .bool T.cut, .int .u64 (T.id : Int), .string T.name, .int .u64 (T.at_ : Int), .int .i64 T.age, .slice A1 T.n c1', .slice B1 T.res.length d1]) T8 T ∧ wantsS T8 ≠ 1 ∧ (0 < q → T8.shut = true → wantsS T8 = 0 → T8.age < T8.p) ∧ (T8.shut = true → wantsS T8 = 0 → (q : Int) ≤ T8.age) ∧ T8.p = (M : Int) ∧ T8.res.length ≤ 61 + q ∧ 0 ≤ T8.age ∧ T8.age ≤ 60 + q) (fun iv _ => M - (intOf iv).toNat)
              case atStart =>
                have hI := HI7.out
                exact ⟨0, _, _, T7, rfl, Nat.zero_le _, HP7.out, hI.1, (fun h => absurd h (Nat.lt_irrefl _)), (fun _ _ => hI.2.2.2.1), by rw [hI.2.1]; have := HM.out; omega, hI.2.2.1, hI.2.2.2.1, by have := hI.2.2.2.2; omega⟩
              case round =>
                obtain ⟨q, mp8, rv8, T8, rfl, hq, hP8, hw8, hag, hka, hp8, hr8, ha8, ha8'⟩ := hrel
                have hww8 := gateWants hP8.ga
                have HQ := hide hP8
                have HR8 := hide (show T8.res.length ≤ 100000 by omega)
                by_cases h1 : q < M
                · have hd1 : decide ((q : Int) < (M : Int)) = true := decide_eq_true (by omega)
                  rcases wants_le T8 with hw | hw | hw
                  · rw [hw] at hww8
                    obtain ⟨t1, t2, t3⟩ := tick_step (k := q) hw8 hka
                    obtain ⟨b1, b2, b3⟩ := tick_bnd T8
                    have hag8 : -1000000000 ≤ T8.age ∧ T8.age ≤ 1000000000 := by omega
                    obtain ⟨T9, hT9⟩ : ∃ T9, T9 = tickS T8 := ⟨_, rfl⟩
                    rw [← hT9] at t1 t2 t3 b1 b2 b3
                    have HREL := hide (show wantsS T9 ≠ 1 ∧ (0 < q + 1 → T9.shut = true → wantsS T9 = 0 → T9.age < T9.p) ∧ (T9.shut = true → wantsS T9 = 0 → ((q + 1 : Nat) : Int) ≤ T9.age) ∧ T9.p = (M : Int) ∧ T9.res.length ≤ 61 + (q + 1) ∧ 0 ≤ T9.age ∧ T9.age ≤ 60 + ((q + 1 : Nat) : Int) from ⟨t1, (fun _ h h' => by rw [t3]; exact (t2 h h').2), (fun h h' => (t2 h h').1), t3.trans hp8, by omega, by omega, by omega⟩)
                    have HT9 := hide hT9
                    have H1 := hide h1
                    clear t1 t2 t3 b1 b2 b3 hT9 hP8 hw8 hag hka hp8 hr8 ha8 ha8' hw hq h1
                    go_wp2_with fail
                    refine hww8.mono ?_
                    rintro e w5' ⟨rfl, hq5⟩
                    have HQ2 := hide (HQ.out.c0 ((Chg.refl Non _).quiet hq5))
                    clear hq5 hww8 HQ
                    go_wp2_with fail
                    refine (pairGateTick HQ2.out HR8.out hag8).mono ?_
                    rintro e w6' ⟨rfl, mp9, rv9, hP9, -⟩
                    rw [← HT9.out] at hP9
                    have HP9 := hide hP9
                    clear hP9 HQ2
                    go_wp2_with fail
                    go_wp2_with fail
                    go_round
                    case rel => first | exact ⟨q + 1, mp9, rv9, T9, by go_num, by have := H1.out; omega, HP9.out, HREL.out⟩ | ((repeat apply Exists.intro); exact ⟨⟨q + 1, mp9, rv9, T9, by go_num, by have := H1.out; omega, HP9.out, HREL.out⟩, rfl⟩)
                    case measure => have := H1.out; simp [intOf]; omega
                  · exact absurd hw hw8
                  · rw [hw] at hww8
                    have HW2 := hide hw
                    clear hP8 hw8 hag hka hp8 hr8 ha8 ha8' hw hq
                    go_wp2_with fail
                    refine hww8.mono ?_
                    rintro e w5' ⟨rfl, hq5⟩
                    replace HQ := hide (HQ.out.c0 ((Chg.refl Non _).quiet hq5))
                    clear hq5 hww8
                    go_wp2_with fail
                    refine (gateWants HQ.out.ga).mono ?_
                    rintro e w8 ⟨rfl, hq8⟩
                    rw [HW2.out]
                    have H8 := hide (HQ.out.c0 ((Chg.refl Non _).quiet hq8))
                    clear hq8
                    go_wp2_with fail
                    refine (pairGateLogged H8.out (by have := HR8.out; omega) 6).mono ?_
                    rintro e w9 ⟨A9, n9, c9, rfl, -, mp9, rv9, hP9, -⟩
                    obtain ⟨T9, hT9⟩ : ∃ T9, T9 = logS T8 6 := ⟨_, rfl⟩
                    have HS9 := hide (show T9.shut = false by rw [hT9, logS, if_neg (by rw [HW2.out]; decide), if_pos HW2.out])
                    rw [← hT9] at hP9
                    have H9 := hide hP9
                    clear hP9 hT9
                    have hsh := gateShut H9.out.ga
                    rw [HS9.out] at hsh
                    go_wp2_with fail
                    refine hsh.mono ?_
                    rintro e w10 ⟨rfl, rfl⟩
                    clear hsh
                    have W9 := hide (show wantsS T9 = 0 by rw [wantsS, if_pos HS9.out])
                    go_wp2_with fail
                    refine (gateWants H9.out.ga).mono ?_
                    rintro e w11 ⟨rfl, hq8⟩
                    rw [W9.out]
                    have H11 := hide (H9.out.c0 ((Chg.refl Non _).quiet hq8))
                    clear hq8
                    have R9 := hide (show retryS T9 = [] by rw [retryS, HS9.out]; rfl)
                    go_wp2_with fail
                    refine (gateRetry H11.out.ga).mono ?_
                    rintro e w12 ⟨v12, rfl, ho12, c12⟩
                    rw [R9.out] at ho12
                    obtain ⟨A12, k12, rfl, _, _⟩ := (RdV.of_own ho12).shape
                    have HF := hide (C1.out.trans (H11.out.c.trans0 c12) fun k hk h => by have := C1.out.size; omega)
                    clear ho12 c12
                    go_wp2_with fail
                    go_ret
                    exact ⟨rfl, HF.out⟩
                · obtain rfl : q = M := by omega
                  have hd1 : decide ((q : Int) < (q : Int)) = false := decide_eq_false (by omega)
                  have key : T8.shut = false ∨ wantsS T8 = 2 := by
                    cases hs : T8.shut
                    · exact .inl rfl
                    · right
                      rcases wants_le T8 with hw | hw | hw
                      · exfalso
                        have hq1 : 0 < q := by have := HM.out; omega
                        have := hag hq1 hs hw
                        have := hka hs hw
                        omega
                      · exact absurd hw hw8
                      · exact hw
                  rcases key with hs8 | hw
                  · have HS8 := hide hs8
                    clear hP8 hw8 hag hka hp8 hr8 ha8 ha8' hq h1 hs8 hww8
                    have HS9 := HS8
                    have H9 := HQ
                    have T9e := hide (show wantsS T8 = 0 by rw [wantsS, if_pos HS8.out])
                    go_wp2_with fail
                    refine (gateWants H9.out.ga).mono ?_
                    rintro e w9 ⟨rfl, hq8⟩
                    rw [T9e.out]
                    replace H9 := hide (H9.out.c0 ((Chg.refl Non _).quiet hq8))
                    clear hq8
                    have hsh := gateShut H9.out.ga
                    rw [HS9.out] at hsh
                    go_wp2_with fail
                    refine hsh.mono ?_
                    rintro e w10 ⟨rfl, rfl⟩
                    clear hsh
                    have W9 := hide (show wantsS T8 = 0 by rw [wantsS, if_pos HS9.out])
                    go_wp2_with fail
                    refine (gateWants H9.out.ga).mono ?_
                    rintro e w11 ⟨rfl, hq8⟩
                    rw [W9.out]
                    have H11 := hide (H9.out.c0 ((Chg.refl Non _).quiet hq8))
                    clear hq8
                    have R9 := hide (show retryS T8 = [] by rw [retryS, HS9.out]; rfl)
                    go_wp2_with fail
                    refine (gateRetry H11.out.ga).mono ?_
                    rintro e w12 ⟨v12, rfl, ho12, c12⟩
                    rw [R9.out] at ho12
                    obtain ⟨A12, k12, rfl, _, _⟩ := (RdV.of_own ho12).shape
                    have HF := hide (C1.out.trans (H11.out.c.trans0 c12) fun k hk h => by have := C1.out.size; omega)
                    clear ho12 c12
                    go_wp2_with fail
                    go_ret
                    exact ⟨rfl, HF.out⟩
                  · have HW2 := hide hw
                    clear hP8 hw8 hag hka hp8 hr8 ha8 ha8' hq h1 hw hww8
                    go_wp2_with fail
                    refine (gateWants HQ.out.ga).mono ?_
                    rintro e w8 ⟨rfl, hq8⟩
                    rw [HW2.out]
                    have H8 := hide (HQ.out.c0 ((Chg.refl Non _).quiet hq8))
                    clear hq8
                    go_wp2_with fail
                    refine (pairGateLogged H8.out (by have := HR8.out; omega) 6).mono ?_
                    rintro e w9 ⟨A9, n9, c9, rfl, -, mp9, rv9, hP9, -⟩
                    obtain ⟨T9, hT9⟩ : ∃ T9, T9 = logS T8 6 := ⟨_, rfl⟩
                    have HS9 := hide (show T9.shut = false by rw [hT9, logS, if_neg (by rw [HW2.out]; decide), if_pos HW2.out])
                    rw [← hT9] at hP9
                    have H9 := hide hP9
                    clear hP9 hT9
                    have hsh := gateShut H9.out.ga
                    rw [HS9.out] at hsh
                    go_wp2_with fail
                    refine hsh.mono ?_
                    rintro e w10 ⟨rfl, rfl⟩
                    clear hsh
                    have W9 := hide (show wantsS T9 = 0 by rw [wantsS, if_pos HS9.out])
                    go_wp2_with fail
                    refine (gateWants H9.out.ga).mono ?_
                    rintro e w11 ⟨rfl, hq8⟩
                    rw [W9.out]
                    have H11 := hide (H9.out.c0 ((Chg.refl Non _).quiet hq8))
                    clear hq8
                    have R9 := hide (show retryS T9 = [] by rw [retryS, HS9.out]; rfl)
                    go_wp2_with fail
                    refine (gateRetry H11.out.ga).mono ?_
                    rintro e w12 ⟨v12, rfl, ho12, c12⟩
                    rw [R9.out] at ho12
                    obtain ⟨A12, k12, rfl, _, _⟩ := (RdV.of_own ho12).shape
                    have HF := hide (C1.out.trans (H11.out.c.trans0 c12) fun k hk h => by have := C1.out.size; omega)
                    clear ho12 c12
                    go_wp2_with fail
                    go_ret
                    exact ⟨rfl, HF.out⟩

set_option maxRecDepth 100000 in
theorem contract (H : Type) (enc : TypeId × Value → H) (W : World) (base : Nat) (args : Array Value) (ds gs : List (DataW H)) (before : List MemPlace)
    (hval : ∀ (j : Nat) t v, Try.f3.params[j]? = some t → args[j]? = some v → Value.okWide Try.prog W .any base t v)
    (hW : DataW.Whole enc Try.prog Try.f3.params.toList Rows.gateEndsSpec.vars false W args.toList ds gs before) (hsz : (DataW.weightsEach Try.prog (Try.f3.params.toList ++ Rows.gateEndsSpec.plain.varTypes Try.prog) (ds ++ gs)).all (· ≤ reachBytes) = true) :
    Calls Try.prog 3 args W fun e W' => ∃ v, e = .returned v ∧ Rows.gateEndsSpec.post enc Try.prog Try.f3 false true false false W args v W' := by
  have hW' := hW
  obtain ⟨p, q, hA0, hV, rfl, hfz, hnd⟩ := hW
  have hA : DataW.TrodAll enc Try.prog W 0 (fun _ => true) true Try.f3.params.toList args.toList ds p := hA0
  rw [Try.params3] at hA hval hsz
  obtain ⟨v0, vs0, d0, ds0, p0, q0, hargs, rfl, rfl, h0, r0⟩ := trodAll_cons hA
  obtain ⟨v1, vs1, d1, ds1, p1, q1, rfl, rfl, rfl, h1, r1⟩ := trodAll_cons r0
  obtain ⟨v2, vs2, d2, ds2, p2, q2, rfl, rfl, rfl, h2, r2⟩ := trodAll_cons r1
  obtain ⟨rfl, rfl, rfl⟩ := trodAll_nil r2
  obtain rfl : args = #[v0, v1, v2] := by cases args; simp_all
  obtain ⟨rfl, rfl⟩ := trodVars_none hV
  obtain ⟨a0, rfl, rfl, rfl, w0⟩ := open_int Try.underlying3 (hval 0 3 v0 rfl rfl) h0
  obtain ⟨a1, rfl, rfl, rfl, w1⟩ := open_int Try.underlying3 (hval 1 3 v1 rfl rfl) h1
  have k2 := h2
  have lt2 : ∀ x ∈ p2, x.block < W.heap.size := by obtain ⟨m, hm⟩ := k2; exact DataW.trod_lt m _ _ _ hm
  obtain ⟨l2, w2, z2⟩ := openAct (hval 2 22 v2 rfl rfl) h2
  have s2 : l2.length ≤ reachBytes := z2.2 _ fun e s he => by
    have := sized_slice hsz (j := 2) rfl (by rw [he]; rfl) Try.underlying22
    exact Nat.le_trans (Nat.le_mul_of_pos_right _ (of_decide_eq_true (by kernel_rfl))) this
  refine (walk w0 w1 w2 s2).mono fun e W' ⟨he, bel0⟩ => ?_
  have bel := bel0.below
  subst he
  exact ⟨_, rfl, _, _, _, [], _, [], hW', trodAll_mk1 (shut_bool Try.underlying4 _), (trodAll_cons_mk (shut_int Try.underlying3 w0) (trodAll_cons_mk (shut_int Try.underlying3 w1) (trodAll_cons_mk (Below.trod laidOut (by kernel_rfl) (of_decide_eq_true (by kernel_rfl)) k2 bel lt2) trodAll_mk0))), rfl, bel.frame _, fun h => by cases h⟩

set_option maxRecDepth 100000 in
theorem lifted (os : Os) (started : os.Started) (H : Type) (enc : TypeId × Value → H) :
    ReturnsInHanded {} Try.checked os 3 .any (Rows.gateEndsSpec.pre6 enc Try.prog Try.f3 Rows.gateEndsRow.domain false) (Rows.gateEndsSpec.post enc Try.prog Try.f3 false true false false) := by
  refine returnsInHanded_of_change_sized (C := Try.checked) own started (by kernel_rfl) Try.func3
    (ChangeSpec.witness6 (enc := enc) (C := Try.checked) false ⟨#[], #[.int .i64 0, .int .i64 0, .slice none 0 0], []⟩ 8 (by kernel_rfl) (by kernel_rfl) (by kernel_rfl) (by kernel_rfl)) ?_
  intro W base args ds gs before hval hW _ hsz _
  exact contract H enc W base args ds gs before hval hW hsz

theorem over : Rows.gateEndsRow.holds Try.pinned (OpenSpec.ofChange Rows.gateEndsSpec) :=
  OpenClaim.holds_of_wide 3 Try.f3 rfl rfl rfl rfl rfl rfl rfl ⟨rfl, rfl, rfl, rfl, rfl⟩ rfl rfl rfl rfl rfl (by kernel_rfl) Try.func3 (by kernel_rfl)
    (of_decide_eq_true (by kernel_rfl)) (by unfold Func.isWrapper; first | (rw [if_pos (by decide +kernel)]; kernel_rfl) | (rw [if_neg (by decide +kernel)]; exact ⟨rfl, rfl⟩))
    (fun os started H enc _ => lifted os started H enc)

theorem proved : Rows.GateEndsSaid := over
end Go.Proofs.Ytlcnlcjfnpicgaa.gateEnds
