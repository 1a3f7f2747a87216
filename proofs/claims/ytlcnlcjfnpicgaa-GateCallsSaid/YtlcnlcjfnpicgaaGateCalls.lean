/- GateCalls: a barrier shuts the gate, takes each shard's own mark once, and ends, just as the document says, whatever answers come. -/
import Derived.Test.YtlcnlcjfnpicgaaOpenAct
import Derived.Test.YtlcnlcjfnpicgaaGateQ
import Derived.Test.YtlcnlcjfnpicgaaGateLook
import Derived.Deep.Cut
import Derived.Deep.CutRange
import Derived.Lib.MinMax
import Derived.Deep.LoopGhost
namespace Go.Proofs.Ytlcnlcjfnpicgaa.gateCalls
open Go.ChangeShapes Go.WideShapes Go.ChangeAt Go.RowKit Go.Deep Go.Maps
open Go.ChangeMaps (open_string shut_string)
set_option linter.unusedVariables false

set_option maxRecDepth 100000 in
set_option maxHeartbeats 4000000 in
theorem walk {W : World} {n p : Int} {v2 : Value} {al : List ActS} (wf0 : (Lit.int .i64 n).wf = true) (wf1 : (Lit.int .i64 p).wf = true) (h2 : RdAct W (fun k => k < W.heap.size) v2 al) (hz : al.length ≤ reachBytes) :
    Calls Try.prog 4 #[.int .i64 n, .int .i64 p, v2] W fun e W' => e = .returned (.bool true) ∧ Chg Non W W' := by
  obtain ⟨A2, c2, rfl, hc2, hm2⟩ := h2.shape
  unfold maxLen at hm2
  unfold reachBytes at hz
  have H2 := hide h2
  clear h2 wf0 wf1
  go_enter Try.func4, Try.ntmps4
  go_wp2_with fail
  refine awake20.mono ?_
  rintro e w1 ⟨rfl, c1⟩
  have H2' := hide (H2.out.c0 c1)
  have C1 := hide c1
  clear H2 c1
  go_upto_if 14 with fail
  obtain ⟨N, hN, hN0⟩ : ∃ N : Int, N ≤ 20 ∧ N = (if 20 < n then 20 else n) := ⟨_, by split <;> omega, rfl⟩
  have HN := hide hN
  have HN0 := hide hN0
  clear hN hN0
  go_cut [0] from 11 (fun v wx => v = .int .i64 N ∧ wx = w1)
  case first =>
    by_cases hn : 20 < n
    · skip
      have hM := hide (show N = 20 by rw [HN0.out, if_pos hn])
      go_wp2_with fail
      go_meet
      case rel => rw [hM.out]; exact ⟨rfl, rfl⟩
    · skip
      have hM := hide (show N = n by rw [HN0.out, if_neg hn])
      go_wp2_with fail
      go_meet
      case rel => rw [hM.out]; exact ⟨rfl, rfl⟩
  case rest =>
    obtain ⟨rfl, rfl⟩ := hcut
    generalize wc = wb at H2' C1 ⊢
    go_wp2_with fail
    refine (gateNew _ N p HN.out).mono ?_
    rintro e w2 ⟨rfl, hg2, k2⟩
    go_wp2_with fail
    refine (refNew _ N p HN.out).mono ?_
    rintro e w3 ⟨v3, m3, rfl, hr3, k3⟩
    obtain ⟨S0, hS0⟩ : ∃ S0, S0 = newS N.toNat (max 1 p) := ⟨_, rfl⟩
    rw [← hS0] at hg2 hr3
    have hP3 := pairNew hg2 k2 hr3 k3
    have hf0 : Fit S0 0 := by rw [hS0]; exact Fit.new _ _ (by omega)
    have hp0 : S0.p = max 1 p := by rw [hS0]; rfl
    obtain ⟨A, c, B, d, rfl⟩ := hP3.shape
    obtain ⟨X, hP4, x8, _⟩ := pairBox hP3 #[.int .i64 S0.p, .bool S0.shut, .bool S0.cut, .int .u64 (S0.id : Int), .string S0.name, .int .u64 (S0.at_ : Int), .int .i64 S0.age, .slice A S0.n c, .slice B S0.res.length d]
    have y8 := Blk.new w3 30 #[.int .i64 S0.p, .bool S0.shut, .bool S0.cut, .int .u64 (S0.id : Int), .string S0.name, .int .u64 (S0.at_ : Int), .int .i64 S0.age, .slice A S0.n c, .slice B S0.res.length d]
    have hA4 := H2'.out.c0 ((k2.trans0 k3).alloc (.cells #[.int .i64 S0.p, .bool S0.shut, .bool S0.cut, .int .u64 (S0.id : Int), .string S0.name, .int .u64 (S0.at_ : Int), .int .i64 S0.age, .slice A S0.n c, .slice B S0.res.length d] 30))
    have Z8 := hide hP3.c.size
    have HP4 := hide hP4
    have X8 := hide x8
    have Y8 := hide y8
    have HA4 := hide hA4
    have HF0 := hide hf0
    have HP00 := hide hp0
    clear hS0 hg2 hr3 hP3 hf0 hp0 hP4 x8 y8 hA4 k2 k3
    go_wp2_with fail
    generalize World.alloc _ _ = w4 at HP4 Y8 HA4 ⊢
    obtain ⟨m, hml, hm60, hmm⟩ : ∃ m, m ≤ al.length ∧ m ≤ 60 ∧ (m = al.length ∨ m = 60 ∧ 60 < al.length) := by
      by_cases h : al.length ≤ 60
      · exact ⟨al.length, Nat.le_refl _, h, .inl rfl⟩
      · exact ⟨60, by omega, Nat.le_refl _, .inr ⟨rfl, by omega⟩⟩
    have HMM := hide hmm
    obtain ⟨G8, hG8⟩ : ∃ G8, G8 = w3.heap.size := ⟨_, rfl⟩
    rw [← hG8] at X8 Y8 Z8 ⊢
    clear hmm hG8
    go_loopw [9] (fun iv wr => ∃ (k : Nat) (mp rv : Value) (cs : Array Value) (T : GSt), iv = .int .i64 (k : Int) ∧ k ≤ m ∧ Pair X wb.heap.size wb wr wb.heap.size mp rv (.agg cs) T T ∧ Blk wr G8 30 cs ∧ Fit T k ∧ T.p = max 1 p) (fun iv _ => m - (intOf iv).toNat)
    case atStart => exact ⟨0, _, _, _, _, rfl, Nat.zero_le _, HP4.out, Y8.out, HF0.out, HP00.out⟩
    case round =>
      obtain ⟨k, mp, rv, cs, T, rfl, hk, hP, hB, hF, hTp⟩ := hrel
      obtain ⟨A1, c1', B1, d1, hcs⟩ := hP.shape
      injection hcs with hcs
      subst hcs
      by_cases h1 : k < m
      · have hd1 : decide ((k : Int) < (al.length : Int)) = true := decide_eq_true (by omega)
        have hd2 : decide ((k : Int) < 60) = true := decide_eq_true (by omega)
        have hRA := H2'.out.chg hP.c fun k hk h => by have := C1.out.size; omega
        obtain ⟨ad, rfl, _, hU, hcell⟩ := hRA.at_ (k := k) (by omega)
        obtain ⟨a, ha⟩ : ∃ a, a = al[k] := ⟨_, rfl⟩
        rw [← ha] at hU hcell
        obtain ⟨y0, y1, y2, y3, y4, y5, y6⟩ := act_field (w := wr) hcell
        obtain ⟨t0, t1, t2, t3, t4, t5, t6⟩ := act_field (w := wr.drew) hcell
        obtain ⟨x0, x1, x2, x3, x4, x5, x6, x7, x8⟩ := blk9 hB
        obtain ⟨z0, z1, z2, z3, z4, z5, z6, z7, z8⟩ := blk9 (hB.c0 ((Chg.refl Non _).drew))
        have hcall := lawPlay (hP.c0 ((Chg.refl Non _).drew)) hF (by omega) a hU
        unfold actC at hcall
        obtain ⟨T2, hT2⟩ : ∃ T2, T2 = playS T a := ⟨_, rfl⟩
        have hF2 := hF.play a hU
        have hp2 := playS_p T a
        rw [← hT2] at hcall hF2 hp2
        have HF2 := hide hF2
        have HP2 := hide (hp2.trans hTp)
        have hkeep := fun (w5 : World) (k5 : Chg (fun k => wb.heap.size ≤ k ∧ ¬ X k) wr.drew w5) => (hB.c0 ((Chg.refl Non wr).drew)).chg k5 (fun h => h.2 X8.out)
        have HC := hide hcall
        have HK := hide hkeep
        have H1 := hide h1
        have hkl : k < al.length := by omega
        have hk9 : (0 : Int) ≤ (k : Int) := by omega
        have hk8 : (k : Int) < (al.length : Int) := by omega
        clear hRA hcell ha hcall hkeep hT2 hF2 hp2 hF hTp hP hB hU h1
        go_upto_region 10 with fail
        go_region_law (first
          | (go_simp; go_at_call 8; refine HC.out.mono ?_; rintro e w5 ⟨v5, mp5, rv5, rfl, hP5, k5⟩; obtain ⟨A5, c5, B5, d5, hv5⟩ := hP5.shape; subst hv5; obtain ⟨e0, e1, e2, e3, e4, e5, e6, e7, e8⟩ := blk9 (HK.out _ k5); obtain ⟨f0, f1, f2, f3, f4, f5, f6, f7, f8⟩ := frz9 (HK.out _ k5)))
        all_goals
          (try simp only [List.getElem_toArray, List.getElem_cons_zero, List.getElem_cons_succ, Act.put, List.setIfInBounds_toArray, List.set_cons_zero, List.set_cons_succ])
          obtain ⟨hB9, hC9⟩ := put9 (HK.out _ k5) (.int .i64 T2.p) (.bool T2.shut) (.bool T2.cut) (.int .u64 (T2.id : Int)) (.string T2.name) (.int .u64 (T2.at_ : Int)) (.int .i64 T2.age) (.slice A5 T2.n c5) (.slice B5 T2.res.length d5)
          clear e0 e1 e2 e3 e4 e5 e6 e7 e8 f0 f1 f2 f3 f4 f5 f6 f7 f8 x0 x1 x2 x3 x4 x5 x6 x7 x8 z0 z1 z2 z3 z4 z5 z6 z7 z8 y0 y1 y2 y3 y4 y5 y6 t0 t1 t2 t3 t4 t5 t6
          generalize World.setCell _ _ _ = w9 at hB9 hC9 ⊢
          have hP9 := hP5.chg hC9 (fun k hk => by subst hk; exact ⟨X8.out, Z8.out⟩)
          obtain ⟨x0, x1, x2, x3, x4, x5, x6, x7, x8⟩ := blk9 hB9
          have HP9 := hide hP9
          have HB9 := hide hB9
          clear hP9 hP5 hC9 hB9 k5
          go_wp2_with fail
          refine (lawLook HP9.out).mono ?_
          rintro e w10 ⟨rfl, c10⟩
          clear x0 x1 x2 x3 x4 x5 x6 x7 x8
          have HP10 := hide (HP9.out.c0 c10)
          have HB10 := hide (HB9.out.c0 c10)
          clear c10
          go_wp2_with fail
          go_wp2_with fail
          go_round
          case rel => first | exact ⟨k + 1, mp5, rv5, _, T2, by go_num, by have := H1.out; omega, HP10.out, HB10.out, HF2.out, HP2.out⟩ | ((repeat apply Exists.intro); exact ⟨⟨k + 1, mp5, rv5, _, T2, by go_num, by have := H1.out; omega, HP10.out, HB10.out, HF2.out, HP2.out⟩, rfl⟩)
          case measure => have := H1.out; simp [intOf]; omega
      · have hkm : k = m := by omega
        have hT1 : T.res.length ≤ 100000 := by have := hF.res; omega
        have HPP := hide hP
        have HBB := hide hB
        rcases HMM.out with hmm | ⟨hmm, hm'⟩
        · have hd1 : decide ((k : Int) < (al.length : Int)) = false := decide_eq_false (by omega)
          have hn1 : ¬ k < al.length := by omega
          clear hkm hmm hk h1 hF hTp hP hB
          have hPd := HPP.out.c0 ((Chg.refl Non wr).drew)
          obtain ⟨F, hr, hF⟩ := hPd.open_
          have hres := gateResults hPd.ga
          have hkeep := fun (w5 : World) (mp5 rv5 : Value) (st5 : Stp wr.drew w5 wb.heap.size mp rv mp5 rv5) => hPd.box st5 X8.out (HBB.out.c0 ((Chg.refl Non _).drew))
          have hq := fun (w5 : World) (mp5 rv5 : Value) (st5 : Stp wr.drew w5 wb.heap.size mp rv mp5 rv5) => hr.r.chg st5.chg fun k hk => (hF k hk).2.1
          have hcg := fun (w5 : World) (mp5 rv5 : Value) (st5 : Stp wr.drew w5 wb.heap.size mp rv mp5 rv5) => (hPd.c.trans st5.chg fun k hlt hg => ⟨(hPd.ga.gw hg).1, fun hx => hPd.xg k hx hg⟩)
          have HC := hide hres
          have HK := hide hkeep
          have HQ := hide hq
          have HG := hide hcg
          have z8w : wr.cell? ⟨G8, 8, none⟩ = some (.slice B1 T.res.length d1) := HBB.out.cell 8
          have z8d : wr.drew.cell? ⟨G8, 8, none⟩ = some (.slice B1 T.res.length d1) := HBB.out.cell 8
          clear hPd hr hF hres hkeep hq hcg
          go_upto_region 13 with fail
          go_region_law (first
            | (go_simp; go_at_call 16; refine HC.out.mono ?_; rintro e w5 ⟨rfl, hr5, hg5, st5⟩; have z8 := (HK.out _ _ _ st5).cell 8; simp at z8)
            | (go_simp; go_at_call 15; refine (lawResults hr5 (HQ.out _ _ _ st5) hT1).mono ?_; rintro e w6 ⟨rfl, hk6⟩)
            | (go_simp; go_at_call 16; refine (gateResults (hg5.c0 ((Chg.refl Non _).quiet hk6))).mono ?_; rintro e w7 ⟨rfl, hr7, hg7, st7⟩))
          all_goals
            (try simp only [List.getElem_toArray, List.getElem_cons_zero, List.getElem_cons_succ, Act.put, List.setIfInBounds_toArray, List.set_cons_zero, List.set_cons_succ])
            have hfin := (HG.out _ _ _ st5).quiet hk6
            have hfin2 := hfin.trans st7.chg fun k hlt hg => show wb.heap.size ≤ k ∧ ¬ X k from ⟨((hg5.c0 ((Chg.refl Non _).quiet hk6)).gw hg).1, fun hx => by
              rcases st5.new k hg with h | h
              · exact HPP.out.xg k hx h
              · have := HPP.out.xl k hx; have h' : wr.heap.size ≤ k := h; omega⟩
            have HF := hide (C1.out.trans hfin2 fun k hk h => by have := C1.out.size; omega)
            clear hfin hfin2 hr5 hg5 st5 z8 hk6 hr7 hg7 st7 z8w z8d HC HK HQ HG
            go_wp2_with fail
            go_ret
            exact ⟨rfl, HF.out⟩
        · have hd1 : decide ((k : Int) < (al.length : Int)) = true := decide_eq_true (by omega)
          have hd2 : decide ((k : Int) < 60) = false := decide_eq_false (by omega)
          have hn1 : k < al.length := by omega
          have hn2 : ¬ k < 60 := by omega
          have hn3 : ¬ (k : Int) < 60 := by omega
          clear hkm hmm hm' hk h1 hF hTp hP hB
          have hPd := HPP.out.c0 ((Chg.refl Non wr).drew)
          obtain ⟨F, hr, hF⟩ := hPd.open_
          have hres := gateResults hPd.ga
          have hkeep := fun (w5 : World) (mp5 rv5 : Value) (st5 : Stp wr.drew w5 wb.heap.size mp rv mp5 rv5) => hPd.box st5 X8.out (HBB.out.c0 ((Chg.refl Non _).drew))
          have hq := fun (w5 : World) (mp5 rv5 : Value) (st5 : Stp wr.drew w5 wb.heap.size mp rv mp5 rv5) => hr.r.chg st5.chg fun k hk => (hF k hk).2.1
          have hcg := fun (w5 : World) (mp5 rv5 : Value) (st5 : Stp wr.drew w5 wb.heap.size mp rv mp5 rv5) => (hPd.c.trans st5.chg fun k hlt hg => ⟨(hPd.ga.gw hg).1, fun hx => hPd.xg k hx hg⟩)
          have HC := hide hres
          have HK := hide hkeep
          have HQ := hide hq
          have HG := hide hcg
          have z8w : wr.cell? ⟨G8, 8, none⟩ = some (.slice B1 T.res.length d1) := HBB.out.cell 8
          have z8d : wr.drew.cell? ⟨G8, 8, none⟩ = some (.slice B1 T.res.length d1) := HBB.out.cell 8
          clear hPd hr hF hres hkeep hq hcg
          go_upto_region 13 with fail
          go_region_law (first
            | (go_simp; go_at_call 16; refine HC.out.mono ?_; rintro e w5 ⟨rfl, hr5, hg5, st5⟩; have z8 := (HK.out _ _ _ st5).cell 8; simp at z8)
            | (go_simp; go_at_call 15; refine (lawResults hr5 (HQ.out _ _ _ st5) hT1).mono ?_; rintro e w6 ⟨rfl, hk6⟩)
            | (go_simp; go_at_call 16; refine (gateResults (hg5.c0 ((Chg.refl Non _).quiet hk6))).mono ?_; rintro e w7 ⟨rfl, hr7, hg7, st7⟩))
          all_goals
            (try simp only [List.getElem_toArray, List.getElem_cons_zero, List.getElem_cons_succ, Act.put, List.setIfInBounds_toArray, List.set_cons_zero, List.set_cons_succ])
            have hfin := (HG.out _ _ _ st5).quiet hk6
            have hfin2 := hfin.trans st7.chg fun k hlt hg => show wb.heap.size ≤ k ∧ ¬ X k from ⟨((hg5.c0 ((Chg.refl Non _).quiet hk6)).gw hg).1, fun hx => by
              rcases st5.new k hg with h | h
              · exact HPP.out.xg k hx h
              · have := HPP.out.xl k hx; have h' : wr.heap.size ≤ k := h; omega⟩
            have HF := hide (C1.out.trans hfin2 fun k hk h => by have := C1.out.size; omega)
            clear hfin hfin2 hr5 hg5 st5 z8 hk6 hr7 hg7 st7 z8w z8d HC HK HQ HG
            go_wp2_with fail
            go_ret
            exact ⟨rfl, HF.out⟩

set_option maxRecDepth 100000 in
theorem contract (H : Type) (enc : TypeId × Value → H) (W : World) (base : Nat) (args : Array Value) (ds gs : List (DataW H)) (before : List MemPlace)
    (hval : ∀ (j : Nat) t v, Try.f4.params[j]? = some t → args[j]? = some v → Value.okWide Try.prog W .any base t v)
    (hW : DataW.Whole enc Try.prog Try.f4.params.toList Rows.gateCallsSpec.vars false W args.toList ds gs before) (hsz : (DataW.weightsEach Try.prog (Try.f4.params.toList ++ Rows.gateCallsSpec.plain.varTypes Try.prog) (ds ++ gs)).all (· ≤ reachBytes) = true) :
    Calls Try.prog 4 args W fun e W' => ∃ v, e = .returned v ∧ Rows.gateCallsSpec.post enc Try.prog Try.f4 false true false false W args v W' := by
  have hW' := hW
  obtain ⟨p, q, hA0, hV, rfl, hfz, hnd⟩ := hW
  have hA : DataW.TrodAll enc Try.prog W 0 (fun _ => true) true Try.f4.params.toList args.toList ds p := hA0
  rw [Try.params4] at hA hval hsz
  obtain ⟨v0, vs0, d0, ds0, p0, q0, hargs, rfl, rfl, h0, r0⟩ := trodAll_cons hA
  obtain ⟨v1, vs1, d1, ds1, p1, q1, rfl, rfl, rfl, h1, r1⟩ := trodAll_cons r0
  obtain ⟨v2, vs2, d2, ds2, p2, q2, rfl, rfl, rfl, h2, r2⟩ := trodAll_cons r1
  obtain ⟨rfl, rfl, rfl⟩ := trodAll_nil r2
  obtain rfl : args = #[v0, v1, v2] := by cases args; simp_all
  obtain ⟨rfl, rfl⟩ := trodVars_none hV
  obtain ⟨a0, rfl, rfl, rfl, w0⟩ := open_int Try.underlying3 (hval 0 3 v0 rfl rfl) h0
  obtain ⟨a1, rfl, rfl, rfl, w1⟩ := open_int Try.underlying3 (hval 1 3 v1 rfl rfl) h1
  have k2 := h2
  have lt2 : ∀ x ∈ p2, x.block < W.heap.size := by obtain ⟨m, hm⟩ := k2; exact DataW.trod_lt m _ _ _ hm
  obtain ⟨l2, w2, z2⟩ := openAct (hval 2 22 v2 rfl rfl) h2
  have s2 : l2.length ≤ reachBytes := z2.2 _ fun e s he => by
    have := sized_slice hsz (j := 2) rfl (by rw [he]; rfl) Try.underlying22
    exact Nat.le_trans (Nat.le_mul_of_pos_right _ (of_decide_eq_true (by kernel_rfl))) this
  refine (walk w0 w1 w2 s2).mono fun e W' ⟨he, bel0⟩ => ?_
  have bel := bel0.below
  subst he
  exact ⟨_, rfl, _, _, _, [], _, [], hW', trodAll_mk1 (shut_bool Try.underlying4 _), (trodAll_cons_mk (shut_int Try.underlying3 w0) (trodAll_cons_mk (shut_int Try.underlying3 w1) (trodAll_cons_mk (Below.trod laidOut (by kernel_rfl) (of_decide_eq_true (by kernel_rfl)) k2 bel lt2) trodAll_mk0))), rfl, bel.frame _, fun h => by cases h⟩

set_option maxRecDepth 100000 in
theorem lifted (os : Os) (started : os.Started) (H : Type) (enc : TypeId × Value → H) :
    ReturnsInHanded {} Try.checked os 4 .any (Rows.gateCallsSpec.pre6 enc Try.prog Try.f4 Rows.gateCallsRow.domain false) (Rows.gateCallsSpec.post enc Try.prog Try.f4 false true false false) := by
  refine returnsInHanded_of_change_sized (C := Try.checked) own started (by kernel_rfl) Try.func4
    (ChangeSpec.witness6 (enc := enc) (C := Try.checked) false ⟨#[], #[.int .i64 0, .int .i64 0, .slice none 0 0], []⟩ 8 (by kernel_rfl) (by kernel_rfl) (by kernel_rfl) (by kernel_rfl)) ?_
  intro W base args ds gs before hval hW _ hsz _
  exact contract H enc W base args ds gs before hval hW hsz

theorem over : Rows.gateCallsRow.holds Try.pinned (OpenSpec.ofChange Rows.gateCallsSpec) :=
  OpenClaim.holds_of_wide 4 Try.f4 rfl rfl rfl rfl rfl rfl rfl ⟨rfl, rfl, rfl, rfl, rfl⟩ rfl rfl rfl rfl rfl (by kernel_rfl) Try.func4 (by kernel_rfl)
    (of_decide_eq_true (by kernel_rfl)) (by unfold Func.isWrapper; first | (rw [if_pos (by decide +kernel)]; kernel_rfl) | (rw [if_neg (by decide +kernel)]; exact ⟨rfl, rfl⟩))
    (fun os started H enc _ => lifted os started H enc)

theorem proved : Rows.GateCallsSaid := over
end Go.Proofs.Ytlcnlcjfnpicgaa.gateCalls
