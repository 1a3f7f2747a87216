/- GroyneSealed: of records in a file that is cut by a crash and of which a byte is changed just those open that are whole and stand ahead of the change; among them all that were flushed ahead of it: for every input the statement's function answers true. No condition. -/
import Derived.Test.YtjagiahfndcbhaaSealedW
import Derived.Test.YtjagiahfndcbhaaSealedM
import Derived.Test.YtjagiahfndcbhaaDrvF
import Derived.Test.YtjagiahfndcbhaaWtr
import Derived.Test.YtjagiahfndcbhaaRefA
import Derived.Test.YtjagiahfndcbhaaOpenBB
import Derived.Test.YtjagiahfndcbhaaOpenI
import Derived.Test.YtjagiahfndcbhaaMul
import Derived.BigQuiet
namespace Go.Proofs.Ytjagiahfndcbhaa.groyneSealed
open Go.ChangeShapes Go.WideShapes Go.ChangeAt Go.RowKit Go.Deep Go.Maps
open Go.ChangeMaps (open_string shut_string)
set_option linter.unusedVariables false

set_option maxRecDepth 100000 in
set_option maxHeartbeats 4000000 in
theorem walk {W : World} {v0 v2 : Value} {fl : Int} {ll : List (List UInt8)} {sp : List Int} (h0 : RdBB W (fun k => k < W.heap.size) v0 ll) (hfl : (Lit.int .i64 fl).wf = true) (h2 : RdI W (fun k => k < W.heap.size) v2 sp) (s0 : ll.length ≤ reachBytes) (s2 : sp.length ≤ reachBytes) :
    Calls Try.prog 3 #[v0, .int .i64 fl, v2] W fun e W' => e = .returned (.bool true) ∧ Chg Non W W' := by
  obtain ⟨A2, c2, rfl, hc2, hm2⟩ := h2.shape
  unfold maxLen at hm2
  unfold reachBytes at s0 s2
  have hsh := topShort h0
  go_enter Try.func3, Try.ntmps3
  go_wp2_with fail
  refine hsh.mono ?_
  rintro e w1 ⟨ru, rfl, hru, hc1⟩
  obtain ⟨rl, hrl⟩ : ∃ rl, rl = shortL ll := ⟨_, rfl⟩
  have hr8 : rl.length ≤ 8 := by rw [hrl]; exact shortL_len ll
  have hr400 : ∀ l ∈ rl, l.length ≤ 400 := by rw [hrl]; exact shortL_400 ll
  rw [← hrl] at hru
  have hrr := hru.rd
  obtain ⟨R1, cr, rfl, hcr, hmr⟩ := hrr.shape
  unfold maxLen at hmr
  obtain ⟨C, hC⟩ : ∃ C, C = recsB rl := ⟨_, rfl⟩
  have hCl : C.length = rl.length := by rw [hC, recsB_length]
  have hC440 : ∀ l ∈ C, l.length ≤ 440 := by rw [hC]; exact recsB_small rl hr400
  have hCall := seals_440 C hC440
  have HC := hide hC
  have HR4 := hide hr400
  have H2 := hide h2
  clear hsh hrl hC hru hr400 h2 h0
  have hnew := drvNew w1
  go_wp2_with fail
  refine hnew.mono ?_
  rintro e w2 ⟨g, rfl, hD, hcn, hgs⟩
  have hSL0 := SL.start (rl := rl) (C := C) hD hc1 hcn ((hrr.c0 hcn).mono fun b hb => hb.2)
  obtain ⟨base, hbase⟩ : ∃ base, base = w1.heap.size := ⟨_, rfl⟩
  rw [← hbase] at hSL0
  have HSL0 := hide hSL0
  clear hnew hrr hD hc1 hcn hgs hbase hSL0
  go_wp2_with fail
  go_loopw [8, 9, 33] (fun sv8 ev iv wr => ∃ (i sure : Nat) (F : Nat → Prop) (sv nv qv : Value) (so no : Option (List UInt8)) (q : List (List UInt8)), i ≤ rl.length ∧ iv = .int .i64 i ∧ sv8 = .int .i64 sure ∧ Hid (SL W wr base g (.slice R1 rl.length cr) rl C i i F sv nv qv so no q sure ev)) (fun _ _ iv _ => rl.length - (intOf iv).toNat)
  case atStart => exact ⟨0, 0, _, _, _, _, _, _, _, Nat.zero_le _, rfl, rfl, HSL0⟩
  case round =>
    clear HSL0
    obtain ⟨i, sure, F, sv, nv, qv, so, no, q, hi, rfl, rfl, HS⟩ := hrel
    obtain ⟨w3, rfl⟩ : ∃ w', w' = wr := ⟨_, rfl⟩
    by_cases h1 : i < rl.length
    · have hiC : i < C.length := by omega
      obtain ⟨ad, x, rfl, _, hcx, hx⟩ := HS.out.r.at_ h1
      have hx4 := HR4.out _ (List.getElem_mem h1)
      have hCi := hide (show C[i] = recB rl[i] i by have := HC.out; subst this; exact recsB_get rl i h1)
      obtain ⟨l, hl⟩ : ∃ l, l = rl[i] := ⟨_, rfl⟩
      rw [← hl] at hx hx4 hCi
      clear hl
      obtain ⟨X, cx, rfl, hcx2, hmx⟩ := hx.shape
      unfold maxLen at hmx
      have hwr8 : IntKind.u8.wrap (i : Int) = (i : Int) := IntWalk.u8_in _ (by omega)
      have hlit := RdB.lit w3 5 (0, 0) #[.int .u8 (i : Int)] [UInt8.ofNat i] 1 (by simp [bvs, bv, UInt8.toNat_ofNat']; omega) rfl (by simp [maxLen])
      have hpair := RdBB.pair ((hx.al (.cells #[.int .u8 (i : Int)] 5)).mono (F' := fun b => b < base ∨ b = w3.heap.size) fun b hb => .inl hb) (hlit.mono fun b hb => .inr hb) 27
      have hrl := recB_len l i hx4
      have hjoin := packJoin hpair (by have e : (joinB [l, [UInt8.ofNat i]]).length = (recB l i).length := rfl; omega)
      have hcAA : Chg Non w3 ((w3.alloc (.cells #[.int .u8 (i : Int)] 5)).alloc (.cells #[.slice X l.length cx, .slice (some ⟨w3.heap.size, 0, none⟩) 1 1] 27)) := ((Chg.refl Non w3).alloc _).alloc _
      clear hlit hpair hx
      go_wp2_with fail
      have hs1 : (w3.alloc (.cells #[.int .u8 (i : Int)] 5)).heap.size = w3.heap.size + 1 := by simp
      rw [hs1] at hjoin
      refine hjoin.mono ?_
      rintro e w4 ⟨uj, rfl, huj, hc4⟩
      have hseal := paritySeal huj.rd
      have hjl : (joinB [l, [UInt8.ofNat i]]).length ≤ 440 := hrl
      rw [if_neg (by omega), if_neg (by omega)] at hseal
      have hc34 := hcAA.trans0 hc4
      clear hjoin huj hcAA hc4 hs1 hcx
      go_wp2_with fail
      refine hseal.mono ?_
      rintro e w5 ⟨sv', rfl, hsv, hc5⟩
      have hSL5 := HS.out.c0 (hc34.trans0 hc5)
      have hsl : (sealB (joinB [l, [UInt8.ofNat i]])).length ≤ 500 := by rw [sealB_length]; omega
      have hmono := sealsB_mono C (i := i) (j := C.length) (by omega)
      rw [List.take_of_length_le (Nat.le_refl _)] at hmono
      have happ := drvAppend hSL5.d hsv.rd (by rw [hSL5.c]; omega) (by have := hSL5.ql; omega) hSL5.bw
      have hHS := hide hSL5
      obtain ⟨S1, ns, cs, rfl⟩ := hsv.shapeH
      clear hseal hc34 hc5 hsv hmono hSL5 HS
      go_wp2_with fail
      refine happ.mono ?_
      rintro e w6 ⟨rfl, F', nv', qv', hD6, hc6, hF6, _⟩
      have hSL6 := hHS.out.app hiC (by rw [hCi.out]; exact hD6) hc6 hF6
      rw [hCi.out] at hSL6
      have hsize := drvSize hSL6.d
      rw [hSL6.c] at hsize
      obtain ⟨E, hE⟩ : ∃ E, E = (sealsB (C.take (i + 1))).length := ⟨_, rfl⟩
      rw [← hE] at hsize
      have HE := hide (show endsC C (i + 1) = endsC C i ++ [(E : Int)] by rw [endsC_succ, hE])
      have hal := (Chg.refl Non w6).alloc (.cells #[.int .i64 (E : Int)] 3)
      have hSL7 := hSL6.c0 hal
      have hev := hSL7.e
      have hbw7 := hSL7.bw
      have hblk := Blk.new w6 3 #[.int .i64 (E : Int)]
      have hel : (endsC C i).length + 1 ≤ 1000000000000 := by rw [endsC_len]; omega
      have H7 := hide hSL7
      clear happ hD6 hc6 hF6 hHS hSL6 hE hal hSL7 hCi
      by_cases hfe : (i : Int) = fl
      · have hb : ((i : Int) == fl) = true := by rw [hfe, beq_self_eq_true]
        clear hfe
        go_wp2_with fail
        refine hsize.mono ?_
        rintro e wx ⟨rfl, hx⟩
        subst wx
        clear hsize
        go_wp2_with (at_builtin; refine append_I rfl _ _ rfl hev rfl hblk rfl hel hbw7 ?_; intro v9 w9 ho hg9 hat)
        have hSL9 := H7.out.ends (by rw [HE.out]; exact ho) hg9 hat
        have hfl := drvFlush hSL9.d hSL9.bw
        refine hfl.mono ?_
        rintro e w10 ⟨rfl, sv2, hD2, hcf, _⟩
        have hSLf := hide (hSL9.flush hD2 hcf)
        clear hfl hD2 hcf hSL9 ho hg9 hat hev hblk H7
        go_wp2_with fail
        go_round
        case rel => exact ⟨i + 1, i + 1, _, _, _, _, _, _, _, by omega, by go_num, by go_num, hSLf⟩
        case measure => simp [intOf]; omega
      · have hb : ((i : Int) == fl) = false := beq_eq_false_iff_ne.2 hfe
        clear hfe
        go_wp2_with fail
        refine hsize.mono ?_
        rintro e wx ⟨rfl, hx⟩
        subst wx
        clear hsize
        go_wp2_with (at_builtin; refine append_I rfl _ _ rfl hev rfl hblk rfl hel hbw7 ?_; intro v9 w9 ho hg9 hat)
        have hSL9 := hide (H7.out.ends (by rw [HE.out]; exact ho) hg9 hat)
        clear ho hg9 hat hev hblk H7
        go_round
        case rel => exact ⟨i + 1, sure, _, _, _, _, _, _, _, by omega, by go_num, rfl, hSL9⟩
        case measure => simp [intOf]; omega
    · obtain rfl : i = rl.length := by omega
      have hno : no.getD [] = sealsB C := by rw [HS.out.c, ← hCl, List.take_of_length_le (Nat.le_refl _)]
      have hsu := HS.out.si
      have hso := HS.out.s
      have hql := HS.out.ql
      have hflat : (sealsB C).length = (so.getD []).length + q.flatten.length := by rw [← hno, HS.out.d.c, List.length_append]
      have hun := unitsB_eq q
      clear h1 hi
      go_upto_if 72 with fail
      go_cut [14, 15, 16] from 73 (fun v14 v15 v16 wx => ∃ (kp at_ : Int) (by_ : Nat), v14 = .int .i64 kp ∧ v15 = .int .i64 at_ ∧ v16 = .int .i64 by_ ∧ by_ ≤ 255 ∧ Chg Non w3 wx)
      case first =>
        by_cases h3 : 2 < sp.length
        · have hs3 := H2.out.c0 HS.out.w
          obtain ⟨ad, rfl, _, q0⟩ := hs3.at_ (k := 0) (by omega)
          obtain ⟨ad', e1, _, q1⟩ := hs3.at_ (k := 1) (by omega)
          obtain ⟨ad2, e2, _, q2⟩ := hs3.at_ (k := 2) (by omega)
          injection e1 with e1
          subst e1
          injection e2 with e2
          subst e2
          obtain ⟨z0, hz0⟩ : ∃ z, z = sp[0] := ⟨_, rfl⟩
          obtain ⟨z1, hz1⟩ : ∃ z, z = sp[1] := ⟨_, rfl⟩
          obtain ⟨z2, hz2⟩ : ∃ z, z = sp[2] := ⟨_, rfl⟩
          rw [← hz0] at q0
          rw [← hz1] at q1
          rw [← hz2] at q2
          simp [Addr.add] at q0 q1 q2
          obtain ⟨nb, hnb, hand⟩ := and255 z2
          have hsz : (2 : Int) < (sp.length : Int) := by omega
          have hsz1 : (1 : Int) < (sp.length : Int) := by omega
          have hsz0 : (0 : Int) < (sp.length : Int) := by omega
          have hszn : 0 < sp.length ∧ 1 < sp.length := by omega
          obtain ⟨hszn0, hszn1⟩ := hszn
          clear hz0 hz1 hz2 hs3
          go_wp2_with fail
          go_quiet (fail)
          go_wp2_with fail
          go_meet
          exact ⟨z0, z1, nb, rfl, rfl, rfl, hnb, (Chg.refl Non w3).drewN nq⟩
        · have hsz : ¬ (2 : Int) < (sp.length : Int) := by omega
          go_wp2_with fail
          go_meet
          case rel => exact ⟨0, -1, 0, rfl, rfl, rfl, by omega, Chg.refl _ _⟩
      case rest =>
        obtain ⟨kp, at_, by_, rfl, rfl, rfl, hby, hc3⟩ := hcut
        have hSL := HS.out.c0 hc3
        have hcr := drvCrash (keep := kp) hSL.d (by omega) hSL.bw
        have HS2 := hide hSL
        clear HS hSL hc3
        go_wp2_with fail
        refine hcr.mono ?_
        rintro e w4 ⟨rfl, F', sv', nv', so', m, hD4, hso4, hc4, hF4⟩
        obtain ⟨hev4, hcw4, hbw4, hrr4⟩ := HS2.out.rest hc4 fun b hb => .inl hb
        obtain ⟨M, hM⟩ : ∃ M, M = min ((so.getD []).length + m) (sealsB C).length := ⟨_, rfl⟩
        have hM1 : M ≤ (sealsB C).length := by omega
        have hM2 : (sealsB (C.take sure)).length ≤ M := by rw [← hso]; omega
        have hcont : so'.getD [] = (sealsB C).take M := by rw [hso4, kept_take, ← HS2.out.d.c, hno, hM]; exact take_min _ _
        have hrd := drvRead hD4 (by rw [hcont, List.length_take]; omega)
        rw [hcont] at hrd
        clear hcr hD4 hso4 hc4 hF4 hM hcont
        go_wp2_with fail
        refine hrd.mono ?_
        rintro e w5 ⟨bu, er, rfl, hbu, hc5⟩
        have hTl : ((sealsB C).take M).length = M := by rw [List.length_take]; omega
        obtain ⟨T0, hT0⟩ : ∃ T0, T0 = (sealsB C).take M := ⟨_, rfl⟩
        rw [← hT0] at hbu hTl
        have HT0 := hide hT0
        obtain ⟨B1, cb, hbe, hcb, hmb⟩ := hbu.shape
        rw [hTl] at hbe hcb
        subst hbe
        unfold maxLen at hmb
        have hevlt := hev4.lt
        have hev5 := hev4.c0 hc5
        have hcw5 := hcw4.trans0 hc5
        have hrr5 := hrr4.c0 hc5
        have hw45 := hc5.size
        have hwb := HS2.out.wb
        clear hrd hT0 hev4 hrr4 hc5
        go_upto_region 22 with fail
        go_cut [102] from 91 (fun v wx => v = .bool (decide (by_ ≠ 0 ∧ 0 ≤ at_ ∧ at_ < (M : Int))) ∧ wx = w5)
        case first =>
          by_cases hb0 : by_ = 0
          · subst hb0
            go_wp2_with fail
            go_meet
            case rel => exact ⟨congrArg Value.bool (decide_eq_false fun h => h.1 rfl).symm, rfl⟩
          · have hbn : ((by_ : Int) != 0) = true := by simp [hb0]
            by_cases ha0 : at_ < 0
            · have d1 : decide ((0 : Int) ≤ at_) = false := decide_eq_false (by omega)
              have d1' : ¬ (0 : Int) ≤ at_ := by omega
              go_wp2_with fail
              go_meet
              case rel => exact ⟨congrArg Value.bool (decide_eq_false fun h => by omega).symm, rfl⟩
            · have d1 : decide ((0 : Int) ≤ at_) = true := decide_eq_true (by omega)
              by_cases hp : at_ < (M : Int)
              · have d2 : decide (at_ < (M : Int)) = true := decide_eq_true hp
                have HBAD := hide (show by_ ≠ 0 ∧ 0 ≤ at_ ∧ at_ < (M : Int) from ⟨hb0, by omega, hp⟩)
                go_wp2_with fail
                go_meet
                case rel => exact ⟨congrArg Value.bool (decide_eq_true HBAD.out).symm, rfl⟩
              · have d2 : decide (at_ < (M : Int)) = false := decide_eq_false hp
                have HP := hide hp
                go_wp2_with fail
                go_meet
                case rel => exact ⟨congrArg Value.bool (decide_eq_false fun h => by have := HP.out; omega).symm, rfl⟩
        case rest =>
        obtain ⟨rfl, hq3⟩ := hcut
        subst wc
        go_upto_if 102 with fail
        go_cut [15] from 91 (fun v15 wx => ∃ (p : Nat) (l' : List UInt8), v15 = .int .i64 p ∧ l'.length = M ∧ OwnB wx w4.heap.size (.slice B1 M cb) l' ∧ Hid ((l' = T0 ∧ p = M) ∨ (p < M ∧ ∃ y, (∀ h : p < T0.length, y ≠ T0[p]) ∧ l' = T0.set p y)) ∧ Chg (fun k => (Value.slice B1 M cb).ownBlock = some k) w5 wx)
        case first =>
          by_cases hbad : by_ ≠ 0 ∧ 0 ≤ at_ ∧ at_ < (M : Int)
          · have hdec : decide (by_ ≠ 0 ∧ 0 ≤ at_ ∧ at_ < (M : Int)) = true := decide_eq_true hbad
            obtain ⟨hb0, ha0, hpM⟩ := hbad
            obtain ⟨p, rfl⟩ : ∃ p : Nat, at_ = (p : Int) := ⟨at_.toNat, by omega⟩
            have hp : p < M := by omega
            rw [hdec]
            clear hdec
            obtain ⟨gb, rfl, hgb, hgl⟩ := hbu.head (by omega)
            obtain ⟨kc, kf⟩ := hbu.cell (i := p) (by omega)
            obtain ⟨a8, ha8⟩ : ∃ a8, a8 = T0[p] := ⟨_, rfl⟩
            rw [← ha8] at kc
            have hyt : (UInt8.ofNat by_).toNat = by_ := by rw [UInt8.toNat_ofNat']; omega
            have hxor := xorV a8 (UInt8.ofNat by_)
            rw [hyt] at hxor
            have hwr8 : IntKind.u8.wrap (by_ : Int) = (by_ : Int) := IntWalk.u8_in _ (by omega)
            have hst := hbu.stored p (a8 ^^^ UInt8.ofNat by_)
            have hne : a8 ^^^ UInt8.ofNat by_ ≠ a8 := xor_ne fun e => hb0 (by rw [← hyt, e]; rfl)
            have HFIN := hide (show ∃ (p' : Nat) (l' : List UInt8), Value.int .i64 (p : Int) = .int .i64 p' ∧ l'.length = M ∧ OwnB (w5.setCell ⟨gb, p, none⟩ (.int .u8 ((a8 ^^^ UInt8.ofNat by_).toNat : Int))) w4.heap.size (.slice (some ⟨gb, 0, none⟩) M cb) l' ∧ Hid ((l' = T0 ∧ p' = M) ∨ (p' < M ∧ ∃ y, (∀ h : p' < T0.length, y ≠ T0[p']) ∧ l' = T0.set p' y)) ∧ Chg (fun k => (Value.slice (some ⟨gb, 0, none⟩) M cb).ownBlock = some k) w5 (w5.setCell ⟨gb, p, none⟩ (.int .u8 ((a8 ^^^ UInt8.ofNat by_).toNat : Int))) from
              ⟨p, _, rfl, by rw [List.length_set]; exact hTl, hst, hide (.inr ⟨hp, _, fun _ => by rw [← ha8]; exact hne, rfl⟩), Chg.setCell (p := ⟨gb, p, none⟩) (Chg.refl (fun k => (Value.slice (some ⟨gb, 0, none⟩) M cb).ownBlock = some k) w5) (fun _ => rfl) _⟩)
            clear hst hne ha8 hyt hb0
            go_wp2_with fail
            go_meet
            case rel => exact HFIN.out
          · have hdec : decide (by_ ≠ 0 ∧ 0 ≤ at_ ∧ at_ < (M : Int)) = false := decide_eq_false hbad
            rw [hdec]
            clear hdec hbad
            go_wp2_with fail
            go_meet
            case rel => exact ⟨M, T0, rfl, hTl, hbu, hide (.inl ⟨rfl, rfl⟩), Chg.refl _ _⟩
        case rest =>
          obtain ⟨p, l', rfl, hl'M, hbl, hcase, hc6⟩ := hcut
          obtain ⟨w6, rfl⟩ : ∃ w', w' = wc := ⟨_, rfl⟩
          have hblt := hbl.lt
          obtain ⟨j, hjC, hall, hj1, hj2, hj3, hpM⟩ := opens2 (fun l hl => by have := hC440 l hl; omega) hM1 (by omega) hM2 HT0.out hcase.out
          have hev6 := hev5.chg hc6 fun b hb e => by
            have h1 := (hevlt b hb).2
            have h2 := (hblt b e).1
            omega
          have hrr6 := hrr5.chg hc6 fun b hb e => by
            have h2 := (hblt b e).1
            omega
          have hcw6 : Chg Non W w6 := hcw5.trans hc6 fun b hb e => by
            have h2 := (hblt b e).1
            omega
          have HE6 := hide (show ∀ i, i < C.length → ((sealsB (C.take (i + 1))).length ≤ p ↔ i < j) from fun i hi => ends_iff hj1 hj2 hjC hi)
          have hop := parityOpenAll hbl.rd (by omega)
          rw [hall] at hop
          have hjl : (C.take j).length = j := by rw [List.length_take]; omega
          obtain ⟨rem, hrem⟩ : ∃ rem, rem = l'.length - (allN [] l').2.length := ⟨_, rfl⟩
          rw [← hrem] at hop
          clear hev5 hrr5 hcw5 hc6 hcase hall hj1 hj2 hbu hrem hno hso hsu hql hflat hun hevlt hM1 hM2 HS2
          go_wp2_with fail
          refine hop.mono ?_
          rintro e w7 ⟨lv, rfl, hlv, hc7⟩
          obtain ⟨L1, cl, hle, hcl, hml⟩ := hlv.shape
          rw [hjl] at hle hcl
          subst hle
          unfold maxLen at hml
          have hev7 := hev6.c0 hc7
          have HRR := hide (hrr6.c0 hc7)
          have HLV := hide hlv.rd
          have hcw7 := hcw6.trans0 hc7
          obtain ⟨E1, ce, hee, hce, hme⟩ := hev7.shape
          rw [endsC_len] at hee hce
          subst hee
          unfold maxLen at hme
          have HEV := hide hev7
          clear hop hlv hev6 hrr6 hcw6 hc7 hev7 hbl hblt
          go_wp2_with fail
          go_loopw [21, 120] (fun nv iv wr => ∃ (i : Nat), i ≤ rl.length ∧ iv = .int .i64 i ∧ nv = .int .i64 ((min i j : Nat) : Int) ∧ Chg Non w7 wr) (fun _ iv _ => rl.length - (intOf iv).toNat)
          case atStart => exact ⟨0, Nat.zero_le _, rfl, by simp, Chg.refl _ _⟩
          case round =>
            obtain ⟨i, hi, rfl, rfl, hcw⟩ := hrel
            by_cases h1 : i < rl.length
            · obtain ⟨ge, ce', hee, _, hcell⟩ := (HEV.out.c0 hcw).at_ (k := i) (by rw [endsC_len]; exact h1)
              rw [endsC_get] at hcell
              rw [endsC_len] at hee
              injection hee with he1 he2 he3
              subst he1; subst he3
              have hiff := HE6.out i (by omega)
              obtain ⟨E, hE⟩ : ∃ E, E = (sealsB (C.take (i + 1))).length := ⟨_, rfl⟩
              rw [← hE] at hcell hiff
              clear hE
              by_cases hEM : E ≤ M
              · have d1 : decide ((E : Int) ≤ (M : Int)) = true := decide_eq_true (by omega)
                by_cases hEp : E ≤ p
                · have d2 : decide ((E : Int) ≤ (p : Int)) = true := decide_eq_true (by omega)
                  have HMN := hide (show min (i + 1) j = min i j + 1 by have := hiff.1 hEp; omega)
                  obtain ⟨mn, hmn⟩ : ∃ mn, mn = min i j := ⟨_, rfl⟩
                  rw [← hmn] at HMN ⊢
                  have hmnl : mn ≤ 8 := by omega
                  clear hiff hmn
                  go_wp2_with fail
                  go_round
                  case rel => exact ⟨i + 1, by omega, by go_num, by rw [HMN.out]; go_num, hcw⟩
                  case measure => simp [intOf]; omega
                · have d2 : decide ((E : Int) ≤ (p : Int)) = false := decide_eq_false (by omega)
                  have d2' : ¬ (E : Int) ≤ (p : Int) := by omega
                  have HMN := hide (show min (i + 1) j = min i j by have : ¬ i < j := fun h => hEp (hiff.2 h); omega)
                  obtain ⟨mn, hmn⟩ : ∃ mn, mn = min i j := ⟨_, rfl⟩
                  rw [← hmn] at HMN ⊢
                  clear hiff hmn
                  go_wp2_with fail
                  go_round
                  case rel => exact ⟨i + 1, by omega, by go_num, by rw [HMN.out], hcw⟩
                  case measure => simp [intOf]; omega
              · have d1 : decide ((E : Int) ≤ (M : Int)) = false := decide_eq_false (by omega)
                have d1' : ¬ (E : Int) ≤ (M : Int) := by omega
                have HMN := hide (show min (i + 1) j = min i j by have : ¬ i < j := fun h => by have := hiff.2 h; omega
                                                                  omega)
                obtain ⟨mn, hmn⟩ : ∃ mn, mn = min i j := ⟨_, rfl⟩
                rw [← hmn] at HMN ⊢
                clear hiff hmn
                go_wp2_with fail
                go_round
                case rel => exact ⟨i + 1, by omega, by go_num, by rw [HMN.out], hcw⟩
                case measure => simp [intOf]; omega
            · obtain rfl : i = rl.length := by omega
              rw [show min rl.length j = j by omega]
              obtain ⟨w8, rfl⟩ : ∃ w', w' = wr := ⟨_, rfl⟩
              go_upto_region 33 with fail
              go_cut [150] from 136 (fun v wx => v = .bool false ∧ wx = w8)
              case first =>
                by_cases hp : p = M
                · have hb : ((p : Int) == (M : Int)) = true := by rw [hp, beq_self_eq_true]
                  have d1 : decide ((j : Int) < (sure : Int)) = false := decide_eq_false (by have := hj3 hp; omega)
                  have d1n : ¬ j < sure := by have := hj3 hp; omega
                  clear hj3 hp
                  go_wp2_with fail
                  go_meet
                  case rel => exact ⟨rfl, rfl⟩
                · have hb : ((p : Int) == (M : Int)) = false := beq_eq_false_iff_ne.2 (by omega)
                  clear hj3
                  go_wp2_with fail
                  go_meet
                  case rel => exact ⟨rfl, rfl⟩
              case rest =>
                obtain ⟨rfl, hq4⟩ := hcut
                subst wc
                go_wp2_with fail
                go_loopw [153] (fun iv wr => ∃ (i : Nat), i ≤ j ∧ iv = .int .i64 i ∧ Chg Non w7 wr) (fun iv _ => j - (intOf iv).toNat)
                case atStart => exact ⟨0, Nat.zero_le _, rfl, hcw⟩
                case round =>
                  clear hcw
                  obtain ⟨i, hi, rfl, hcw⟩ := hrel
                  by_cases h2 : i < j
                  · obtain ⟨ad, x, rfl, _, hcx, hx⟩ := (HLV.out.c0 hcw).at_ (k := i) (by omega)
                    have hir : i < rl.length := by omega
                    have hCi : (C.take j)[i]'(by omega) = recB rl[i] i := by
                      rw [List.getElem_take]
                      have := HC.out
                      subst this
                      exact recsB_get rl i hir
                    rw [hCi] at hx
                    obtain ⟨ad2, y, rfl, _, hcy, hy⟩ := (HRR.out.c0 hcw).at_ hir
                    have hl4 := HR4.out _ (List.getElem_mem hir)
                    obtain ⟨l, hl⟩ : ∃ l, l = rl[i] := ⟨_, rfl⟩
                    rw [← hl] at hx hy hl4
                    have hrl := recB_len l i hl4
                    have hsplit := packSplit hx (by omega)
                    rw [recB_split l i hl4] at hsplit
                    simp only at hsplit
                    obtain ⟨X, cx, rfl, hcx2, hmx⟩ := hx.shape
                    unfold maxLen at hmx
                    clear hl hCi hx
                    go_wp2_with fail
                    refine hsplit.mono ?_
                    rintro e w9 ⟨pv, rfl, hpv, hc9⟩
                    obtain ⟨P1, cp, rfl, hcp, hmp⟩ := hpv.shape
                    unfold maxLen at hmp
                    have hpr := hpv.rd
                    obtain ⟨ad3, a0, rfl, _, k0, r0⟩ := hpr.at_ (k := 0) (by simp)
                    obtain ⟨ad3', a1, e3, _, k1, r1⟩ := hpr.at_ (k := 1) (by simp)
                    injection e3 with e3
                    subst e3
                    simp only [List.getElem_cons_zero, List.getElem_cons_succ] at r0 r1
                    obtain ⟨A4, c4, rfl, hc4, hm4⟩ := r1.shape
                    obtain ⟨ad4, rfl, _, k4⟩ := r1.at_ (k := 0) (by simp)
                    have hto : (UInt8.ofNat i).toNat = i := by rw [UInt8.toNat_ofNat']; omega
                    simp only [List.getElem_cons_zero, hto] at k4
                    simp [Addr.add] at k0 k1 k4
                    have hy9 := hy.c0 hc9
                    have k5 := hc9.cell hcy (fun h => h)
                    have hEq := fun n => refEqual_true (r0.dn n) (hy9.dn n)
                    have hwr8 : IntKind.u8.wrap (i : Int) = (i : Int) := IntWalk.u8_in _ (by omega)
                    have hcw9 := hcw.trans0 hc9
                    have hil : (i : Int) < (rl.length : Int) := by omega
                    have hl2 : ([l, [UInt8.ofNat i]] : List (List UInt8)).length = 2 := rfl
                    have hl1 : ([UInt8.ofNat i] : List UInt8).length = 1 := rfl
                    rw [hl2]
                    clear hsplit hpv hpr hcw hc9 hcy hcx hy r0 r1 hy9
                    go_wp2_with fail
                    go_quiet ((go_at_call 15; exact Calls.quiet_of (hEq _)))
                    go_wp2_with fail
                    go_round
                    case rel => exact ⟨i + 1, by omega, by go_num, hcw9.drewN nq⟩
                    case measure => simp [intOf]; omega
                  · go_wp2_with fail
                    go_ret
                    exact ⟨rfl, hcw7.trans0 hcw⟩

set_option maxRecDepth 100000 in
theorem contract (H : Type) (enc : TypeId × Value → H) (W : World) (base : Nat) (args : Array Value) (ds gs : List (DataW H)) (before : List MemPlace)
    (hval : ∀ (j : Nat) t v, Try.f3.params[j]? = some t → args[j]? = some v → Value.okWide Try.prog W .any base t v)
    (hW : DataW.Whole enc Try.prog Try.f3.params.toList Rows.groyneSealedSpec.vars false W args.toList ds gs before) (hsz : (DataW.weightsEach Try.prog (Try.f3.params.toList ++ Rows.groyneSealedSpec.plain.varTypes Try.prog) (ds ++ gs)).all (· ≤ reachBytes) = true) :
    Calls Try.prog 3 args W fun e W' => ∃ v, e = .returned v ∧ Rows.groyneSealedSpec.post enc Try.prog Try.f3 false true false false W args v W' := by
  have hW' := hW
  obtain ⟨p, q, hA0, hV, rfl, hfz, hnd⟩ := hW
  have hA : DataW.TrodAll enc Try.prog W 0 (fun _ => true) true Try.f3.params.toList args.toList ds p := hA0
  rw [Try.params3] at hA hval hsz
  obtain ⟨v0, vs0, d0, ds0, p0, q0, hargs, rfl, rfl, h0, r0⟩ := trodAll_cons hA
  obtain ⟨v1, vs1, d1, ds1, p1, q1, rfl, rfl, rfl, h1, r1⟩ := trodAll_cons r0
  obtain ⟨v2, vs2, d2, ds2, p2, q2, rfl, rfl, rfl, h2, r2⟩ := trodAll_cons r1
  obtain ⟨rfl, rfl, rfl⟩ := trodAll_nil r2
  obtain rfl : args = #[v0, v1, v2] := by cases args; simp_all
  obtain ⟨rfl, rfl⟩ := trodVars_none hV
  have k0 := h0
  have lt0 : ∀ x ∈ p0, x.block < W.heap.size := by obtain ⟨m, hm⟩ := k0; exact DataW.trod_lt m _ _ _ hm
  obtain ⟨l0, w0, z0⟩ := openBB (hval 0 22 v0 rfl rfl) h0
  have s0 : l0.length ≤ reachBytes := z0.2 _ fun e s he => by
    have := sized_slice hsz (j := 0) rfl (by rw [he]; rfl) Try.underlying22
    exact Nat.le_trans (Nat.le_mul_of_pos_right _ (of_decide_eq_true (by kernel_rfl))) this
  obtain ⟨a1, rfl, rfl, rfl, w1⟩ := open_int Try.underlying3 (hval 1 3 v1 rfl rfl) h1
  have k2 := h2
  have lt2 : ∀ x ∈ p2, x.block < W.heap.size := by obtain ⟨m, hm⟩ := k2; exact DataW.trod_lt m _ _ _ hm
  obtain ⟨l2, w2, z2⟩ := openI (hval 2 23 v2 rfl rfl) h2
  have s2 : l2.length ≤ reachBytes := z2.2 _ fun e s he => by
    have := sized_slice hsz (j := 2) rfl (by rw [he]; rfl) Try.underlying23
    exact Nat.le_trans (Nat.le_mul_of_pos_right _ (of_decide_eq_true (by kernel_rfl))) this
  refine (walk w0 w1 w2 s0 s2).mono fun e W' ⟨he, bel0⟩ => ?_
  have bel := bel0.below
  subst he
  exact ⟨_, rfl, _, _, _, [], _, [], hW', trodAll_mk1 (shut_bool Try.underlying4 _), (trodAll_cons_mk (Below.trod laidOut (by kernel_rfl) (of_decide_eq_true (by kernel_rfl)) k0 bel lt0) (trodAll_cons_mk (shut_int Try.underlying3 w1) (trodAll_cons_mk (Below.trod laidOut (by kernel_rfl) (of_decide_eq_true (by kernel_rfl)) k2 bel lt2) trodAll_mk0))), rfl, bel.frame _, fun h => by cases h⟩

set_option maxRecDepth 100000 in
theorem lifted (os : Os) (started : os.Started) (H : Type) (enc : TypeId × Value → H) :
    ReturnsInHanded {} Try.checked os 3 .any (Rows.groyneSealedSpec.pre6 enc Try.prog Try.f3 Rows.groyneSealedRow.domain false) (Rows.groyneSealedSpec.post enc Try.prog Try.f3 false true false false) := by
  refine returnsInHanded_of_change_sized (C := Try.checked) own started (by kernel_rfl) Try.func3
    (ChangeSpec.witness6 (enc := enc) (C := Try.checked) false ⟨#[], #[.slice none 0 0, .int .i64 0, .slice none 0 0], []⟩ 8 (by kernel_rfl) (by kernel_rfl) (by kernel_rfl) (by kernel_rfl)) ?_
  intro W base args ds gs before hval hW _ hsz _
  exact contract H enc W base args ds gs before hval hW hsz

theorem over : Rows.groyneSealedRow.holds Try.pinned (OpenSpec.ofChange Rows.groyneSealedSpec) :=
  OpenClaim.holds_of_wide 3 Try.f3 rfl rfl rfl rfl rfl rfl rfl ⟨rfl, rfl, rfl, rfl, rfl⟩ rfl rfl rfl rfl rfl (by kernel_rfl) Try.func3 (by kernel_rfl)
    (of_decide_eq_true (by kernel_rfl)) (by unfold Func.isWrapper; first | (rw [if_pos (by decide +kernel)]; kernel_rfl) | (rw [if_neg (by decide +kernel)]; exact ⟨rfl, rfl⟩))
    (fun os started H enc _ => lifted os started H enc)

theorem proved : Rows.GroyneSealedSaid := over
end Go.Proofs.Ytjagiahfndcbhaa.groyneSealed
