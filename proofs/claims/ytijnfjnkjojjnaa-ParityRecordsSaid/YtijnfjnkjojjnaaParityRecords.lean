/- ParityRecords: any bytes are sealed and opened again, one record behind the other, and other bytes are refused with the right error: for every input the statement's function answers true. No condition. -/
import Derived.Test.YtijnfjnkjojjnaaCut03
import Derived.Test.YtijnfjnkjojjnaaOpenBB
import Derived.Test.YtijnfjnkjojjnaaAll3
import Derived.Test.YtijnfjnkjojjnaaRefSeal
import Derived.Test.YtijnfjnkjojjnaaRefOpen
import Derived.Deep.Cut
namespace Go.Proofs.Ytijnfjnkjojjnaa.parityRecords
open Go.ChangeShapes Go.WideShapes Go.ChangeAt Go.RowKit Go.Deep
open Go.ChangeMaps (open_string shut_string)
set_option linter.unusedVariables false

theorem seals_1200 : ∀ (ll : List (List UInt8)), (∀ l ∈ ll, l.length ≤ 1200) → (sealsB ll).length ≤ 2000 * ll.length
  | [], _ => by simp [sealsB]
  | a :: ll, h => by
    have h1 := h a (by simp)
    have h2 := seals_1200 ll fun l hl => h l (by simp [hl])
    rw [sealsB_cons, List.length_append, sealB_length, List.length_cons]; omega
theorem allN_seals : ∀ (ll done : List (List UInt8)), (∀ l ∈ ll, l.length ≤ 1048576) → allN done (sealsB ll) = (done ++ ll, [])
  | [], done, _ => by rw [show sealsB [] = [] from rfl, allN_bad openR_nil (by decide)]; simp
  | l :: ll, done, h => by
    rw [sealsB_cons, allN_ok (openR_sealB (h l (by simp)) _), allN_seals ll _ fun x hx => h x (by simp [hx])]; simp

set_option maxRecDepth 100000 in
set_option maxHeartbeats 2000000 in
theorem walk {W : World} {v0 v1 : Value} {at_ : Int} {ll : List (List UInt8)} {b0 : List UInt8} (h0 : RdBB W (fun k => k < W.heap.size) v0 ll) (hb : RdB W (fun k => k < W.heap.size) v1 b0) (hat : (Lit.int .i64 at_).wf = true) (s0 : ll.length ≤ reachBytes) (s1 : b0.length ≤ reachBytes) :
    Calls Try.prog 8 #[v0, v1, .int .i64 at_] W fun e W' => e = .returned (.bool true) ∧ Chg Non W W' := by
  obtain ⟨A1, c1, rfl, hc1, hm1⟩ := h0.shape
  unfold maxLen at hm1
  clear s0 s1
  go_enter Try.func8, Try.ntmps8
  go_wp2_with fail
  refine awake03.mono ?_
  rintro e w1 ⟨rfl, g1⟩
  have h1 := h0.c0 g1
  have hb1 := hb.c0 g1
  clear h0 hb
  go_upto_if 28 with fail
  go_cut [0] from 24 (fun v wx => wx = w1 ∧ ∃ (m : List (List UInt8)) (A2 : Option Addr) (c2 : Nat), v = .slice A2 m.length c2 ∧ m.length ≤ 6 ∧ RdBB w1 (fun k => k < W.heap.size) (.slice A2 m.length c2) m)
  case first =>
    by_cases h4 : 6 < ll.length
    · have hdec : decide ((6 : Int) < (ll.length : Int)) = true := decide_eq_true (by omega)
      have hf := RdBB.front (j := 6) h1 (by omega)
      have hf6 : (ll.take 6).length = 6 := by rw [List.length_take]; omega
      have HF6 := hide hf6
      clear hf6
      go_wp2_with fail
      go_meet
      case rel => exact ⟨rfl, ll.take 6, A1, c1, by rw [HF6.out], by rw [HF6.out]; omega, by rw [HF6.out]; exact hf⟩
    · have hdec : decide ((6 : Int) < (ll.length : Int)) = false := decide_eq_false (by omega)
      go_wp2_with fail
      go_meet
      case rel => exact ⟨rfl, ll, A1, c1, rfl, by omega, h1⟩
  case rest =>
  obtain ⟨rfl, m, A2, c2, rfl, hn6, hmr⟩ := hcut
  obtain ⟨A2', c2', hsh, hc2, hm2⟩ := hmr.shape
  unfold maxLen at hm2
  injection hsh with hsh1 hsh2 hsh3
  subst hsh3
  clear hsh1 hsh2 h1
  obtain ⟨C, hC⟩ : ∃ C, C = m.map fun l => l.take 1200 := ⟨_, rfl⟩
  have hCl : C.length = m.length := by rw [hC, List.length_map]
  have hCm : ∀ l ∈ C, l.length ≤ 1200 := fun l hl => by
    rw [hC] at hl
    obtain ⟨x, _, rfl⟩ := List.mem_map.1 hl
    rw [List.length_take]; omega
  have hCg : ∀ (k : Nat) (h : k < C.length) (h2 : k < m.length), C[k] = m[k].take 1200 := fun k h h2 => by
    subst hC
    simp
  have hall := seals_1200 C hCm
  have HCM := hide hCm
  clear hC hCm
  have hsN : sealedN (-1) = 0 := rfl
  have hsP : sealedN 1048577 = 0 := rfl
  have hs1 := fun (w' : World) => paritySealed (n := -1) (w := w') rfl
  have hs2 := fun (w' : World) => paritySealed (n := 1048577) (w := w') rfl
  rw [hsN] at hs1
  rw [hsP] at hs2
  clear hsN hsP
  go_wp2_with fail
  refine (lawCut (n := 3000) hb1 (by omega)).mono ?_
  rintro e w2 ⟨ub, rfl, hub, rfl⟩
  clear hb1
  go_wp2_with fail
  go_loopw [7, 35] (fun av iv wr => ∃ (k : Nat), k ≤ C.length ∧ iv = .int .i64 k ∧ OwnB wr W.heap.size av (sealsB (C.take k)) ∧ RdBB wr (fun k => k < W.heap.size) (.slice A2 m.length c2) m ∧ RdB wr (fun k => k < W.heap.size) ub (b0.take 3000) ∧ Chg Non W wr) (fun _ iv _ => C.length - (intOf iv).toNat)
  case atStart => exact ⟨0, by omega, rfl, OwnB.nil_ _ _, hmr, hub, g1⟩
  case round =>
    clear hmr g1 hub
    obtain ⟨k, hk, rfl, hA, hr, hub, hcw⟩ := hrel
    by_cases h5 : k < C.length
    · have h5l : k < m.length := by omega
      obtain ⟨ad, p, rfl, hadF, hp, hrp⟩ := hr.at_ h5l
      have hst := sealsB_take C k h5
      rw [hCg k h5 h5l] at hst
      have hmono := sealsB_mono C (i := k + 1) (j := C.length) (by omega)
      rw [List.take_length, hst, List.length_append] at hmono
      obtain ⟨q, hq⟩ : ∃ q, q = m[k] := ⟨_, rfl⟩
      rw [← hq] at hrp hst hmono
      have HST := hide hst
      obtain ⟨cur, hcur⟩ : ∃ cur, cur = sealsB (C.take k) := ⟨_, rfl⟩
      rw [← hcur] at hA hmono
      have HC := hide hcur
      obtain ⟨x, hx⟩ : ∃ x, x = q.take 1200 := ⟨_, rfl⟩
      have hxl : x.length ≤ 1200 := by rw [hx, List.length_take]; omega
      rw [← hx] at hmono
      have HX := hide hx
      have hkd : decide ((k : Int) < (m.length : Int)) = true := decide_eq_true (by omega)
      obtain ⟨P, np, cp, rfl⟩ : ∃ P np cp, p = .slice P np cp := by obtain ⟨P, cp, e, _⟩ := hrp.shape; exact ⟨P, _, cp, e⟩
      clear hq hcur hst hx
      go_wp2_with fail
      refine (lawCut (n := 1200) hrp (by omega)).mono ?_
      rintro e w3 ⟨u, rfl, hu, rfl⟩
      rw [← HX.out] at hu
      have hlu := fun (w' : World) (ty : TypeId) => run_len8 hu w' ty
      have hla := fun (w' : World) (ty : TypeId) => run_len8 hA.rd w' ty
      go_wp2_with fail
      refine (refCopy hu (by omega)).mono ?_
      rintro e w4 ⟨u4, rfl, hown4, k4⟩
      have hu4 := hu.c0 k4
      have hA4 := hA.chg k4 fun _ _ h => h
      have hr4 := hr.c0 k4
      have hub4 := hub.c0 k4
      have hcw4 := hcw.trans0 k4
      have hseal := paritySeal hown4.rd
      rw [if_neg (by omega), if_neg (by omega)] at hseal
      clear hu hA hr hub hcw k4 hrp hp
      go_wp2_with fail
      refine hseal.mono ?_
      rintro e w5 ⟨s5, rfl, hs5, k5⟩
      have hu5 := hu4.c0 k5
      have hA5 := hA4.chg k5 fun _ _ h => h
      have hr5 := hr4.c0 k5
      have hub5 := hub4.c0 k5
      have hcw5 := hcw4.trans0 k5
      have hseal2 := refSeal hu5
      rw [if_neg (by omega), if_neg (by omega)] at hseal2
      have z5 := k5.size
      clear hseal hu4 hA4 hr4 hub4 hcw4 k5 hown4
      go_wp2_with fail
      refine hseal2.mono ?_
      rintro e w6 ⟨s6, rfl, hs6, k6⟩
      have hu6 := hu5.c0 k6
      have hA6 := hA5.chg k6 fun _ _ h => h
      have hr6 := hr5.c0 k6
      have hub6 := hub5.c0 k6
      have hcw6 := hcw5.trans0 k6
      have hs56 := hs5.rdB.c0 k6
      have z6 := k6.size
      have hls := fun (w' : World) (ty : TypeId) => run_len8 hs5.rd w' ty
      have heq := refEqual_true hs56 hs6.rd
      have hsd := fun (w' : World) => paritySealed (n := (x.length : Int)) (w := w') (by
        have hmin : IntKind.i64.min = -9223372036854775808 := rfl
        have hmax : IntKind.i64.max = 9223372036854775807 := rfl
        simp [Lit.wf, hmin, hmax]; omega)
      have hsl : sealedN (x.length : Int) = ((sealB x).length : Int) := by rw [sealedN, if_neg (by omega), sealB_length]; omega
      rw [hsl] at hsd
      have hsxl := sealB_length x
      have hslb : (sealB x).length ≤ 3000 := by omega
      have HSXL := hide hsxl
      obtain ⟨sx, hsx⟩ : ∃ sx, sx = sealB x := ⟨_, rfl⟩
      have HSX := hide hsx
      rw [← hsx] at hsd hls hs5 hs56 hslb hmono
      clear hseal2 hu5 hA5 hr5 hub5 hcw5 k6 hsl hsxl hsx
      go_wp2_with fail
      refine heq.mono ?_
      rintro e w7 ⟨rfl, hq7⟩
      have k7 := (Chg.refl Non w6).quiet hq7
      have hu7 := hu6.c0 k7
      have hA7 := hA6.chg k7 fun _ _ h => h
      have hr7 := hr6.c0 k7
      have hub7 := hub6.c0 k7
      have hcw7 := hcw6.trans0 k7
      have z7 := k7.size
      have hs7 := hs56.c0 k7
      clear heq hu6 hA6 hr6 hub6 hcw6 hs56 hs6 hq7 k7
      go_wp2_with fail
      refine (hsd _).mono ?_
      rintro e w8 ⟨rfl, rfl⟩
      have hcp := refCopy hA7.rd (by omega)
      have hlenA : cur.length + sx.length ≤ 140737488355328 := by omega
      go_wp2_with fail
      refine hcp.mono ?_
      rintro e w9 ⟨u9, rfl, hown9, k9⟩
      have hu9 := hu7.c0 k9
      have hA9 := hA7.chg k9 fun _ _ h => h
      have hr9 := hr7.c0 k9
      have hub9 := hub7.c0 k9
      have hcw9 := hcw7.trans0 k9
      have hs9 := hs7.c0 k9
      have hsz9 := k9.size
      have hlt9 : ∀ b, u9.ownBlock = some b → w8.heap.size ≤ b := fun b hb => (hown9.lt b hb).1
      have hW8 := hcw7.size
      have hOA : openA (cur ++ sx) (cur.length : Int) = (x, (cur.length : Int) + (sx.length : Int), 0) := by
        have h1 := openR_sealB (b := x) (by omega) []
        rw [List.append_nil, ← HSX.out] at h1
        have h2 := openA_ok (b := cur ++ sx) (a := cur.length) (by rw [List.length_append]; omega) (by rw [List.drop_left]; exact h1)
        rw [h2, List.length_append]; simp
      have HOA := hide hOA
      have hwS : IntKind.i64.wrap ((cur.length : Int) + (sx.length : Int)) = (cur.length : Int) + (sx.length : Int) := IntWalk.i64_in _ (by omega)
      have hltA : ∀ b, u7.ownBlock = some b → b < w8.heap.size := fun b hb => (hA7.lt b hb).2
      clear hcp hA7 hu7 hr7 hub7 hcw7 hs7 k9 hOA hsd
      go_wp2_with (at_builtin; refine append_B rfl _ _ rfl hown9 rfl hs9 rfl hlenA hsz9 ?_; intro v10 w10 hown10 hg10 hat10)
      have hu10 := hu9.chg (Chg.of_grown hg10) fun k hk e => by have := hlt9 k e.symm; omega
      have hA10 := hA9.chg (Chg.of_grown hg10) fun k hk e => by have := hlt9 k e.symm; have := hltA k hk; omega
      have hr10 := hr9.chg (Chg.of_grown hg10) fun k hk e => by have := hlt9 k e.symm; omega
      have hub10 := hub9.chg (Chg.of_grown hg10) fun k hk e => by have := hlt9 k e.symm; omega
      have hs10 := hs9.chg (Chg.of_grown hg10) fun k hk e => by have := hlt9 k e.symm; omega
      have hcw10 := hcw9.grown hg10 fun k hk hlt => by have := hlt9 k hk; omega
      have hopn := parityOpen (at_ := (cur.length : Int)) hown10.rd (by rw [List.length_append]; exact hlenA)
      rw [HOA.out] at hopn
      simp only [opA] at hopn
      clear hu9 hA9 hr9 hub9 hs9 hcw9
      refine hopn.mono ?_
      rintro e w11 ⟨u11, rfl, hown11, k11⟩
      have hu11 := hu10.c0 k11
      have hA11 := hA10.chg k11 fun _ _ h => h
      have hr11 := hr10.c0 k11
      have hub11 := hub10.c0 k11
      have hs11 := hs10.c0 k11
      have hcw11 := hcw10.trans0 k11
      have heq2 := refEqual_true hown11.rd hu11
      clear hopn hu10 hA10 hr10 hub10 hs10 hcw10 k11
      go_wp2_with fail
      refine heq2.mono ?_
      rintro e w12 ⟨rfl, hq12⟩
      have k12 := (Chg.refl Non w11).quiet hq12
      have hA12 := hA11.chg k12 fun _ _ h => h
      have hr12 := hr11.c0 k12
      have hub12 := hub11.c0 k12
      have hs12 := hs11.c0 k12
      have hcw12 := hcw11.trans0 k12
      have hsz12 := hcw12.size
      clear heq2 hu11 hA11 hr11 hub11 hs11 hcw11 k12 hq12
      go_wp2_with (at_builtin; refine append_B rfl _ _ rfl hA12 rfl hs12 rfl hlenA hsz12 ?_; intro v13 w13 hA13 hg13 hat13)
      have hrow13 : ∀ b, u7.ownBlock = some b → W.heap.size ≤ b := fun b hb => (hA12.lt b hb).1
      have hr13 := hr12.chg (Chg.of_grown hg13) fun k hk e => by have := hrow13 k e.symm; omega
      have hub13 := hub12.chg (Chg.of_grown hg13) fun k hk e => by have := hrow13 k e.symm; omega
      have hcw13 := hcw12.own hg13 hrow13
      rw [HC.out, HSX.out, HX.out, ← HST.out] at hA13
      go_round
      case rel => exact ⟨k + 1, by omega, by go_num, hA13, hr13, hub13, hcw13⟩
      case measure => simp [intOf]; omega
    · obtain rfl : k = C.length := by omega
      rw [List.take_length] at hA
      have hal := allN_seals C [] (fun l hl => by have := HCM.out l hl; omega)
      have hla := fun (w' : World) (ty : TypeId) => run_len8 hA.rd w' ty
      have hcp := refCopy hA.rd (by omega)
      have hcpb := fun (w' : World) (h : RdB w' (fun k => k < W.heap.size) ub (b0.take 3000)) => refCopy h (by rw [List.length_take]; omega)
      obtain ⟨al, hale⟩ : ∃ al, al = sealsB C := ⟨_, rfl⟩
      rw [← hale] at hA hal hla hcp hall
      rw [List.nil_append] at hal
      have HAL := hide hal
      have HCPB := hide hcpb
      have hkd : decide ((C.length : Int) < (m.length : Int)) = false := decide_eq_false (by omega)
      have hbn : ((C.length : Int) != (m.length : Int)) = false := by simp; omega
      have hkn : ¬ C.length < m.length := by omega
      have hall2 : al.length ≤ 12000 := by omega
      have HCL := hide hCl
      clear hcpb hal hale hall hr h5 hCg hCl hk
      go_wp2_with fail
      refine hcp.mono ?_
      rintro e w3 ⟨u3, rfl, hown3, k3⟩
      have hoa := parityOpenAll hown3.rd (by omega)
      rw [HAL.out] at hoa
      simp only [List.length_nil, Nat.sub_zero] at hoa
      have hub3 := hub.c0 k3
      have hcw3 := hcw.trans0 k3
      clear hcp hA hub hcw k3 hown3
      go_wp2_with fail
      refine hoa.mono ?_
      rintro e w4 ⟨bk, rfl, hbk, k4⟩
      obtain ⟨Ab, cb, rfl, _, _⟩ := hbk.shape
      have hub4 := hub3.c0 k4
      have hcw4 := hcw3.trans0 k4
      have hcpb := HCPB.out _ hub4
      clear hoa hub3 hcw3 k4 hbk HAL HCPB
      go_wp2_with fail
      refine hcpb.mono ?_
      rintro e w5 ⟨u5, rfl, hown5, k5⟩
      have hub5 := hub4.c0 k5
      have hcw5 := hcw4.trans0 k5
      have hbl3 : (b0.take 3000).length ≤ 140737488355328 := by rw [List.length_take]; omega
      have hopn := parityOpen (at_ := at_) hown5.rd hbl3
      obtain ⟨⟨ox, on_, oe⟩, hoA⟩ : ∃ o, o = openA (b0.take 3000) at_ := ⟨_, rfl⟩
      have hopn2 := fun (w' : World) (h : RdB w' (fun k => k < W.heap.size) ub (b0.take 3000)) => refOpen (at_ := at_) h hbl3
      rw [← hoA] at hopn
      simp only [← hoA] at hopn2
      simp only [opA] at hopn hopn2
      have HOPN2 := hide hopn2
      clear hcpb hub4 hcw4 hown5 k5 hoA hopn2 hbl3
      go_wp2_with fail
      refine hopn.mono ?_
      rintro e w6 ⟨u6, rfl, hown6, k6⟩
      have hub6 := hub5.c0 k6
      have hcw6 := hcw5.trans0 k6
      have hopn2 := HOPN2.out _ hub6
      clear hopn HOPN2 hub5 hcw5 k6
      go_wp2_with fail
      refine hopn2.mono ?_
      rintro e w7 ⟨u7, rfl, hown7, k7⟩
      have heq := refEqual_true (hown6.rd.c0 k7) hown7.rd
      have hcw7 := hcw6.trans0 k7
      clear hopn2 hub6 hcw6 hown6 hown7 k7
      go_wp2_with fail
      refine heq.mono ?_
      rintro e w8 ⟨rfl, hq8⟩
      have k8 := hcw7.quiet hq8
      clear heq hcw7 hq8
      go_wp2_with fail
      refine (hs1 _).mono ?_
      rintro e w9 ⟨rfl, rfl⟩
      go_wp2_with fail
      refine (hs2 _).mono ?_
      rintro e w10 ⟨rfl, rfl⟩
      go_wp2_with fail
      go_ret
      exact ⟨rfl, k8⟩

set_option maxRecDepth 100000 in
theorem contract (H : Type) (enc : TypeId × Value → H) (W : World) (base : Nat) (args : Array Value) (ds gs : List (DataW H)) (before : List MemPlace)
    (hval : ∀ (j : Nat) t v, Try.f8.params[j]? = some t → args[j]? = some v → Value.okWide Try.prog W .any base t v)
    (hW : DataW.Whole enc Try.prog Try.f8.params.toList Rows.parityRecordsSpec.vars false W args.toList ds gs before) (hsz : (DataW.weightsEach Try.prog (Try.f8.params.toList ++ Rows.parityRecordsSpec.plain.varTypes Try.prog) (ds ++ gs)).all (· ≤ reachBytes) = true) :
    Calls Try.prog 8 args W fun e W' => ∃ v, e = .returned v ∧ Rows.parityRecordsSpec.post enc Try.prog Try.f8 false true false false W args v W' := by
  have hW' := hW
  obtain ⟨p, q, hA0, hV, rfl, hfz, hnd⟩ := hW
  have hA : DataW.TrodAll enc Try.prog W 0 (fun _ => true) true Try.f8.params.toList args.toList ds p := hA0
  rw [Try.params8] at hA hval hsz
  obtain ⟨v0, vs0, d0, ds0, p0, q0, hargs, rfl, rfl, h0, r0⟩ := trodAll_cons hA
  obtain ⟨v1, vs1, d1, ds1, p1, q1, rfl, rfl, rfl, h1, r1⟩ := trodAll_cons r0
  obtain ⟨v2, vs2, d2, ds2, p2, q2, rfl, rfl, rfl, h2, r2⟩ := trodAll_cons r1
  obtain ⟨rfl, rfl, rfl⟩ := trodAll_nil r2
  obtain rfl : args = #[v0, v1, v2] := by cases args; simp_all
  obtain ⟨rfl, rfl⟩ := trodVars_none hV
  have k0 := h0
  have lt0 : ∀ x ∈ p0, x.block < W.heap.size := by obtain ⟨m, hm⟩ := k0; exact DataW.trod_lt m _ _ _ hm
  obtain ⟨l0, w0, z0⟩ := openBB (hval 0 25 v0 rfl rfl) h0
  have s0 : l0.length ≤ reachBytes := z0.2 _ fun e s he => by
    have := sized_slice hsz (j := 0) rfl (by rw [he]; rfl) Try.underlying25
    exact Nat.le_trans (Nat.le_mul_of_pos_right _ (of_decide_eq_true (by kernel_rfl))) this
  have k1 := h1
  have lt1 : ∀ x ∈ p1, x.block < W.heap.size := by obtain ⟨m, hm⟩ := k1; exact DataW.trod_lt m _ _ _ hm
  obtain ⟨l1, w1, z1⟩ := openB (hval 1 26 v1 rfl rfl) h1
  have s1 : l1.length ≤ reachBytes := z1.2 _ fun e s he => by
    have := sized_slice hsz (j := 1) rfl (by rw [he]; rfl) Try.underlying26
    exact Nat.le_trans (Nat.le_mul_of_pos_right _ (of_decide_eq_true (by kernel_rfl))) this
  obtain ⟨a2, rfl, rfl, rfl, w2⟩ := open_int Try.underlying3 (hval 2 3 v2 rfl rfl) h2
  refine (walk w0 w1 w2 s0 s1).mono fun e W' ⟨he, bel0⟩ => ?_
  have bel := bel0.below
  subst he
  exact ⟨_, rfl, _, _, _, [], _, [], hW', trodAll_mk1 (shut_bool Try.underlying4 _), (trodAll_cons_mk (Below.trod laidOut (by kernel_rfl) (of_decide_eq_true (by kernel_rfl)) k0 bel lt0) (trodAll_cons_mk (Below.trod laidOut (by kernel_rfl) (of_decide_eq_true (by kernel_rfl)) k1 bel lt1) (trodAll_cons_mk (shut_int Try.underlying3 w2) trodAll_mk0))), rfl, bel.frame _, fun h => by cases h⟩

set_option maxRecDepth 100000 in
theorem lifted (os : Os) (started : os.Started) (H : Type) (enc : TypeId × Value → H) :
    ReturnsInHanded {} Try.checked os 8 .any (Rows.parityRecordsSpec.pre6 enc Try.prog Try.f8 Rows.parityRecordsRow.domain false) (Rows.parityRecordsSpec.post enc Try.prog Try.f8 false true false false) := by
  refine returnsInHanded_of_change_sized (C := Try.checked) own started (by kernel_rfl) Try.func8
    (ChangeSpec.witness6 (enc := enc) (C := Try.checked) false ⟨#[], #[.slice none 0 0, .slice none 0 0, .int .i64 0], []⟩ 8 (by kernel_rfl) (by kernel_rfl) (by kernel_rfl) (by kernel_rfl)) ?_
  intro W base args ds gs before hval hW _ hsz _
  exact contract H enc W base args ds gs before hval hW hsz

theorem over : Rows.parityRecordsRow.holds Try.pinned (OpenSpec.ofChange Rows.parityRecordsSpec) :=
  OpenClaim.holds_of_wide 8 Try.f8 rfl rfl rfl rfl rfl rfl rfl ⟨rfl, rfl, rfl, rfl, rfl⟩ rfl rfl rfl rfl rfl (by kernel_rfl) Try.func8 (by kernel_rfl)
    (of_decide_eq_true (by kernel_rfl)) (by unfold Func.isWrapper; first | (rw [if_pos (by decide +kernel)]; kernel_rfl) | (rw [if_neg (by decide +kernel)]; exact ⟨rfl, rfl⟩))
    (fun os started H enc _ => lifted os started H enc)

theorem proved : Rows.ParityRecordsSaid := over
end Go.Proofs.Ytijnfjnkjojjnaa.parityRecords
