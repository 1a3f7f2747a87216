/- ParityWraps: any bytes, long ones too, are wrapped into records and unwrapped again, and other bytes are refused with the right error: for every input the statement's function answers true. No condition. -/
import Derived.Test.YtijnfjnkjojjnaaCut03
import Derived.Test.YtijnfjnkjojjnaaOpen
import Derived.Test.YtijnfjnkjojjnaaWrapP
import Derived.Test.YtijnfjnkjojjnaaWrapR
namespace Go.Proofs.Ytijnfjnkjojjnaa.parityWraps
open Go.ChangeShapes Go.WideShapes Go.ChangeAt Go.RowKit Go.Deep
open Go.ChangeMaps (open_string shut_string)
set_option linter.unusedVariables false

set_option maxRecDepth 100000 in
set_option maxHeartbeats 2000000 in
theorem walk {W : World} {v0 v1 : Value} {b0 c0 : List UInt8} (hb : RdB W (fun k => k < W.heap.size) v0 b0) (hc : RdB W (fun k => k < W.heap.size) v1 c0) (s0 : b0.length ≤ reachBytes) (s1 : c0.length ≤ reachBytes) :
    Calls Try.prog 11 #[v0, v1] W fun e W' => e = .returned (.bool true) ∧ Chg Non W W' := by
  clear s0 s1
  go_enter Try.func11, Try.ntmps11
  go_wp2_with fail
  refine awake03.mono ?_
  rintro e w1 ⟨rfl, g1⟩
  have hb1 := hb.c0 g1
  have hc1 := hc.c0 g1
  clear hb hc
  go_wp2_with fail
  refine (lawCut (n := 9000) hb1 (by omega)).mono ?_
  rintro e w2 ⟨ub, rfl, hub, rfl⟩
  go_wp2_with fail
  refine (lawCut (n := 9000) hc1 (by omega)).mono ?_
  rintro e w2 ⟨uc, rfl, huc, rfl⟩
  clear hb1 hc1
  obtain ⟨b, hb⟩ : ∃ b, b = b0.take 9000 := ⟨_, rfl⟩
  obtain ⟨c, hc⟩ : ∃ c, c = c0.take 9000 := ⟨_, rfl⟩
  have hbl : b.length ≤ 9000 := by rw [hb, List.length_take]; omega
  have hcl : c.length ≤ 9000 := by rw [hc, List.length_take]; omega
  have hwl := wrapB_len _ b (Nat.le_refl _)
  have hun := unwN_wrapB _ b [] (Nat.le_refl _)
  rw [List.nil_append] at hun
  obtain ⟨wr, hwr⟩ : ∃ wr, wr = wrapB b := ⟨_, rfl⟩
  have HWR := hide hwr
  rw [← hwr] at hwl hun
  have HUN := hide hun
  rw [← hb] at hub
  rw [← hc] at huc
  clear hb hc hwr hun
  have hcp := refCopy hub (by omega)
  go_wp2_with fail
  refine hcp.mono ?_
  rintro e w3 ⟨u3, rfl, hown3, k3⟩
  have hub3 := hub.c0 k3
  have huc3 := huc.c0 k3
  have g3 := g1.trans0 k3
  have hwrap := parityWrap hown3.rd (by omega)
  rw [← HWR.out] at hwrap
  clear hcp hub huc g1 k3 hown3
  go_wp2_with fail
  refine hwrap.mono ?_
  rintro e w4 ⟨u4, rfl, hown4, k4⟩
  have hub4 := hub3.c0 k4
  have huc4 := huc3.c0 k4
  have g4 := g3.trans0 k4
  have hwrap2 := refWrap hub4 (by omega)
  rw [← HWR.out] at hwrap2
  clear hwrap hub3 huc3 g3 k4
  go_wp2_with fail
  refine hwrap2.mono ?_
  rintro e w5 ⟨u5, rfl, hown5, k5⟩
  have hub5 := hub4.c0 k5
  have huc5 := huc4.c0 k5
  have g5 := g4.trans0 k5
  have hw5 := hown4.rd.c0 k5
  have heq := refEqual_true hw5 hown5.rd
  clear hwrap2 hub4 huc4 g4 k5 hown4 hown5
  go_wp2_with fail
  refine heq.mono ?_
  rintro e w6 ⟨rfl, hq6⟩
  have k6 := (Chg.refl Non w5).quiet hq6
  have hub6 := hub5.c0 k6
  have huc6 := huc5.c0 k6
  have g6 := g5.trans0 k6
  have hw6 := hw5.c0 k6
  have hcp := refCopy hw6 (by omega)
  clear heq hub5 huc5 g5 k6 hw5 hq6
  go_wp2_with fail
  refine hcp.mono ?_
  rintro e w7 ⟨u7, rfl, hown7, k7⟩
  have hub7 := hub6.c0 k7
  have huc7 := huc6.c0 k7
  have g7 := g6.trans0 k7
  have hunw := parityUnwrap hown7.rd (by omega)
  rw [HUN.out] at hunw
  simp only at hunw
  clear hcp hub6 huc6 g6 k7 hown7 hw6
  go_wp2_with fail
  refine hunw.mono ?_
  rintro e w8 ⟨u8, rfl, hown8, k8⟩
  have hub8 := hub7.c0 k8
  have huc8 := huc7.c0 k8
  have g8 := g7.trans0 k8
  have heq := refEqual_true hown8.rd hub8
  clear hunw hub7 huc7 g7 k8
  go_wp2_with fail
  refine heq.mono ?_
  rintro e w9 ⟨rfl, hq9⟩
  have k9 := (Chg.refl Non w8).quiet hq9
  have huc9 := huc8.c0 k9
  have g9 := g8.trans0 k9
  have hcp := refCopy huc9 (by omega)
  obtain ⟨⟨ox, oe⟩, ho⟩ : ∃ o, o = unwN [] c := ⟨_, rfl⟩
  have HO := hide ho
  clear heq hub8 huc8 g8 k9 hq9 hown8 ho
  go_wp2_with fail
  refine hcp.mono ?_
  rintro e w10 ⟨u10, rfl, hown10, k10⟩
  have huc10 := huc9.c0 k10
  have g10 := g9.trans0 k10
  have hunw := parityUnwrap hown10.rd (by omega)
  rw [← HO.out] at hunw
  simp only at hunw
  clear hcp huc9 g9 k10 hown10
  go_wp2_with fail
  refine hunw.mono ?_
  rintro e w11 ⟨u11, rfl, hown11, k11⟩
  have huc11 := huc10.c0 k11
  have g11 := g10.trans0 k11
  have hunw2 := refUnwrap huc11 (by omega)
  rw [← HO.out] at hunw2
  simp only at hunw2
  clear hunw huc10 g10 k11
  go_wp2_with fail
  refine hunw2.mono ?_
  rintro e w12 ⟨u12, rfl, hown12, k12⟩
  have g12 := g11.trans0 k12
  have heq := refEqual_true (hown11.rd.c0 k12) hown12.rd
  clear hunw2 huc11 g11 k12 hown11 hown12
  go_wp2_with fail
  refine heq.mono ?_
  rintro e w13 ⟨rfl, hq13⟩
  have g13 := g12.quiet hq13
  clear heq g12 hq13
  go_wp2_with fail
  go_ret
  exact ⟨rfl, g13⟩

set_option maxRecDepth 100000 in
theorem contract (H : Type) (enc : TypeId × Value → H) (W : World) (base : Nat) (args : Array Value) (ds gs : List (DataW H)) (before : List MemPlace)
    (hval : ∀ (j : Nat) t v, Try.f11.params[j]? = some t → args[j]? = some v → Value.okWide Try.prog W .any base t v)
    (hW : DataW.Whole enc Try.prog Try.f11.params.toList Rows.parityWrapsSpec.vars false W args.toList ds gs before) (hsz : (DataW.weightsEach Try.prog (Try.f11.params.toList ++ Rows.parityWrapsSpec.plain.varTypes Try.prog) (ds ++ gs)).all (· ≤ reachBytes) = true) :
    Calls Try.prog 11 args W fun e W' => ∃ v, e = .returned v ∧ Rows.parityWrapsSpec.post enc Try.prog Try.f11 false true false false W args v W' := by
  have hW' := hW
  obtain ⟨p, q, hA0, hV, rfl, hfz, hnd⟩ := hW
  have hA : DataW.TrodAll enc Try.prog W 0 (fun _ => true) true Try.f11.params.toList args.toList ds p := hA0
  rw [Try.params11] at hA hval hsz
  obtain ⟨v0, vs0, d0, ds0, p0, q0, hargs, rfl, rfl, h0, r0⟩ := trodAll_cons hA
  obtain ⟨v1, vs1, d1, ds1, p1, q1, rfl, rfl, rfl, h1, r1⟩ := trodAll_cons r0
  obtain ⟨rfl, rfl, rfl⟩ := trodAll_nil r1
  obtain rfl : args = #[v0, v1] := by cases args; simp_all
  obtain ⟨rfl, rfl⟩ := trodVars_none hV
  have k0 := h0
  have lt0 : ∀ x ∈ p0, x.block < W.heap.size := by obtain ⟨m, hm⟩ := k0; exact DataW.trod_lt m _ _ _ hm
  obtain ⟨l0, w0, z0⟩ := openB (hval 0 26 v0 rfl rfl) h0
  have s0 : l0.length ≤ reachBytes := z0.2 _ fun e s he => by
    have := sized_slice hsz (j := 0) rfl (by rw [he]; rfl) Try.underlying26
    exact Nat.le_trans (Nat.le_mul_of_pos_right _ (of_decide_eq_true (by kernel_rfl))) this
  have k1 := h1
  have lt1 : ∀ x ∈ p1, x.block < W.heap.size := by obtain ⟨m, hm⟩ := k1; exact DataW.trod_lt m _ _ _ hm
  obtain ⟨l1, w1, z1⟩ := openB (hval 1 26 v1 rfl rfl) h1
  have s1 : l1.length ≤ reachBytes := z1.2 _ fun e s he => by
    have := sized_slice hsz (j := 1) rfl (by rw [he]; rfl) Try.underlying26
    exact Nat.le_trans (Nat.le_mul_of_pos_right _ (of_decide_eq_true (by kernel_rfl))) this
  refine (walk w0 w1 s0 s1).mono fun e W' ⟨he, bel0⟩ => ?_
  have bel := bel0.below
  subst he
  exact ⟨_, rfl, _, _, _, [], _, [], hW', trodAll_mk1 (shut_bool Try.underlying4 _), (trodAll_cons_mk (Below.trod laidOut (by kernel_rfl) (of_decide_eq_true (by kernel_rfl)) k0 bel lt0) (trodAll_cons_mk (Below.trod laidOut (by kernel_rfl) (of_decide_eq_true (by kernel_rfl)) k1 bel lt1) trodAll_mk0)), rfl, bel.frame _, fun h => by cases h⟩

set_option maxRecDepth 100000 in
theorem lifted (os : Os) (started : os.Started) (H : Type) (enc : TypeId × Value → H) :
    ReturnsInHanded {} Try.checked os 11 .any (Rows.parityWrapsSpec.pre6 enc Try.prog Try.f11 Rows.parityWrapsRow.domain false) (Rows.parityWrapsSpec.post enc Try.prog Try.f11 false true false false) := by
  refine returnsInHanded_of_change_sized (C := Try.checked) own started (by kernel_rfl) Try.func11
    (ChangeSpec.witness6 (enc := enc) (C := Try.checked) false ⟨#[], #[.slice none 0 0, .slice none 0 0], []⟩ 8 (by kernel_rfl) (by kernel_rfl) (by kernel_rfl) (by kernel_rfl)) ?_
  intro W base args ds gs before hval hW _ hsz _
  exact contract H enc W base args ds gs before hval hW hsz

theorem over : Rows.parityWrapsRow.holds Try.pinned (OpenSpec.ofChange Rows.parityWrapsSpec) :=
  OpenClaim.holds_of_wide 11 Try.f11 rfl rfl rfl rfl rfl rfl rfl ⟨rfl, rfl, rfl, rfl, rfl⟩ rfl rfl rfl rfl rfl (by kernel_rfl) Try.func11 (by kernel_rfl)
    (of_decide_eq_true (by kernel_rfl)) (by unfold Func.isWrapper; first | (rw [if_pos (by decide +kernel)]; kernel_rfl) | (rw [if_neg (by decide +kernel)]; exact ⟨rfl, rfl⟩))
    (fun os started H enc _ => lifted os started H enc)

theorem proved : Rows.ParityWrapsSaid := over
end Go.Proofs.Ytijnfjnkjojjnaa.parityWraps
