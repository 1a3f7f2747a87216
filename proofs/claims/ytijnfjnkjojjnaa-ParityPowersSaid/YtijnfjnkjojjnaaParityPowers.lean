/- ParityPowers: powers of two are multiplied by adding their numbers: for every input the statement's function answers true. No condition. -/
import Derived.Test.YtijnfjnkjojjnaaRefMul
import Derived.Test.YtijnfjnkjojjnaaPow
import Derived.Test.YtijnfjnkjojjnaaAwake03
import Derived.Test.YtijnfjnkjojjnaaOpen
namespace Go.Proofs.Ytijnfjnkjojjnaa.parityPowers
open Go.ChangeShapes Go.WideShapes Go.ChangeAt Go.RowKit Go.Deep
open Go.ChangeMaps (open_string shut_string)
set_option linter.unusedVariables false

theorem walk {W : World} {n m : Int} (hn : (Lit.int .i64 n).wf = true) (hm : (Lit.int .i64 m).wf = true) :
    Calls Try.prog 7 #[.int .i64 n, .int .i64 m] W fun e W' => e = .returned (.bool true) ∧ Chg Non W W' := by
  have hmin : IntKind.i64.min = -9223372036854775808 := rfl
  have hn2 : -9223372036854775808 ≤ n ∧ n ≤ 9223372036854775807 := by simpa [Lit.wf, hmin] using hn
  have hm2 : -9223372036854775808 ≤ m ∧ m ≤ 9223372036854775807 := by simpa [Lit.wf, hmin] using hm
  clear hn hm hmin
  obtain ⟨r, hr⟩ : ∃ r, n.tmod 255 = r := ⟨_, rfl⟩
  obtain ⟨s, hs⟩ : ∃ s, m.tmod 255 = s := ⟨_, rfl⟩
  obtain ⟨hr1, hr2, k, hk, hk2, hk3⟩ := tmod255 hr
  obtain ⟨hs1, hs2, j, hj, hj2, hj3⟩ := tmod255 hs
  have hne := powB_ne k
  have e2 : (((powB k).toNat : Int) == 0) = false := beq_eq_false_iff_ne.2 fun e => hne (UInt8.toNat_inj.1 (show (powB k).toNat = 0 by omega))
  have hsum : mulB (powB k) (powB (s % 255).toNat) = powB (((k : Int) + s) % 255).toNat := by
    rw [← powB_add, ← powB_mod]
    congr 1
    omega
  have HS := hide hsum
  have HK2 := hide hk2
  clear hne hsum hj3 hj2 hk2
  by_cases hneg : r < 0
  all_goals
    first | rw [if_pos hneg] at hk3 | rw [if_neg hneg] at hk3
    go_enter Try.func7, Try.ntmps7
    go_wp2_with fail
    refine awake03.mono ?_
    rintro e w1 ⟨rfl, g1⟩
    go_wp2_with fail
    refine (parityPow hn2.1 hn2.2).mono ?_
    rintro e w' ⟨rfl, rfl⟩
    rw [HK2.out]
    go_wp2_with fail
    clear hr
    go_loop [6, 8] (fun pv iv => ∃ i : Nat, i ≤ k ∧ iv = .int .i64 i ∧ pv = .int .u8 ((powB i).toNat : Int)) (fun _ iv => k - (intOf iv).toNat)
    case atStart => exact ⟨0, Nat.zero_le _, rfl, rfl⟩
    case round =>
      obtain ⟨i, hi, rfl, rfl⟩ := hrel
      by_cases h5 : i < k
      · go_wp2_with fail
        refine (refMul (b := 2)).mono ?_
        rintro e w' ⟨rfl, rfl⟩
        go_wp2_with fail
        go_round
        case rel => exact ⟨i + 1, by omega, by go_num, rfl⟩
        case measure => simp [intOf]; omega
      · have hik : i = k := by omega
        subst hik
        go_wp2_with fail
        refine (parityPow (n := s) (by omega) (by omega)).mono ?_
        rintro e w' ⟨rfl, rfl⟩
        go_wp2_with fail
        refine parityMul.mono ?_
        rintro e w' ⟨rfl, rfl⟩
        go_wp2_with fail
        refine (parityPow (n := (i : Int) + s) (by omega) (by omega)).mono ?_
        rintro e w' ⟨rfl, rfl⟩
        rw [HS.out]
        go_wp2_with fail
        go_ret
        exact ⟨ret_bool (by simp), g1⟩

set_option maxRecDepth 100000 in
theorem contract (H : Type) (enc : TypeId × Value → H) (W : World) (base : Nat) (args : Array Value) (ds gs : List (DataW H)) (before : List MemPlace)
    (hval : ∀ (j : Nat) t v, Try.f7.params[j]? = some t → args[j]? = some v → Value.okWide Try.prog W .any base t v)
    (hW : DataW.Whole enc Try.prog Try.f7.params.toList Rows.parityPowersSpec.vars false W args.toList ds gs before) (hsz : (DataW.weightsEach Try.prog (Try.f7.params.toList ++ Rows.parityPowersSpec.plain.varTypes Try.prog) (ds ++ gs)).all (· ≤ reachBytes) = true) :
    Calls Try.prog 7 args W fun e W' => ∃ v, e = .returned v ∧ Rows.parityPowersSpec.post enc Try.prog Try.f7 false true false false W args v W' := by
  have hW' := hW
  obtain ⟨p, q, hA0, hV, rfl, hfz, hnd⟩ := hW
  have hA : DataW.TrodAll enc Try.prog W 0 (fun _ => true) true Try.f7.params.toList args.toList ds p := hA0
  rw [Try.params7] at hA hval hsz
  obtain ⟨v0, vs0, d0, ds0, p0, q0, hargs, rfl, rfl, h0, r0⟩ := trodAll_cons hA
  obtain ⟨v1, vs1, d1, ds1, p1, q1, rfl, rfl, rfl, h1, r1⟩ := trodAll_cons r0
  obtain ⟨rfl, rfl, rfl⟩ := trodAll_nil r1
  obtain rfl : args = #[v0, v1] := by cases args; simp_all
  obtain ⟨rfl, rfl⟩ := trodVars_none hV
  obtain ⟨a0, rfl, rfl, rfl, w0⟩ := open_int Try.underlying3 (hval 0 3 v0 rfl rfl) h0
  obtain ⟨a1, rfl, rfl, rfl, w1⟩ := open_int Try.underlying3 (hval 1 3 v1 rfl rfl) h1
  refine (walk w0 w1 ).mono fun e W' ⟨he, bel0⟩ => ?_
  have bel := bel0.below
  subst he
  exact ⟨_, rfl, _, _, _, [], _, [], hW', trodAll_mk1 (shut_bool Try.underlying4 _), (trodAll_cons_mk (shut_int Try.underlying3 w0) (trodAll_cons_mk (shut_int Try.underlying3 w1) trodAll_mk0)), rfl, bel.frame _, fun h => by cases h⟩

set_option maxRecDepth 100000 in
theorem lifted (os : Os) (started : os.Started) (H : Type) (enc : TypeId × Value → H) :
    ReturnsInHanded {} Try.checked os 7 .any (Rows.parityPowersSpec.pre6 enc Try.prog Try.f7 Rows.parityPowersRow.domain false) (Rows.parityPowersSpec.post enc Try.prog Try.f7 false true false false) := by
  refine returnsInHanded_of_change_sized (C := Try.checked) own started (by kernel_rfl) Try.func7
    (ChangeSpec.witness6 (enc := enc) (C := Try.checked) false ⟨#[], #[.int .i64 0, .int .i64 0], []⟩ 8 (by kernel_rfl) (by kernel_rfl) (by kernel_rfl) (by kernel_rfl)) ?_
  intro W base args ds gs before hval hW _ hsz _
  exact contract H enc W base args ds gs before hval hW hsz

theorem over : Rows.parityPowersRow.holds Try.pinned (OpenSpec.ofChange Rows.parityPowersSpec) :=
  OpenClaim.holds_of_wide 7 Try.f7 rfl rfl rfl rfl rfl rfl rfl ⟨rfl, rfl, rfl, rfl, rfl⟩ rfl rfl rfl rfl rfl (by kernel_rfl) Try.func7 (by kernel_rfl)
    (of_decide_eq_true (by kernel_rfl)) (by unfold Func.isWrapper; first | (rw [if_pos (by decide +kernel)]; kernel_rfl) | (rw [if_neg (by decide +kernel)]; exact ⟨rfl, rfl⟩))
    (fun os started H enc _ => lifted os started H enc)

theorem proved : Rows.ParityPowersSaid := over
end Go.Proofs.Ytijnfjnkjojjnaa.parityPowers
