/- ParityFields: bytes are multiplied by the laws of a field: for every input the statement's function answers true. No condition. -/
import Derived.Test.YtijnfjnkjojjnaaAwake03
import Derived.Test.YtijnfjnkjojjnaaOpen
namespace Go.Proofs.Ytijnfjnkjojjnaa.parityFields
open Go.ChangeShapes Go.WideShapes Go.ChangeAt Go.RowKit Go.Deep
open Go.ChangeMaps (open_string shut_string)
set_option linter.unusedVariables false

theorem xorV (a b : UInt8) : bits .xor .u8 (a.toNat : Int) (b.toNat : Int) = ((a ^^^ b).toNat : Int) := by
  rw [u8_xor_nat _ _ a.toNat_lt b.toNat_lt, UInt8.toNat_xor]

set_option maxRecDepth 100000 in
set_option maxHeartbeats 1000000 in
theorem walkB (a b c : UInt8) {W : World} :
    Calls Try.prog 3 #[.int .u8 (a.toNat : Int), .int .u8 (b.toNat : Int), .int .u8 (c.toNat : Int)] W fun e W' => e = .returned (.bool true) ∧ Chg Non W W' := by
  have x1 := xorV b c
  have x2 := xorV (mulB a b) (mulB a c)
  have m1 := (mulB_xor a b c).symm
  have m2 := mulB_assoc a b c
  have m3 := mulB_one a
  have m4 := mulB_comm b a
  have M1 := hide m1
  have M2 := hide m2
  have M3 := hide m3
  have M4 := hide m4
  clear m1 m2 m3 m4
  go_enter Try.func3, Try.ntmps3
  go_wp2_with fail
  refine awake03.mono ?_
  rintro e w1 ⟨rfl, g1⟩
  go_wp2_with fail
  refine (parityMul (a := a) (b := b)).mono ?_
  rintro e w' ⟨rfl, rfl⟩
  go_wp2_with fail
  refine (refMul (a := a) (b := b)).mono ?_
  rintro e w' ⟨rfl, rfl⟩
  go_wp2_with fail
  refine (parityMul (a := b) (b := a)).mono ?_
  rintro e w' ⟨rfl, rfl⟩
  rw [M4.out]
  go_wp2_with fail
  refine (parityMul (a := mulB a b) (b := c)).mono ?_
  rintro e w' ⟨rfl, rfl⟩
  go_wp2_with fail
  refine (parityMul (a := b) (b := c)).mono ?_
  rintro e w' ⟨rfl, rfl⟩
  go_wp2_with fail
  refine (parityMul (a := a) (b := mulB b c)).mono ?_
  rintro e w' ⟨rfl, rfl⟩
  rw [← M2.out]
  go_wp2_with fail
  refine (parityMul (a := a) (b := b ^^^ c)).mono ?_
  rintro e w' ⟨rfl, rfl⟩
  go_wp2_with fail
  refine (parityMul (a := a) (b := c)).mono ?_
  rintro e w' ⟨rfl, rfl⟩
  rw [← M1.out]
  go_wp2_with fail
  refine (parityMul (a := a) (b := 1)).mono ?_
  rintro e w' ⟨rfl, rfl⟩
  rw [M3.out]
  have hz : ∀ x : UInt8, x = 0 → ((x.toNat : Int) == 0) = true := fun x h => by rw [h]; rfl
  have hn : ∀ x : UInt8, x ≠ 0 → ((x.toNat : Int) == 0) = false := fun x h => beq_eq_false_iff_ne.2 fun e => h (UInt8.toNat_inj.1 (show x.toNat = 0 by omega))
  by_cases ha : a = 0
  · have e1 := hz _ ha
    have e2 := hz _ (mulB_eq_zero.2 (.inl ha) : mulB a b = 0)
    clear hz hn ha
    go_wp2_with fail
    go_ret
    exact ⟨rfl, g1⟩
  · have e1 := hn _ ha
    by_cases hb : b = 0
    · have e2 := hz _ (mulB_eq_zero.2 (.inr hb) : mulB a b = 0)
      have e3 := hz _ hb
      clear hz hn ha hb
      go_wp2_with fail
      go_ret
      exact ⟨rfl, g1⟩
    · have e2 := hn (mulB a b) (fun h => (mulB_eq_zero.1 h).elim ha hb)
      have e3 := hn _ hb
      clear hz hn ha hb
      go_wp2_with fail
      go_ret
      exact ⟨rfl, g1⟩

theorem walk {W : World} {a b c : Int} (ha : (Lit.int .u8 a).wf = true) (hb : (Lit.int .u8 b).wf = true) (hc : (Lit.int .u8 c).wf = true) :
    Calls Try.prog 3 #[.int .u8 a, .int .u8 b, .int .u8 c] W fun e W' => e = .returned (.bool true) ∧ Chg Non W W' := by
  rw [toB_int ha, toB_int hb, toB_int hc]
  exact walkB _ _ _

set_option maxRecDepth 100000 in
theorem contract (H : Type) (enc : TypeId × Value → H) (W : World) (base : Nat) (args : Array Value) (ds gs : List (DataW H)) (before : List MemPlace)
    (hval : ∀ (j : Nat) t v, Try.f3.params[j]? = some t → args[j]? = some v → Value.okWide Try.prog W .any base t v)
    (hW : DataW.Whole enc Try.prog Try.f3.params.toList Rows.parityFieldsSpec.vars false W args.toList ds gs before) (hsz : (DataW.weightsEach Try.prog (Try.f3.params.toList ++ Rows.parityFieldsSpec.plain.varTypes Try.prog) (ds ++ gs)).all (· ≤ reachBytes) = true) :
    Calls Try.prog 3 args W fun e W' => ∃ v, e = .returned v ∧ Rows.parityFieldsSpec.post enc Try.prog Try.f3 false true false false W args v W' := by
  have hW' := hW
  obtain ⟨p, q, hA0, hV, rfl, hfz, hnd⟩ := hW
  have hA : DataW.TrodAll enc Try.prog W 0 (fun _ => true) true Try.f3.params.toList args.toList ds p := hA0
  rw [Try.params3] at hA hval hsz
  obtain ⟨v0, vs0, d0, ds0, p0, q0, hargs, rfl, rfl, h0, r0⟩ := trodAll_cons hA
  obtain ⟨v1, vs1, d1, ds1, p1, q1, rfl, rfl, rfl, h1, r1⟩ := trodAll_cons r0
  obtain ⟨v2, vs2, d2, ds2, p2, q2, rfl, rfl, rfl, h2, r2⟩ := trodAll_cons r1
  obtain ⟨rfl, rfl, rfl⟩ := trodAll_nil r2
  obtain rfl : args = #[v0, v1, v2] := by cases args; simp_all
  obtain ⟨rfl, rfl⟩ := trodVars_none hV
  obtain ⟨a0, rfl, rfl, rfl, w0⟩ := open_int Try.underlying5 (hval 0 5 v0 rfl rfl) h0
  obtain ⟨a1, rfl, rfl, rfl, w1⟩ := open_int Try.underlying5 (hval 1 5 v1 rfl rfl) h1
  obtain ⟨a2, rfl, rfl, rfl, w2⟩ := open_int Try.underlying5 (hval 2 5 v2 rfl rfl) h2
  refine (walk w0 w1 w2 ).mono fun e W' ⟨he, bel0⟩ => ?_
  have bel := bel0.below
  subst he
  exact ⟨_, rfl, _, _, _, [], _, [], hW', trodAll_mk1 (shut_bool Try.underlying4 _), (trodAll_cons_mk (shut_int Try.underlying5 w0) (trodAll_cons_mk (shut_int Try.underlying5 w1) (trodAll_cons_mk (shut_int Try.underlying5 w2) trodAll_mk0))), rfl, bel.frame _, fun h => by cases h⟩

set_option maxRecDepth 100000 in
theorem lifted (os : Os) (started : os.Started) (H : Type) (enc : TypeId × Value → H) :
    ReturnsInHanded {} Try.checked os 3 .any (Rows.parityFieldsSpec.pre6 enc Try.prog Try.f3 Rows.parityFieldsRow.domain false) (Rows.parityFieldsSpec.post enc Try.prog Try.f3 false true false false) := by
  refine returnsInHanded_of_change_sized (C := Try.checked) own started (by kernel_rfl) Try.func3
    (ChangeSpec.witness6 (enc := enc) (C := Try.checked) false ⟨#[], #[.int .u8 0, .int .u8 0, .int .u8 0], []⟩ 8 (by kernel_rfl) (by kernel_rfl) (by kernel_rfl) (by kernel_rfl)) ?_
  intro W base args ds gs before hval hW _ hsz _
  exact contract H enc W base args ds gs before hval hW hsz

theorem over : Rows.parityFieldsRow.holds Try.pinned (OpenSpec.ofChange Rows.parityFieldsSpec) :=
  OpenClaim.holds_of_wide 3 Try.f3 rfl rfl rfl rfl rfl rfl rfl ⟨rfl, rfl, rfl, rfl, rfl⟩ rfl rfl rfl rfl rfl (by kernel_rfl) Try.func3 (by kernel_rfl)
    (of_decide_eq_true (by kernel_rfl)) (by unfold Func.isWrapper; first | (rw [if_pos (by decide +kernel)]; kernel_rfl) | (rw [if_neg (by decide +kernel)]; exact ⟨rfl, rfl⟩))
    (fun os started H enc _ => lifted os started H enc)

theorem proved : Rows.ParityFieldsSaid := over
end Go.Proofs.Ytijnfjnkjojjnaa.parityFields
