/- PackOrders: keys are ordered byte by byte, and the key behind one is the least above it: for every input the statement's function answers true. No condition. -/
import Derived.Test.YtlklcdjhlpadiaaAwake01
import Derived.Test.YtlklcdjhlpadiaaRefA
import Derived.Test.YtlklcdjhlpadiaaPackA
import Derived.Test.YtlklcdjhlpadiaaOpen
namespace Go.Proofs.Ytlklcdjhlpadiaa.packOrders
open Go.ChangeShapes Go.WideShapes Go.ChangeAt Go.RowKit Go.Deep
open Go.ChangeMaps (open_string shut_string)
set_option linter.unusedVariables false

set_option maxRecDepth 100000 in
set_option maxHeartbeats 1000000 in
theorem walk {W : World} {v0 v1 v2 : Value} {a b c : List UInt8} (ha : RdB W (fun k => k < W.heap.size) v0 a) (hb : RdB W (fun k => k < W.heap.size) v1 b) (hc : RdB W (fun k => k < W.heap.size) v2 c)
    (sa : a.length ≤ reachBytes) (sb : b.length ≤ reachBytes) (sc : c.length ≤ reachBytes) :
    Calls Try.prog 3 #[v0, v1, v2] W fun e W' => e = .returned (.bool true) ∧ Chg Non W W' := by
  have hal : a.length + 1 ≤ 140737488355328 := by unfold reachBytes at sa; omega
  go_enter Try.func3, Try.ntmps3
  go_wp2_with fail
  refine awake01.mono ?_
  rintro e w1 ⟨rfl, c1⟩
  go_wp2_with fail
  refine (packCompare (ha.c0 c1) (hb.c0 c1)).mono ?_
  rintro e w2 ⟨rfl, hq⟩
  have c2 := c1.quiet hq; clear hq c1
  go_wp2_with fail
  refine (refCmp (ha.c0 c2) (hb.c0 c2)).mono ?_
  rintro e w3 ⟨rfl, hq⟩
  have c3 := c2.quiet hq; clear hq c2
  go_wp2_with fail
  refine (packCompare (hb.c0 c3) (ha.c0 c3)).mono ?_
  rintro e w4 ⟨rfl, hq⟩
  have c4 := c3.quiet hq; clear hq c3
  rw [cmpB_neg a b]
  have hx := cmpB_range a b
  have HL := fun h => hide (cmpB_after_le a b h)
  generalize cmpB a b = x at hx HL ⊢
  have hx1 : -1 ≤ x := by omega
  have hx2 : x ≤ 1 := by omega
  clear hx
  go_wp2_with fail
  refine (packIn (ha.c0 c4) (hb.c0 c4) (hc.c0 c4)).mono ?_
  rintro e w5 ⟨rfl, hq⟩
  have c5 := c4.quiet hq; clear hq c4
  go_wp2_with fail
  refine (refIn (ha.c0 c5) (hb.c0 c5) (hc.c0 c5)).mono ?_
  rintro e w6 ⟨rfl, hq⟩
  have c6 := c5.quiet hq; clear hq c5
  go_wp2_with fail
  refine (packAfter (ha.c0 c6) hal).mono ?_
  rintro e w7 ⟨u, rfl, hu, hcg⟩
  have hu := hu.rd
  have c7 := c6.trans0 hcg; clear hcg c6
  go_wp2_with fail
  refine (packCompare (ha.c0 c7) hu).mono ?_
  rintro e w8 ⟨rfl, hq⟩
  have hu := hu.c0 ((Chg.refl Non w7).quiet hq)
  have c8 := c7.quiet hq; clear hq c7
  rw [cmpB_after]
  go_wp2_with fail
  refine (refAfter (ha.c0 c8) hal).mono ?_
  rintro e w9 ⟨t, rfl, ht, hcg⟩
  have hu := hu.c0 hcg
  have c9 := c8.trans0 hcg; clear hcg c8
  go_wp2_with fail
  refine (refEqual_true hu ht.rd).mono ?_
  rintro e w10 ⟨rfl, hq⟩
  have hu := hu.c0 ((Chg.refl Non w9).quiet hq)
  have c10 := c9.quiet hq; clear hq c9
  by_cases h : x < 0
  · have hle := (HL h).out
    clear HL
    go_wp2_with fail
    refine (packCompare hu (hb.c0 c10)).mono ?_
    rintro e w11 ⟨rfl, hq⟩
    have c11 := c10.quiet hq; clear hq c10
    go_wp2_with fail
    go_ret
    exact ⟨rfl, c11⟩
  · clear HL
    go_wp2_with fail
    go_ret
    exact ⟨rfl, c10⟩

set_option maxRecDepth 100000 in
theorem contract (H : Type) (enc : TypeId × Value → H) (W : World) (base : Nat) (args : Array Value) (ds gs : List (DataW H)) (before : List MemPlace)
    (hval : ∀ (j : Nat) t v, Try.f3.params[j]? = some t → args[j]? = some v → Value.okWide Try.prog W .any base t v)
    (hW : DataW.Whole enc Try.prog Try.f3.params.toList Rows.packOrdersSpec.vars false W args.toList ds gs before) (hsz : (DataW.weightsEach Try.prog (Try.f3.params.toList ++ Rows.packOrdersSpec.plain.varTypes Try.prog) (ds ++ gs)).all (· ≤ reachBytes) = true) :
    Calls Try.prog 3 args W fun e W' => ∃ v, e = .returned v ∧ Rows.packOrdersSpec.post enc Try.prog Try.f3 false true false false W args v W' := by
  have hW' := hW
  obtain ⟨p, q, hA0, hV, rfl, hfz, hnd⟩ := hW
  have hA : DataW.TrodAll enc Try.prog W 0 (fun _ => true) true Try.f3.params.toList args.toList ds p := hA0
  rw [Try.params3] at hA hval hsz
  obtain ⟨v0, vs0, d0, ds0, p0, q0, hargs, rfl, rfl, h0, r0⟩ := trodAll_cons hA
  obtain ⟨v1, vs1, d1, ds1, p1, q1, rfl, rfl, rfl, h1, r1⟩ := trodAll_cons r0
  obtain ⟨v2, vs2, d2, ds2, p2, q2, rfl, rfl, rfl, h2, r2⟩ := trodAll_cons r1
  obtain ⟨rfl, rfl, rfl⟩ := trodAll_nil r2
  obtain rfl : args = #[v0, v1, v2] := by cases args; simp_all
  obtain ⟨rfl, rfl⟩ := trodVars_none hV
  have k0 := h0
  have lt0 : ∀ x ∈ p0, x.block < W.heap.size := by obtain ⟨m, hm⟩ := k0; exact DataW.trod_lt m _ _ _ hm
  obtain ⟨l0, w0, z0⟩ := openB (hval 0 22 v0 rfl rfl) h0
  have s0 : l0.length ≤ reachBytes := z0.2 _ fun e s he => by
    have := sized_slice hsz (j := 0) rfl (by rw [he]; rfl) Try.underlying22
    exact Nat.le_trans (Nat.le_mul_of_pos_right _ (of_decide_eq_true (by kernel_rfl))) this
  have k1 := h1
  have lt1 : ∀ x ∈ p1, x.block < W.heap.size := by obtain ⟨m, hm⟩ := k1; exact DataW.trod_lt m _ _ _ hm
  obtain ⟨l1, w1, z1⟩ := openB (hval 1 22 v1 rfl rfl) h1
  have s1 : l1.length ≤ reachBytes := z1.2 _ fun e s he => by
    have := sized_slice hsz (j := 1) rfl (by rw [he]; rfl) Try.underlying22
    exact Nat.le_trans (Nat.le_mul_of_pos_right _ (of_decide_eq_true (by kernel_rfl))) this
  have k2 := h2
  have lt2 : ∀ x ∈ p2, x.block < W.heap.size := by obtain ⟨m, hm⟩ := k2; exact DataW.trod_lt m _ _ _ hm
  obtain ⟨l2, w2, z2⟩ := openB (hval 2 22 v2 rfl rfl) h2
  have s2 : l2.length ≤ reachBytes := z2.2 _ fun e s he => by
    have := sized_slice hsz (j := 2) rfl (by rw [he]; rfl) Try.underlying22
    exact Nat.le_trans (Nat.le_mul_of_pos_right _ (of_decide_eq_true (by kernel_rfl))) this
  refine (walk w0 w1 w2 s0 s1 s2).mono fun e W' ⟨he, bel0⟩ => ?_
  have bel := bel0.below
  subst he
  exact ⟨_, rfl, _, _, _, [], _, [], hW', trodAll_mk1 (shut_bool Try.underlying4 _), (trodAll_cons_mk (Below.trod laidOut (by kernel_rfl) (of_decide_eq_true (by kernel_rfl)) k0 bel lt0) (trodAll_cons_mk (Below.trod laidOut (by kernel_rfl) (of_decide_eq_true (by kernel_rfl)) k1 bel lt1) (trodAll_cons_mk (Below.trod laidOut (by kernel_rfl) (of_decide_eq_true (by kernel_rfl)) k2 bel lt2) trodAll_mk0))), rfl, bel.frame _, fun h => by cases h⟩

set_option maxRecDepth 100000 in
theorem lifted (os : Os) (started : os.Started) (H : Type) (enc : TypeId × Value → H) :
    ReturnsInHanded {} Try.checked os 3 .any (Rows.packOrdersSpec.pre6 enc Try.prog Try.f3 Rows.packOrdersRow.domain false) (Rows.packOrdersSpec.post enc Try.prog Try.f3 false true false false) := by
  refine returnsInHanded_of_change_sized (C := Try.checked) own started (by kernel_rfl) Try.func3
    (ChangeSpec.witness6 (enc := enc) (C := Try.checked) false ⟨#[], #[.slice none 0 0, .slice none 0 0, .slice none 0 0], []⟩ 8 (by kernel_rfl) (by kernel_rfl) (by kernel_rfl) (by kernel_rfl)) ?_
  intro W base args ds gs before hval hW _ hsz _
  exact contract H enc W base args ds gs before hval hW hsz

theorem over : Rows.packOrdersRow.holds Try.pinned (OpenSpec.ofChange Rows.packOrdersSpec) :=
  OpenClaim.holds_of_wide 3 Try.f3 rfl rfl rfl rfl rfl rfl rfl ⟨rfl, rfl, rfl, rfl, rfl⟩ rfl rfl rfl rfl rfl (by kernel_rfl) Try.func3 (by kernel_rfl)
    (of_decide_eq_true (by kernel_rfl)) (by unfold Func.isWrapper; first | (rw [if_pos (by decide +kernel)]; kernel_rfl) | (rw [if_neg (by decide +kernel)]; exact ⟨rfl, rfl⟩))
    (fun os started H enc _ => lifted os started H enc)

theorem proved : Rows.PackOrdersSaid := over
end Go.Proofs.Ytlklcdjhlpadiaa.packOrders
