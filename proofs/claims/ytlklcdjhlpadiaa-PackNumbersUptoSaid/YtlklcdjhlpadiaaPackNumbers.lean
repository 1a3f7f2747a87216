/- PackNumbers, where what it reads is of bulk at most 1048576: numbers are written as short as can be, and taken back; any other form is refused with the right error. -/
import Derived.Test.YtlklcdjhlpadiaaAwake01
import Derived.Test.YtlklcdjhlpadiaaRefC
import Derived.Test.YtlklcdjhlpadiaaOpen
namespace Go.Proofs.Ytlklcdjhlpadiaa.packNumbers
open Go.ChangeShapes Go.WideShapes Go.ChangeAt Go.RowKit Go.Deep
open Go.ChangeMaps (open_string shut_string)
set_option linter.unusedVariables false

set_option maxRecDepth 100000 in
set_option maxHeartbeats 1000000 in
theorem walk {W : World} {v0 v1 : Value} {l : List Nat} {b : List UInt8} {at_ : Int} (hl : RdU W (fun k => k < W.heap.size) v0 l) (hb : RdB W (fun k => k < W.heap.size) v1 b)
    (hat : (Lit.int .i64 at_).wf = true) (hz : l.length + b.length ≤ 1048576) :
    Calls Try.prog 4 #[v0, v1, .int .i64 at_] W fun e W' => e = .returned (.bool true) ∧ Chg Non W W' := by
  have HW := hide hat
  clear hat
  obtain ⟨A0, c0, rfl, hc0, hm0⟩ := hl.shape
  obtain ⟨A1, c1, rfl, hc1, hm1⟩ := hb.shape
  unfold maxLen at hm0 hm1
  go_enter Try.func4, Try.ntmps4
  go_wp2_with fail
  refine awake01.mono ?_
  rintro e w1 ⟨rfl, g1⟩
  go_wp2_with fail
  go_loopw [7, 27] (fun want i wr => ∃ k : Nat, k ≤ l.length ∧ i = .int .i64 k ∧ OwnB wr W.heap.size want (numsB (l.take k)) ∧ Chg Non W wr) (fun _ i _ => l.length - (intOf i).toNat)
  case atStart => exact ⟨0, Nat.zero_le _, rfl, OwnB.nil_ _ _, g1⟩
  case round =>
    obtain ⟨k, hk, rfl, hown, hchg⟩ := hrel
    clear g1
    by_cases h1 : k < l.length
    · obtain ⟨ad, rfl, _, hu, hca⟩ := (hl.c0 hchg).at_ h1
      have HU := hide hu
      clear hu
      have HT := hide (numsB_take l k h1)
      have hnn := numsB_length (l.take k)
      rw [List.length_take, Nat.min_eq_left hk] at hnn
      obtain ⟨n, hn⟩ : ∃ n, n = l[k] := ⟨_, rfl⟩
      rw [← hn] at HT HU hca
      clear hn
      have hn9 := numB_length n
      go_wp2_with fail
      refine (refNumber HU.out).mono ?_
      rintro e w2 ⟨u, rfl, hu, hcg⟩
      have hown2 := hown.chg hcg (fun _ _ h => h)
      have hsz := (hchg.trans0 hcg).size
      go_wp2_with (at_builtin; refine append_B rfl _ _ rfl hown2 rfl hu.rd rfl (by omega) (by omega) ?_; intro v1 w3 hown3 hg3 hat3)
      go_roundw
      case rel =>
        refine ⟨k + 1, by omega, by go_num, ?_, (hchg.trans0 hcg).own hg3 fun q hq => (hown2.lt q hq).1⟩
        rw [HT.out]; exact hown3
      case measure => simp [intOf]; omega
    · have hk2 : k = l.length := by omega
      have hown : OwnB wr W.heap.size u7 (numsB l) := by rw [hk2, List.take_length] at hown; exact hown
      clear hk2
      go_wp2_with fail
      refine (packNumber (hl.c0 hchg) (by omega)).mono ?_
      rintro e w2 ⟨got, rfl, hgot, hcg⟩
      have g2 := hchg.trans0 hcg
      have hown2 := hown.chg hcg (fun _ _ h => h)
      go_wp2_with fail
      refine (refEqual_true hgot.rd hown2.rd).mono ?_
      rintro e w3 ⟨rfl, hq⟩
      have g3 := g2.quiet hq
      have hgot3 := hgot.rd.c0 ((Chg.refl Non w2).quiet hq)
      clear hq
      go_wp2_with fail
      obtain ⟨A2, c2, rfl, hc2, hm2⟩ := hgot3.shape
      have hnl := numsB_length l
      clear hown hown2 hgot hcg g2 hchg
      go_loopw [11, 44] (fun place i wr => ∃ j : Nat, j ≤ l.length ∧ place = .int .i64 ((numsB (l.take j)).length : Int) ∧ i = .int .i64 j ∧ wr = w3) (fun _ i _ => l.length - (intOf i).toNat)
      case atStart => exact ⟨0, Nat.zero_le _, rfl, rfl, rfl⟩
      case round =>
        obtain ⟨j, hj, rfl, rfl, rfl⟩ := hrel
        by_cases h2 : j < l.length
        · obtain ⟨ad, rfl, _, hu, hca⟩ := (hl.c0 g3).at_ h2
          have HT := hide (takeB_numsB hl.1 j h2)
          obtain ⟨n, hn⟩ : ∃ n, n = l[j] := ⟨_, rfl⟩
          rw [← hn] at HT hca hu
          clear hn
          have HU := hide hu
          clear hu
          go_wp2_with fail
          refine (packTake hgot3).mono ?_
          rintro e w' ⟨rfl, rfl⟩
          rw [HT.out]
          simp only [tk]
          go_wp2_with fail
          go_roundw
          case rel => exact ⟨j + 1, by omega, rfl, by go_num, trivial⟩
          case measure => simp [intOf]; omega
        · have hj2 : j = l.length := by omega
          have hjl : l.take j = l := List.take_of_length_le (by omega)
          rw [hjl]
          clear hjl hj2
          go_wp2_with fail
          refine (refCopy (hb.c0 g3) (by omega)).mono ?_
          rintro e w4 ⟨bc, rfl, hbc, hcg⟩
          have g4 := g3.trans0 hcg
          go_wp2_with fail
          refine (packTake hbc.rd).mono ?_
          rintro e w' ⟨rfl, rfl⟩
          obtain ⟨x, hx⟩ : ∃ x, x = takeB b at_ := ⟨_, rfl⟩
          have HX := hide hx
          rw [← hx]
          clear hx
          obtain ⟨x1, x2, x3⟩ := x
          simp only [tk]
          go_wp2_with fail
          refine (refTake (hb.c0 g4) (by omega)).mono ?_
          rintro e w5 ⟨rfl, hcg⟩
          rw [← HX.out]
          simp only [tk]
          go_wp2_with fail
          go_ret
          exact ⟨rfl, g4.trans0 hcg⟩

set_option maxRecDepth 100000 in
theorem contract (H : Type) (enc : TypeId × Value → H) (W : World) (base : Nat) (args : Array Value) (ds gs : List (DataW H)) (before : List MemPlace)
    (hval : ∀ (j : Nat) t v, Try.f4.params[j]? = some t → args[j]? = some v → Value.okWide Try.prog W .any base t v)
    (hW : DataW.Whole enc Try.prog Try.f4.params.toList Rows.packNumbersSpec.vars false W args.toList ds gs before) (hk : Rows.uptoSmall H (ds ++ gs) = true) :
    Calls Try.prog 4 args W fun e W' => ∃ v, e = .returned v ∧ Rows.packNumbersSpec.post enc Try.prog Try.f4 false true false false W args v W' := by
  have hW' := hW
  obtain ⟨p, q, hA0, hV, rfl, hfz, hnd⟩ := hW
  have hA : DataW.TrodAll enc Try.prog W 0 (fun _ => true) true Try.f4.params.toList args.toList ds p := hA0
  rw [Try.params4] at hA hval
  obtain ⟨v0, vs0, d0, ds0, p0, q0, hargs, rfl, rfl, h0, r0⟩ := trodAll_cons hA
  obtain ⟨v1, vs1, d1, ds1, p1, q1, rfl, rfl, rfl, h1, r1⟩ := trodAll_cons r0
  obtain ⟨v2, vs2, d2, ds2, p2, q2, rfl, rfl, rfl, h2, r2⟩ := trodAll_cons r1
  obtain ⟨rfl, rfl, rfl⟩ := trodAll_nil r2
  obtain rfl : args = #[v0, v1, v2] := by cases args; simp_all
  obtain ⟨rfl, rfl⟩ := trodVars_none hV
  have k0 := h0
  have lt0 : ∀ x ∈ p0, x.block < W.heap.size := by obtain ⟨m, hm⟩ := k0; exact DataW.trod_lt m _ _ _ hm
  obtain ⟨l0, w0, z0⟩ := openU (hval 0 28 v0 rfl rfl) h0
  have k1 := h1
  have lt1 : ∀ x ∈ p1, x.block < W.heap.size := by obtain ⟨m, hm⟩ := k1; exact DataW.trod_lt m _ _ _ hm
  obtain ⟨l1, w1, z1⟩ := openB (hval 1 22 v1 rfl rfl) h1
  obtain ⟨a2, rfl, rfl, rfl, w2⟩ := open_int Try.underlying3 (hval 2 3 v2 rfl rfl) h2
  have hb := of_decide_eq_true hk
  simp only [List.append_nil, Rows.uptoBulkAll] at hb
  have z01 := z0.1
  have z11 := z1.1
  refine (walk w0 w1 w2 (by omega)).mono fun e W' ⟨he, bel0⟩ => ?_
  have bel := bel0.below
  subst he
  exact ⟨_, rfl, _, _, _, [], _, [], hW', trodAll_mk1 (shut_bool Try.underlying4 _), (trodAll_cons_mk (Below.trod laidOut (by kernel_rfl) (of_decide_eq_true (by kernel_rfl)) k0 bel lt0) (trodAll_cons_mk (Below.trod laidOut (by kernel_rfl) (of_decide_eq_true (by kernel_rfl)) k1 bel lt1) (trodAll_cons_mk (shut_int Try.underlying3 w2) trodAll_mk0))), rfl, bel.frame _, fun h => by cases h⟩

set_option maxRecDepth 100000 in
theorem lifted (os : Os) (started : os.Started) (H : Type) (enc : TypeId × Value → H) (F : Stop.Interp) :
    ReturnsInHanded {} Try.checked os 4 .any ((Rows.OpenSpec.upto Rows.packNumbersSpec).pre6 enc Try.prog Try.f4 Rows.packNumbersUptoRow.domain false) (((Rows.OpenSpec.upto Rows.packNumbersSpec).at F).post enc Try.prog Try.f4 false true false false) := by
  refine returnsInHanded_of_cond (C := Try.checked) (s := Rows.OpenSpec.upto Rows.packNumbersSpec) (k := Rows.uptoSmall) rfl own started (by kernel_rfl) Try.func4
    (OpenSpec.witness (enc := enc) (C := Try.checked) (s := Rows.OpenSpec.upto Rows.packNumbersSpec) (k := Rows.uptoSmall) rfl false ⟨#[], #[.slice none 0 0, .slice none 0 0, .int .i64 0], []⟩ 8 (by kernel_rfl) (by kernel_rfl) (by kernel_rfl)
      (x := ([.nil, .nil, .lit (.int .i64 0)], [], [])) (by kernel_rfl) rfl (by kernel_rfl)) ?_
  intro W base args ds gs before hval hW _ hk _
  exact contract H enc W base args ds gs before hval hW hk

theorem over : Rows.packNumbersUptoRow.holds Try.pinned (Rows.OpenSpec.upto Rows.packNumbersSpec) :=
  OpenClaim.holds_of_cond 4 Try.f4 rfl rfl rfl rfl rfl rfl rfl ⟨rfl, rfl, rfl, rfl, rfl⟩ rfl rfl rfl rfl rfl (by kernel_rfl) Try.func4 (by kernel_rfl)
    (of_decide_eq_true (by kernel_rfl)) (by unfold Func.isWrapper; first | (rw [if_pos (by decide +kernel)]; kernel_rfl) | (rw [if_neg (by decide +kernel)]; exact ⟨rfl, rfl⟩))
    (fun os started H enc _ F => lifted os started H enc F)

theorem proved : Rows.PackNumbersUptoSaid := over
end Go.Proofs.Ytlklcdjhlpadiaa.packNumbers
