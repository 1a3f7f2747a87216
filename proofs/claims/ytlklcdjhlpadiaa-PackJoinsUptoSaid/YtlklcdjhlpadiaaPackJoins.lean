/- PackJoins, where what it reads is of bulk at most 1048576: any list of parts is joined and split again, and other bytes are refused with the right error. -/
import Derived.Test.YtlklcdjhlpadiaaAwake01
import Derived.Test.YtlklcdjhlpadiaaWtr
import Derived.Test.YtlklcdjhlpadiaaPkSplit
import Derived.Test.YtlklcdjhlpadiaaRefJ
import Derived.Test.YtlklcdjhlpadiaaOpenBB
namespace Go.Proofs.Ytlklcdjhlpadiaa.packJoins
open Go.ChangeShapes Go.WideShapes Go.ChangeAt Go.RowKit Go.Deep
open Go.ChangeMaps (open_string shut_string)
set_option linter.unusedVariables false

theorem len_le_sum : ∀ (ll : List (List UInt8)), ∀ l ∈ ll, l.length + 1 ≤ (ll.map fun l => l.length + 1).sum
  | a :: ll, l, h => by
    simp only [List.map_cons, List.sum_cons]
    rcases List.mem_cons.1 h with rfl | h
    · omega
    · have := len_le_sum ll l h; omega
theorem count_le_sum : ∀ (ll : List (List UInt8)), ll.length ≤ (ll.map fun l => l.length + 1).sum
  | [] => by simp
  | a :: ll => by
    have := count_le_sum ll
    simp only [List.map_cons, List.sum_cons, List.length_cons]; omega
theorem joinB_le (ll : List (List UInt8)) : (joinB ll).length ≤ 9 + 9 * (ll.map fun l => l.length + 1).sum := by
  have h1 := numB_length ll.length
  have h2 := flatB_length ll
  simp only [joinB, List.length_append]; omega

set_option maxRecDepth 100000 in
set_option maxHeartbeats 1000000 in
theorem walk {W : World} {v0 v1 : Value} {ll : List (List UInt8)} {b : List UInt8} (hl : RdBB W (fun k => k < W.heap.size) v0 ll) (hb : RdB W (fun k => k < W.heap.size) v1 b)
    (hz : (ll.map fun l => l.length + 1).sum + b.length ≤ 1048576) :
    Calls Try.prog 6 #[v0, v1] W fun e W' => e = .returned (.bool true) ∧ Chg Non W W' := by
  have hfit : Fits ll := ⟨by have := count_le_sum ll; omega, fun l h => by have := len_le_sum ll l h; omega⟩
  have hjl := joinB_le ll
  have hsj := splitB_join ll hfit
  have hcnt := count_le_sum ll
  have hmem : ∀ l ∈ ll, l.length ≤ 140737488355328 := fun l h => by have := len_le_sum ll l h; omega
  obtain ⟨sm, hsm⟩ : ∃ sm, sm = (ll.map fun l => l.length + 1).sum := ⟨_, rfl⟩
  rw [← hsm] at hz hjl hcnt
  clear hsm hfit
  go_enter Try.func6, Try.ntmps6
  go_wp2_with fail
  refine awake01.mono ?_
  rintro e w1 ⟨rfl, g1⟩
  go_wp2_with fail
  refine (refCopies (hl.c0 g1) hmem (by omega)).mono ?_
  rintro e w2 ⟨u, rfl, hu, c2⟩
  have g2 := g1.trans0 c2
  go_wp2_with fail
  refine (packJoin hu.rd (by omega)).mono ?_
  rintro e w3 ⟨j, rfl, hj, c3⟩
  have g3 := g2.trans0 c3
  have hsplit := packSplit hj.rd (by omega)
  rw [hsj] at hsplit
  simp only at hsplit
  clear hsj hu g1 g2 c2 c3
  go_wp2_with fail
  refine hsplit.mono ?_
  rintro e w4 ⟨back, rfl, hback, c4⟩
  have g4 := g3.trans0 c4
  have hj4 := hj.rd.c0 c4
  clear hsplit hj g3 c4
  go_wp2_with fail
  refine (refJoin (hl.c0 g4) (by omega)).mono ?_
  rintro e w5 ⟨rj, rfl, hrj, c5⟩
  have g5 := g4.trans0 c5
  go_wp2_with fail
  refine (refEqual_true (hj4.c0 c5) hrj.rd).mono ?_
  rintro e w6 ⟨rfl, hq6⟩
  have c6 := (Chg.refl Non w5).quiet hq6
  have hb6 := (hback.c0 c5).c0 c6
  have g6 := g5.trans0 c6
  clear hback g4 g5 c5 hj4 hrj c6 hq6
  go_wp2_with fail
  refine (refEquals hb6.rd (hl.c0 g6)).mono ?_
  rintro e w7 ⟨rfl, hq7⟩
  rw [decide_eq_true rfl]
  have g7 := g6.quiet hq7
  clear hb6 g6 hq7
  go_wp2_with fail
  refine (refCopy (hb.c0 g7) (by omega)).mono ?_
  rintro e w8 ⟨bc, rfl, hbc, c8⟩
  have g8 := g7.trans0 c8
  obtain ⟨out, er, hsp⟩ : ∃ out er, splitB b = (out, er) := ⟨_, _, rfl⟩
  have hps := packSplit hbc.rd (by omega)
  rw [hsp] at hps
  clear g7 c8 hbc
  go_wp2_with fail
  refine hps.mono ?_
  rintro e w9 ⟨x, rfl, hx, c9⟩
  have g9 := g8.trans0 c9
  have hrs := refSplit (hb.c0 g9) (by omega)
  rw [hsp] at hrs
  simp only at hrs hx
  clear g8 c9 hps
  go_wp2_with fail
  refine hrs.mono ?_
  rintro e w10 ⟨y, rfl, hy, c10⟩
  have g10 := g9.trans0 c10
  have hx10 := hx.c0 c10
  clear hx g9 c10 hrs
  go_wp2_with fail
  refine (refEquals hx10.rd hy.rd).mono ?_
  rintro e w11 ⟨rfl, hq11⟩
  rw [decide_eq_true rfl]
  have g11 := g10.quiet hq11
  have hx11 := hx10.c0 ((Chg.refl Non w10).quiet hq11)
  clear hx10 hy g10 hq11
  by_cases he : er = 0
  · subst he
    have hjo := splitB_inv b out hsp
    have hpj := packJoin hx11.rd (by rw [hjo]; omega)
    rw [hjo] at hpj
    clear hjo hsp
    go_wp2_with fail
    refine hpj.mono ?_
    rintro e w12 ⟨z, rfl, hz2, c12⟩
    have g12 := g11.trans0 c12
    go_wp2_with fail
    refine (refEqual_true hz2.rd (hb.c0 g12)).mono ?_
    rintro e w13 ⟨rfl, hq13⟩
    go_wp2_with fail
    go_ret
    exact ⟨rfl, g12.quiet hq13⟩
  · have hne : (er != 0) = true := by simp [he]
    clear he
    go_wp2_with fail
    go_ret
    exact ⟨rfl, g11⟩

set_option maxRecDepth 100000 in
theorem contract (H : Type) (enc : TypeId × Value → H) (W : World) (base : Nat) (args : Array Value) (ds gs : List (DataW H)) (before : List MemPlace)
    (hval : ∀ (j : Nat) t v, Try.f6.params[j]? = some t → args[j]? = some v → Value.okWide Try.prog W .any base t v)
    (hW : DataW.Whole enc Try.prog Try.f6.params.toList Rows.packJoinsSpec.vars false W args.toList ds gs before) (hk : Rows.uptoSmall H (ds ++ gs) = true) :
    Calls Try.prog 6 args W fun e W' => ∃ v, e = .returned v ∧ Rows.packJoinsSpec.post enc Try.prog Try.f6 false true false false W args v W' := by
  have hW' := hW
  obtain ⟨p, q, hA0, hV, rfl, hfz, hnd⟩ := hW
  have hA : DataW.TrodAll enc Try.prog W 0 (fun _ => true) true Try.f6.params.toList args.toList ds p := hA0
  rw [Try.params6] at hA hval
  obtain ⟨v0, vs0, d0, ds0, p0, q0, hargs, rfl, rfl, h0, r0⟩ := trodAll_cons hA
  obtain ⟨v1, vs1, d1, ds1, p1, q1, rfl, rfl, rfl, h1, r1⟩ := trodAll_cons r0
  obtain ⟨rfl, rfl, rfl⟩ := trodAll_nil r1
  obtain rfl : args = #[v0, v1] := by cases args; simp_all
  obtain ⟨rfl, rfl⟩ := trodVars_none hV
  have k0 := h0
  have lt0 : ∀ x ∈ p0, x.block < W.heap.size := by obtain ⟨m, hm⟩ := k0; exact DataW.trod_lt m _ _ _ hm
  obtain ⟨l0, w0, z0⟩ := openBB (hval 0 48 v0 rfl rfl) h0
  have k1 := h1
  have lt1 : ∀ x ∈ p1, x.block < W.heap.size := by obtain ⟨m, hm⟩ := k1; exact DataW.trod_lt m _ _ _ hm
  obtain ⟨l1, w1, z1⟩ := openB (hval 1 22 v1 rfl rfl) h1
  have hb := of_decide_eq_true hk
  simp only [List.append_nil, Rows.uptoBulkAll] at hb
  have z01 := z0.1
  have z11 := z1.1
  refine (walk w0 w1 (by omega)).mono fun e W' ⟨he, bel0⟩ => ?_
  have bel := bel0.below
  subst he
  exact ⟨_, rfl, _, _, _, [], _, [], hW', trodAll_mk1 (shut_bool Try.underlying4 _), (trodAll_cons_mk (Below.trod laidOut (by kernel_rfl) (of_decide_eq_true (by kernel_rfl)) k0 bel lt0) (trodAll_cons_mk (Below.trod laidOut (by kernel_rfl) (of_decide_eq_true (by kernel_rfl)) k1 bel lt1) trodAll_mk0)), rfl, bel.frame _, fun h => by cases h⟩

set_option maxRecDepth 100000 in
theorem lifted (os : Os) (started : os.Started) (H : Type) (enc : TypeId × Value → H) (F : Stop.Interp) :
    ReturnsInHanded {} Try.checked os 6 .any ((Rows.OpenSpec.upto Rows.packJoinsSpec).pre6 enc Try.prog Try.f6 Rows.packJoinsUptoRow.domain false) (((Rows.OpenSpec.upto Rows.packJoinsSpec).at F).post enc Try.prog Try.f6 false true false false) := by
  refine returnsInHanded_of_cond (C := Try.checked) (s := Rows.OpenSpec.upto Rows.packJoinsSpec) (k := Rows.uptoSmall) rfl own started (by kernel_rfl) Try.func6
    (OpenSpec.witness (enc := enc) (C := Try.checked) (s := Rows.OpenSpec.upto Rows.packJoinsSpec) (k := Rows.uptoSmall) rfl false ⟨#[], #[.slice none 0 0, .slice none 0 0], []⟩ 8 (by kernel_rfl) (by kernel_rfl) (by kernel_rfl)
      (x := ([.nil, .nil], [], [])) (by kernel_rfl) rfl (by kernel_rfl)) ?_
  intro W base args ds gs before hval hW _ hk _
  exact contract H enc W base args ds gs before hval hW hk

theorem over : Rows.packJoinsUptoRow.holds Try.pinned (Rows.OpenSpec.upto Rows.packJoinsSpec) :=
  OpenClaim.holds_of_cond 6 Try.f6 rfl rfl rfl rfl rfl rfl rfl ⟨rfl, rfl, rfl, rfl, rfl⟩ rfl rfl rfl rfl rfl (by kernel_rfl) Try.func6 (by kernel_rfl)
    (of_decide_eq_true (by kernel_rfl)) (by unfold Func.isWrapper; first | (rw [if_pos (by decide +kernel)]; kernel_rfl) | (rw [if_neg (by decide +kernel)]; exact ⟨rfl, rfl⟩))
    (fun os started H enc _ F => lifted os started H enc F)

theorem proved : Rows.PackJoinsUptoSaid := over
end Go.Proofs.Ytlklcdjhlpadiaa.packJoins
