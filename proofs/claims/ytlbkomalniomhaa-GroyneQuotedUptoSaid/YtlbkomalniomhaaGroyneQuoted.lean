/- GroyneQuoted, where what it reads is of bulk at most 1048576: keys keep their order through bytes, and texts through quotes. -/
import Derived.Test.YtlbkomalniomhaaOpenBB
import Derived.Test.YtlbkomalniomhaaBB
import Derived.Test.YtlbkomalniomhaaPackA
import Derived.Test.YtlbkomalniomhaaUnqB
import Derived.Test.YtlbkomalniomhaaQuoR
import Derived.Deep.Cut
namespace Go.Proofs.Ytlbkomalniomhaa.groyneQuoted
open Go.ChangeShapes Go.WideShapes Go.ChangeAt Go.RowKit Go.Deep
open Go.ChangeMaps (open_string shut_string)
set_option linter.unusedVariables false

theorem cmpB_nil_le : ∀ t : List UInt8, cmpB [] t ≤ 0
  | [] => by decide
  | _ :: _ => by show (-1 : Int) ≤ 0; decide
theorem after_iff : ∀ s t : List UInt8, cmpB (s ++ [0]) t ≤ 0 ↔ cmpB s t < 0
  | [], [] => by decide
  | [], b :: t => by
    rw [List.nil_append, cmpB_cons]
    have h1 : cmpB [] (b :: t) = -1 := rfl
    rw [h1]
    have h2 := cmpB_nil_le t
    split
    · decide
    · split
      · rename_i h3; exact absurd h3 (by simp)
      · exact ⟨fun _ => by decide, fun _ => h2⟩
  | a :: s, [] => by
    have h1 : cmpB (a :: s ++ [0]) [] = 1 := rfl
    have h2 : cmpB (a :: s) [] = 1 := rfl
    rw [h1, h2]; decide
  | a :: s, b :: t => by
    rw [List.cons_append, cmpB_cons, cmpB_cons]
    split
    · decide
    · split
      · decide
      · exact after_iff s t
theorem in_after (k o : List UInt8) : inB o (k ++ [0]) [] = decide (cmpB k o < 0) := by
  rw [inB]
  simp only [List.isEmpty_nil, Bool.true_or, Bool.and_true]
  exact decide_eq_decide.2 (after_iff k o)
theorem eq_cmp (k o : List UInt8) : decide (k = o) = (cmpB k o == 0) := by
  rw [Bool.eq_iff_iff]
  simp [cmpB_eq_zero]
theorem mem_sum : ∀ (ll : List (List UInt8)) (l : List UInt8), l ∈ ll → l.length + 1 ≤ (ll.map fun l => l.length + 1).sum
  | a :: ll, l, h => by
    simp only [List.map_cons, List.sum_cons]
    rcases List.mem_cons.1 h with rfl | h
    · omega
    · have := mem_sum ll l h; omega

set_option maxRecDepth 100000 in
set_option maxHeartbeats 4000000 in
theorem walk {W : World} {v0 v1 v2 : Value} {ll : List (List UInt8)} {f t : List UInt8} (h0 : RdBB W (fun k => k < W.heap.size) v0 ll) (hf : RdB W (fun k => k < W.heap.size) v1 f) (ht : RdB W (fun k => k < W.heap.size) v2 t)
    (hz : (ll.map fun l => l.length + 1).sum + f.length + t.length ≤ 1048576) :
    Calls Try.prog 3 #[v0, v1, v2] W fun e W' => e = .returned (.bool true) ∧ Chg Non W W' := by
  obtain ⟨A1, c1, rfl, hc1, hm1⟩ := h0.shape
  unfold maxLen at hm1
  have hlm : ∀ l ∈ ll, l.length ≤ 1048576 := fun l hl => by have := mem_sum ll l hl; omega
  clear hz
  go_enter Try.func3, Try.ntmps3
  go_upto_if 17 with fail
  go_cut [0] from 15 (fun v wx => wx = W ∧ ∃ (m : List (List UInt8)) (A2 : Option Addr) (c2 : Nat), v = .slice A2 m.length c2 ∧ m.length ≤ 30 ∧ (∀ l ∈ m, l.length ≤ 1048576) ∧ RdBB W (fun k => k < W.heap.size) (.slice A2 m.length c2) m)
  case first =>
    by_cases h4 : 30 < ll.length
    · have hdec : decide ((30 : Int) < (ll.length : Int)) = true := decide_eq_true (by omega)
      have hfr := RdBB.front (j := 30) h0 (by omega)
      have HF6 := hide (show (ll.take 30).length = 30 by rw [List.length_take]; omega)
      go_wp2_with fail
      go_meet
      case rel => exact ⟨rfl, ll.take 30, A1, c1, by rw [HF6.out], by rw [HF6.out]; omega, fun l hl => hlm l (List.mem_of_mem_take hl), by rw [HF6.out]; exact hfr⟩
    · have hdec : decide ((30 : Int) < (ll.length : Int)) = false := decide_eq_false (by omega)
      go_wp2_with fail
      go_meet
      case rel => exact ⟨rfl, ll, A1, c1, rfl, by omega, hlm, h0⟩
  case rest =>
  obtain ⟨rfl, m, A2, c2, rfl, hn, hml, hmr⟩ := hcut
  obtain ⟨A2', c2', hsh, hc2, hm2⟩ := hmr.shape
  unfold maxLen at hm2
  injection hsh with hsh1 hsh2 hsh3
  subst hsh3
  clear hsh1 hsh2 h0 hlm
  have HML := hide hml
  clear hml
  go_wp2_with fail
  go_loopw [22] (fun iv wr => ∃ (k : Nat), iv = .int .i64 (k : Int) ∧ k ≤ m.length ∧ RdBB wr (fun k => k < wc.heap.size) (.slice A2 m.length c2) m ∧ RdB wr (fun k => k < wc.heap.size) v1 f ∧ RdB wr (fun k => k < wc.heap.size) v2 t ∧ Chg Non wc wr) (fun iv _ => m.length - (intOf iv).toNat)
  case atStart => exact ⟨0, rfl, Nat.zero_le _, hmr, hf, ht, Chg.refl _ _⟩
  case round =>
    clear hmr hf ht
    obtain ⟨k, rfl, hk, hr, hf, ht, hcw⟩ := hrel
    by_cases h1 : k < m.length
    · obtain ⟨ad, p, rfl, hadF, hp, hrp⟩ := hr.at_ h1
      have hkl := HML.out _ (List.getElem_mem h1)
      obtain ⟨q, hq⟩ : ∃ q, q = m[k] := ⟨_, rfl⟩
      rw [← hq] at hrp hkl
      have hki : (k : Int) < (m.length : Int) := by omega
      have hk0 : (0 : Int) ≤ (k : Int) := by omega
      have hkc : (k : Int) ≤ (c2 : Int) := by omega
      have hfr := RdBB.front (j := k) hr (by omega)
      have hlab := labelQuote hrp (by omega)
      clear hq
      go_wp2_with fail
      refine hlab.mono ?_
      rintro e w3 ⟨rfl, k3⟩
      have hunq := labelUnquote (b := q) (w := w3) (by omega)
      obtain ⟨Q, hQ⟩ : ∃ Q : ByteArray, Q = ⟨(quoB q).toArray⟩ := ⟨_, rfl⟩
      have HQ := hide hQ
      rw [← hQ] at hunq ⊢
      clear hQ hlab
      go_wp2_with fail
      refine hunq.mono ?_
      rintro e w4 ⟨ub, rfl, hub, k4⟩
      have k34 := k3.trans0 k4
      have hq4 := hrp.c0 k34
      have heq := refEqual_true hub.rd hq4
      clear hunq k3 k4
      go_wp2_with fail
      refine heq.mono ?_
      rintro e w5 ⟨rfl, hq5⟩
      have k45 := (Chg.refl Non w4).quiet hq5
      have k35 := k34.trans0 k45
      have hq5 := hq4.c0 k45
      have hub5 := hub.rd.c0 k45
      have hrq := refQuote hq5 (by omega)
      rw [← HQ.out] at hrq
      clear heq k34 hub hq4 k45
      go_wp2_with fail
      refine hrq.mono ?_
      rintro e w6 ⟨rfl, k56⟩
      have k36 := k35.trans0 k56
      have hq6 := hq5.c0 k56
      have hub6 := hub5.c0 k56
      have hf6 := hf.c0 k36
      have ht6 := ht.c0 k36
      have hin1 := packIn hub6 hf6 ht6
      obtain ⟨ib, hib⟩ : ∃ ib, ib = inB q f t := ⟨_, rfl⟩
      have HIB := hide hib
      rw [← hib] at hin1
      clear hrq hq5 hub5 k35 k56 hib
      go_wp2_with fail
      refine hin1.mono ?_
      rintro e w7 ⟨rfl, hqq⟩
      have k67 := (Chg.refl Non w6).quiet hqq
      have k37 := k36.trans0 k67
      have hin2 := refIn (hq6.c0 k67) (hf6.c0 k67) (ht6.c0 k67)
      rw [← HIB.out] at hin2
      have hq7 := hq6.c0 k67
      clear hin1 hub6 hf6 ht6 k36 k67 hqq hq6
      go_wp2_with fail
      refine hin2.mono ?_
      rintro e w8 ⟨rfl, hqq⟩
      have k78 := (Chg.refl Non w7).quiet hqq
      have k38 := k37.trans0 k78
      have hr8 := hr.c0 k38
      have hf8 := hf.c0 k38
      have ht8 := ht.c0 k38
      have hq8 := hq7.c0 k78
      have hfr8 := hfr.c0 k38
      have hc8 := hcw.trans0 k38
      clear hin2 hqq k37 k78 k38 hr hf ht hcw hq7 hfr hrp HIB
      go_wp2_with fail
      go_loopw [61] (fun jv wr2 => ∃ (j : Nat), jv = .int .i64 (j : Int) ∧ j ≤ k ∧ RdBB wr2 (fun k => k < wc.heap.size) (.slice (some ad) m.length c2) m ∧ RdBB wr2 (fun k => k < wc.heap.size) (.slice (some ad) k c2) (m.take k) ∧ RdB wr2 (fun k => k < wc.heap.size) p q ∧ RdB wr2 (fun k => k < wc.heap.size) v1 f ∧ RdB wr2 (fun k => k < wc.heap.size) v2 t ∧ Chg Non wc wr2) (fun jv _ => k - (intOf jv).toNat)
      case atStart => exact ⟨0, rfl, Nat.zero_le _, hr8, hfr8, hq8, hf8, ht8, hc8⟩
      case round =>
        clear hr8 hfr8 hq8 hf8 ht8 hc8 hp
        obtain ⟨j, rfl, hj, hr, hfr, hq, hf, ht, hcw⟩ := hrel
        by_cases h2 : j < k
        · have htl : (m.take k).length = k := by rw [List.length_take]; omega
          obtain ⟨ad2, p2, had2, _, hp2, hrp2⟩ := hfr.at_ (k := j) (by omega)
          injection had2 with had2
          subst had2
          obtain ⟨o, ho⟩ : ∃ o, o = (m.take k)[j]'(by omega) := ⟨_, rfl⟩
          rw [← ho] at hrp2
          have hji : (j : Int) < (k : Int) := by omega
          have hj0 : (0 : Int) ≤ (j : Int) := by omega
          have hcmp := packCompare hq hrp2
          have hia := in_after q o
          have hec := eq_cmp q o
          obtain ⟨x, hx⟩ : ∃ x, x = cmpB q o := ⟨_, rfl⟩
          rw [← hx] at hcmp hia hec
          have HIA := hide hia
          have HEC := hide hec
          clear ho htl hx hia hec
          go_wp2_with fail
          refine hcmp.mono ?_
          rintro e w9 ⟨rfl, hqq⟩
          have k9 := (Chg.refl Non wr).quiet hqq
          have haf := packAfter (hq.c0 k9) (by omega)
          clear hcmp hqq
          go_wp2_with fail
          refine haf.mono ?_
          rintro e w10 ⟨ua, rfl, hua, k10⟩
          have k1 := k9.trans0 k10
          have hin := packIn (hrp2.c0 k1) hua.rd (RdB.nil_ w10 (fun _ => True))
          rw [HIA.out] at hin
          clear haf k9 k10
          go_wp2_with fail
          refine hin.mono ?_
          rintro e w11 ⟨rfl, hqq⟩
          have k2 := k1.quiet hqq
          have heq := refEqual (hq.c0 k2) (hrp2.c0 k2)
          rw [HEC.out] at heq
          clear hin hqq k1 hua
          go_wp2_with fail
          refine heq.mono ?_
          rintro e w12 ⟨rfl, hqq⟩
          have k3 := k2.quiet hqq
          have hr3 := hr.c0 k3
          have hfr3 := hfr.c0 k3
          have hq3 := hq.c0 k3
          have hf3 := hf.c0 k3
          have ht3 := ht.c0 k3
          have hc3 := hcw.trans0 k3
          clear heq hqq k2 k3 hr hfr hq hf ht hcw hp2 hrp2
          go_wp2_with fail
          go_round
          case rel => exact ⟨j + 1, by go_num, by omega, hr3, hfr3, hq3, hf3, ht3, hc3⟩
          case measure => simp [intOf]; omega
        · obtain rfl : k = j := by omega
          clear hfr hq
          go_wp2_with fail
          go_round
          case rel => exact ⟨k + 1, by go_num, by omega, hr, hf, ht, hcw⟩
          case measure => simp [intOf]; omega
    · go_wp2_with fail
      go_ret
      exact ⟨rfl, hcw⟩

set_option maxRecDepth 100000 in
theorem contract (H : Type) (enc : TypeId × Value → H) (W : World) (base : Nat) (args : Array Value) (ds gs : List (DataW H)) (before : List MemPlace)
    (hval : ∀ (j : Nat) t v, Try.f3.params[j]? = some t → args[j]? = some v → Value.okWide Try.prog W .any base t v)
    (hW : DataW.Whole enc Try.prog Try.f3.params.toList Rows.groyneQuotedSpec.vars false W args.toList ds gs before) (hk : Rows.uptoSmall H (ds ++ gs) = true) :
    Calls Try.prog 3 args W fun e W' => ∃ v, e = .returned v ∧ Rows.groyneQuotedSpec.post enc Try.prog Try.f3 false true false false W args v W' := by
  have hW' := hW
  obtain ⟨p, q, hA0, hV, rfl, hfz, hnd⟩ := hW
  have hA : DataW.TrodAll enc Try.prog W 0 (fun _ => true) true Try.f3.params.toList args.toList ds p := hA0
  rw [Try.params3] at hA hval
  obtain ⟨v0, vs0, d0, ds0, p0, q0, hargs, rfl, rfl, h0, r0⟩ := trodAll_cons hA
  obtain ⟨v1, vs1, d1, ds1, p1, q1, rfl, rfl, rfl, h1, r1⟩ := trodAll_cons r0
  obtain ⟨v2, vs2, d2, ds2, p2, q2, rfl, rfl, rfl, h2, r2⟩ := trodAll_cons r1
  obtain ⟨rfl, rfl, rfl⟩ := trodAll_nil r2
  obtain rfl : args = #[v0, v1, v2] := by cases args; simp_all
  obtain ⟨rfl, rfl⟩ := trodVars_none hV
  have k0 := h0
  have lt0 : ∀ x ∈ p0, x.block < W.heap.size := by obtain ⟨m, hm⟩ := k0; exact DataW.trod_lt m _ _ _ hm
  obtain ⟨l0, w0, z0⟩ := openBB (hval 0 22 v0 rfl rfl) h0
  have k1 := h1
  have lt1 : ∀ x ∈ p1, x.block < W.heap.size := by obtain ⟨m, hm⟩ := k1; exact DataW.trod_lt m _ _ _ hm
  obtain ⟨l1, w1, z1⟩ := openB (hval 1 23 v1 rfl rfl) h1
  have k2 := h2
  have lt2 : ∀ x ∈ p2, x.block < W.heap.size := by obtain ⟨m, hm⟩ := k2; exact DataW.trod_lt m _ _ _ hm
  obtain ⟨l2, w2, z2⟩ := openB (hval 2 23 v2 rfl rfl) h2
  have hb := of_decide_eq_true hk
  simp only [List.append_nil, Rows.uptoBulkAll] at hb
  have z01 := z0.1
  have z11 := z1.1
  have z21 := z2.1
  refine (walk w0 w1 w2 (by omega)).mono fun e W' ⟨he, bel0⟩ => ?_
  have bel := bel0.below
  subst he
  exact ⟨_, rfl, _, _, _, [], _, [], hW', trodAll_mk1 (shut_bool Try.underlying4 _), (trodAll_cons_mk (Below.trod laidOut (by kernel_rfl) (of_decide_eq_true (by kernel_rfl)) k0 bel lt0) (trodAll_cons_mk (Below.trod laidOut (by kernel_rfl) (of_decide_eq_true (by kernel_rfl)) k1 bel lt1) (trodAll_cons_mk (Below.trod laidOut (by kernel_rfl) (of_decide_eq_true (by kernel_rfl)) k2 bel lt2) trodAll_mk0))), rfl, bel.frame _, fun h => by cases h⟩

set_option maxRecDepth 100000 in
theorem lifted (os : Os) (started : os.Started) (H : Type) (enc : TypeId × Value → H) (F : Stop.Interp) :
    ReturnsInHanded {} Try.checked os 3 .any ((Rows.OpenSpec.upto Rows.groyneQuotedSpec).pre6 enc Try.prog Try.f3 Rows.groyneQuotedUptoRow.domain false) (((Rows.OpenSpec.upto Rows.groyneQuotedSpec).at F).post enc Try.prog Try.f3 false true false false) := by
  refine returnsInHanded_of_cond (C := Try.checked) (s := Rows.OpenSpec.upto Rows.groyneQuotedSpec) (k := Rows.uptoSmall) rfl own started (by kernel_rfl) Try.func3
    (OpenSpec.witness (enc := enc) (C := Try.checked) (s := Rows.OpenSpec.upto Rows.groyneQuotedSpec) (k := Rows.uptoSmall) rfl false ⟨#[], #[.slice none 0 0, .slice none 0 0, .slice none 0 0], []⟩ 8 (by kernel_rfl) (by kernel_rfl) (by kernel_rfl)
      (x := ([.nil, .nil, .nil], [], [])) (by kernel_rfl) rfl (by kernel_rfl)) ?_
  intro W base args ds gs before hval hW _ hk _
  exact contract H enc W base args ds gs before hval hW hk

theorem over : Rows.groyneQuotedUptoRow.holds Try.pinned (Rows.OpenSpec.upto Rows.groyneQuotedSpec) :=
  OpenClaim.holds_of_cond 3 Try.f3 rfl rfl rfl rfl rfl rfl rfl ⟨rfl, rfl, rfl, rfl, rfl⟩ rfl rfl rfl rfl rfl (by kernel_rfl) Try.func3 (by kernel_rfl)
    (of_decide_eq_true (by kernel_rfl)) (by unfold Func.isWrapper; first | (rw [if_pos (by decide +kernel)]; kernel_rfl) | (rw [if_neg (by decide +kernel)]; exact ⟨rfl, rfl⟩))
    (fun os started H enc _ F => lifted os started H enc F)

theorem proved : Rows.GroyneQuotedUptoSaid := over
end Go.Proofs.Ytlbkomalniomhaa.groyneQuoted
