/- ParityPrefixes: a beginning of some records opens just those that it has whole: for every input the statement's function answers true. No condition. -/
import Derived.Test.YtijnfjnkjojjnaaCut03
import Derived.Test.YtijnfjnkjojjnaaOpenBB
import Derived.Test.YtijnfjnkjojjnaaAll3
import Derived.Test.YtijnfjnkjojjnaaInts
namespace Go.Proofs.Ytijnfjnkjojjnaa.parityPrefixes
open Go.ChangeShapes Go.WideShapes Go.ChangeAt Go.RowKit Go.Deep
open Go.ChangeMaps (open_string shut_string)
set_option linter.unusedVariables false

def endsI (C : List (List UInt8)) (k : Nat) : List Int := (List.range k).map fun i => ((sealsB (C.take (i + 1))).length : Int)
theorem endsI_succ (C : List (List UInt8)) (k : Nat) : endsI C (k + 1) = endsI C k ++ [((sealsB (C.take (k + 1))).length : Int)] := by
  rw [endsI, List.range_succ, List.map_append]; rfl
theorem endsI_len (C : List (List UInt8)) (k : Nat) : (endsI C k).length = k := by simp [endsI]
theorem endsI_get (C : List (List UInt8)) (k i : Nat) (h : i < (endsI C k).length) : (endsI C k)[i] = ((sealsB (C.take (i + 1))).length : Int) := by simp [endsI]
theorem seals_600 : ∀ (ll : List (List UInt8)), (∀ l ∈ ll, l.length ≤ 600) → (sealsB ll).length ≤ 1000 * ll.length
  | [], _ => by simp [sealsB]
  | a :: ll, h => by
    have h1 := h a (by simp)
    have h2 := seals_600 ll fun l hl => h l (by simp [hl])
    rw [sealsB_cons, List.length_append, sealB_length, List.length_cons]; omega

theorem sz2 {n : Nat} {w3 w4 : World} {o : Obj} (h : n ≤ w3.heap.size) (h2 : w3.heap.size ≤ w4.heap.size) : n ≤ (w4.alloc o).heap.size := Nat.le_trans h (Nat.le_trans h2 ((Chg.refl Non w4).alloc o).size)

set_option maxRecDepth 100000 in
set_option maxHeartbeats 2000000 in
theorem walk {W : World} {v0 : Value} {drop : Int} {ll : List (List UInt8)} (h0 : RdBB W (fun k => k < W.heap.size) v0 ll) (hdw : (Lit.int .i64 drop).wf = true) (s0 : ll.length ≤ reachBytes) :
    Calls Try.prog 9 #[v0, .int .i64 drop] W fun e W' => e = .returned (.bool true) ∧ Chg Non W W' := by
  obtain ⟨A1, c1, rfl, hc1, hm1⟩ := h0.shape
  unfold maxLen at hm1
  clear s0
  have hmin : IntKind.i64.min = -9223372036854775808 := rfl
  have hmax : IntKind.i64.max = 9223372036854775807 := rfl
  have hdx : -9223372036854775808 ≤ drop ∧ drop ≤ 9223372036854775807 := by simpa [Lit.wf, hmin, hmax] using hdw
  clear hdw hmin hmax
  obtain ⟨C, hC⟩ : ∃ C, C = (ll.take 5).map fun l => l.take 600 := ⟨_, rfl⟩
  have hCl : C.length ≤ 5 ∧ C.length ≤ ll.length ∧ (C.length < 5 → C.length = ll.length) := by rw [hC, List.length_map, List.length_take]; omega
  have hCm : ∀ l ∈ C, l.length ≤ 600 := fun l hl => by
    rw [hC] at hl
    obtain ⟨x, _, rfl⟩ := List.mem_map.1 hl
    rw [List.length_take]; omega
  have hCg : ∀ (k : Nat) (h : k < C.length) (h2 : k < ll.length), C[k] = ll[k].take 600 := fun k h h2 => by
    subst hC
    simp
  have hall := seals_600 C hCm
  clear hC
  go_enter Try.func9, Try.ntmps9
  go_wp2_with fail
  refine awake03.mono ?_
  rintro e w1 ⟨rfl, g1⟩
  have h1 := h0.c0 g1
  clear h0
  go_wp2_with fail
  go_loopw [5, 6, 7] (fun av ev iv wr => ∃ (k : Nat), k ≤ C.length ∧ iv = .int .i64 k ∧ OwnB wr W.heap.size av (sealsB (C.take k)) ∧ OwnI wr W.heap.size ev (endsI C k) ∧ (∀ b, av.ownBlock = some b → ev.ownBlock ≠ some b) ∧ RdBB wr (fun k => k < W.heap.size) (.slice A1 ll.length c1) ll ∧ Chg Non W wr) (fun _ _ iv _ => C.length - (intOf iv).toNat)
  case atStart => exact ⟨0, by omega, rfl, OwnB.nil_ _ _, OwnI.nil_ _ _, (fun b hb => by simp [Value.ownBlock] at hb), h1, g1⟩
  case round =>
    clear h1 g1
    obtain ⟨k, hk, rfl, hA, hE, hdis, hr, hcw⟩ := hrel
    by_cases h5 : k < C.length
    · have h5l : k < ll.length := by omega
      obtain ⟨ad, p, rfl, hadF, hp, hrp⟩ := hr.at_ h5l
      have hst := sealsB_take C k h5
      have hst2 := hst
      rw [hCg k h5 h5l] at hst
      have hes := endsI_succ C k
      have hmono := sealsB_mono C (i := k + 1) (j := C.length) (by omega)
      rw [List.take_length, hst, List.length_append] at hmono
      obtain ⟨q, hq⟩ : ∃ q, q = ll[k] := ⟨_, rfl⟩
      rw [← hq] at hrp hst hmono
      have HST := hide hst
      have HES := hide hes
      obtain ⟨cur, hcur⟩ : ∃ cur, cur = sealsB (C.take k) := ⟨_, rfl⟩
      rw [← hcur] at hA hmono
      have HC := hide hcur
      have hel := endsI_len C k
      have hdl : (endsI C k).length + 1 ≤ 1000000000000 := by omega
      have hlenA : cur.length + (sealB (q.take 600)).length ≤ 140737488355328 := by omega
      have hql : ¬ 1048576 < (q.take 600).length := by rw [List.length_take]; omega
      obtain ⟨P, np, cp, rfl⟩ : ∃ P np cp, p = .slice P np cp := by obtain ⟨P, cp, e, _⟩ := hrp.shape; exact ⟨P, _, cp, e⟩
      have hkd : decide ((k : Int) < 5) = true := decide_eq_true (by omega)
      have hrowE : ∀ b, u6.ownBlock = some b → W.heap.size ≤ b ∧ b < wr.heap.size := fun b hb => hE.lt b hb
      have hrowA : ∀ b, u5.ownBlock = some b → W.heap.size ≤ b ∧ b < wr.heap.size := fun b hb => hA.lt b hb
      clear hq hcur hst hst2 hes hel
      go_wp2_with fail
      refine (lawCut (n := 600) hrp (by omega)).mono ?_
      rintro e w2 ⟨u, rfl, hu, rfl⟩
      have hseal := paritySeal hu
      rw [if_neg hql, if_neg hql] at hseal
      go_wp2_with fail
      refine hseal.mono ?_
      rintro e w3 ⟨s, rfl, hs, k3⟩
      have hA3 := hA.chg k3 fun _ _ h => h
      have hE3 := hE.c0 k3
      have hr3 := hr.c0 k3
      have hcw3 := hcw.trans0 k3
      have hsz3 := hcw3.size
      have hk3 := k3.size
      clear hseal hA hE hr hcw hrp hu
      have hnotE : ∀ b, u6.ownBlock = some b → ¬ (some b = u5.ownBlock) := fun b hb e => hdis b e.symm hb
      go_wp2_with (first
        | (at_builtin; refine append_B rfl _ _ rfl hA3 rfl hs.rd rfl hlenA hsz3 ?_; intro v4 w4 hA4 hg4 hat4; have hlen4 := run_len8 hA4.rd)
        | (at_builtin; refine append_I rfl _ _ rfl (OwnI.al (OwnI.chg hE3 (Chg.of_grown hg4) hnotE) _) rfl (Blk.new w4 _ _) rfl hdl (sz2 hsz3 hg4.size) ?_; intro v5 w5 hE5 hg5 hat5))
      have hrA4 : ∀ b, v4.ownBlock = some b → W.heap.size ≤ b ∧ b < w4.heap.size := fun b hb => hA4.lt b hb
      have hdis4 : ∀ b, v4.ownBlock = some b → u6.ownBlock ≠ some b := fun b hb e => by
        rcases hat4 with e4 | e4
        · exact hdis b (e4 ▸ hb) e
        · rw [e4] at hb; injection hb with hb; have := (hrowE b e).2; omega
      have hr4 := hr3.chg (Chg.of_grown hg4) fun b hb e => by have := (hrowA b e.symm).1; omega
      have hcw4 := hcw3.grown hg4 fun b hb hlt => by have := (hrowA b hb).1; omega
      have hr5 := (hr4.c0 ((Chg.refl Non w4).alloc _)).chg (Chg.of_grown hg5) fun b hb e => by have := (hrowE b e.symm).1; omega
      have hcw5 := (hcw4.alloc _).grown hg5 fun b hb hlt => by have := (hrowE b hb).1; omega
      have hA5 := (hA4.al _).chg (Chg.of_grown hg5) fun b hb e => hdis4 b hb e.symm
      have hdis5 : ∀ b, v4.ownBlock = some b → v5.ownBlock ≠ some b := fun b hb e => by
        rcases hat5 with e5 | e5
        · exact hdis4 b hb (e5 ▸ e)
        · rw [e5] at e; injection e with e; have := (hrA4 b hb).2; simp at e; omega
      rw [HC.out, ← HST.out] at hA5
      have hlast : ((cur.length : Int) + ((sealB (q.take 600)).length : Int)) = ((sealsB (C.take (k + 1))).length : Int) := by rw [HST.out, ← HC.out, List.length_append]; omega
      rw [hlast, ← HES.out] at hE5
      go_round
      case rel => exact ⟨k + 1, by omega, by go_num, hA5, hE5, hdis5, hr5, hcw5⟩
      case measure => simp [intOf]; omega
    · obtain rfl : k = C.length := by omega
      rw [List.take_length] at hA
      have hkd : ((C.length : Int) < (ll.length : Int)) → decide ((C.length : Int) < 5) = false := fun h => decide_eq_false (by omega)
      clear hr hdis hCg
      by_cases h6 : C.length < ll.length
      case' pos => have hk5 : ¬ C.length < 5 := by omega
      all_goals
        have hlenA := fun (w' : World) (ty : TypeId) => run_len8 hA.rd w' ty
        obtain ⟨al, hal⟩ : ∃ al, al = sealsB C := ⟨_, rfl⟩
        rw [← hal] at hA hlenA hall
        have HAL := hide hal
        clear hal
        obtain ⟨D, hDl, hD⟩ : ∃ D : Nat, D ≤ al.length ∧ ((drop < 0 ∧ D = 0) ∨ (¬ drop < 0 ∧ (al.length : Int) < drop ∧ D = 0) ∨ (¬ drop < 0 ∧ ¬ (al.length : Int) < drop ∧ drop = (D : Int))) := by
          by_cases h7 : drop < 0
          · exact ⟨0, by omega, .inl ⟨h7, rfl⟩⟩
          · by_cases h8 : (al.length : Int) < drop
            · exact ⟨0, by omega, .inr (.inl ⟨h7, h8, rfl⟩)⟩
            · exact ⟨drop.toNat, by omega, .inr (.inr ⟨h7, h8, by omega⟩)⟩
        obtain ⟨j, r, hj, hja, hjs, hjn, hop, hrd⟩ := allN_take C [] (al.length - D) (fun l hl => by have := hCm l hl; omega) (by rw [← HAL.out]; omega)
        rw [← HAL.out] at hja hrd
        rw [List.nil_append] at hja
        obtain ⟨m, hm⟩ : ∃ m, m = al.length - D := ⟨_, rfl⟩
        rw [← hm] at hja hjs hjn hrd
        obtain ⟨s, hs, hcs⟩ := run_cut_h hA.rd (j := m) (y := (m : Int)) rfl (by omega)
        have hsl : (al.take m).length = m := by rw [List.length_take]; omega
        have hoa := parityOpenAll hs (by omega)
        rw [hja, hsl] at hoa
        simp only at hoa
        obtain ⟨E, hEe⟩ : ∃ E, E = (sealsB (C.take j)).length := ⟨_, rfl⟩
        rw [show m - r.length = E by omega] at hoa
        rw [← hEe] at hrd hjs
        have hopn := fun (w' : World) (h : RdB w' (fun k => u5.ownBlock = some k) s (al.take m)) => parityOpen (at_ := (E : Int)) h (by omega)
        rw [openA_bad (x := []) (r := []) (er := 5) (by rw [hsl]; omega) (by rw [← hrd, hop]) (by decide)] at hopn
        simp only [opA] at hopn
        have hEE := hide hEe
        have hjl : (C.take j).length = j := by rw [List.length_take]; omega
        have hsls := fun (w' : World) (ty : TypeId) => run_len8 hs w' ty
        rw [hsl] at hsls
        obtain ⟨Ae, ce, hue, _, _⟩ := hE.shape
        have hel := endsI_len C C.length
        rw [hel] at hue
        subst hue
        have hmi : (al.length : Int) - (D : Int) = (m : Int) := by omega
        have hmL : m ≤ 1000 * C.length := by omega
        have hle_ : ∀ i, i < j → (sealsB (C.take (i + 1))).length ≤ m := fun i hi => by
          have := sealsB_mono C (i := i + 1) (j := j) (by omega); omega
        have hgt_ : ∀ i, i < C.length → ¬ i < j → m < (sealsB (C.take (i + 1))).length := fun i hi hij => by
          have h1 := hjn (by omega)
          have := sealsB_mono C (i := j + 1) (j := i + 1) (by omega); omega
        have hE0 : j = 0 → E = 0 := fun h => by rw [hEe, h]; simp [sealsB]
        have hall5 : al.length ≤ 5000 := by omega
        have HLE := hide hle_
        have HGT := hide hgt_
        have HE0 := hide hE0
        have HCM := hide hCm
        have HCL := hide hCl
        have HOPN := hide hopn
        clear hm hja hop hrd hEe hA hjn hall hel hjs hle_ hgt_ hE0 hCm hopn
        rcases hD with ⟨h7, rfl⟩ | ⟨h7, h8, rfl⟩ | ⟨h7, h8, rfl⟩
        case' inl =>
          have hmi2 : (al.length : Int) = (m : Int) := by omega
          have hw00 : wrap64 (al.length : Int) = (m : Int) := by rw [IntWalk.wrap64_in _ (by omega), hmi2]
          have hcs2 := hcs
          rw [← hmi2] at hcs2
        case' inr.inl =>
          have hmi2 : (al.length : Int) = (m : Int) := by omega
          have hw00 : wrap64 (al.length : Int) = (m : Int) := by rw [IntWalk.wrap64_in _ (by omega), hmi2]
          have hcs2 := hcs
          rw [← hmi2] at hcs2
        case' inr.inr =>
          have hwm : IntKind.i64.wrap ((al.length : Int) - (D : Int)) = (m : Int) := by rw [hmi]; exact IntWalk.i64_in _ (by omega)
        all_goals
          clear hmi
          try clear hmi2
          go_wp2_with fail
          refine hoa.mono ?_
          rintro e w3 ⟨bk, rfl, hbk, k3⟩
          obtain ⟨Ab, cb, hbe, _, _⟩ := hbk.shape
          rw [hjl] at hbe
          subst hbe
          have hE3 := hE.c0 k3
          have hs3 := hs.c0 k3
          have hcw3 := hcw.trans0 k3
          clear hoa hE hs hcw k3 hbk
          go_wp2_with fail
          go_loop [13, 69] (fun wv iv => ∃ (i : Nat), i ≤ C.length ∧ iv = .int .i64 i ∧ wv = .int .i64 ((min i j : Nat) : Int)) (fun _ iv => C.length - (intOf iv).toNat)
          case atStart => exact ⟨0, by omega, rfl, by rw [Nat.zero_min]; rfl⟩
          case round =>
            obtain ⟨i, hi, rfl, rfl⟩ := hrel
            by_cases h9 : i < C.length
            · obtain ⟨ge, ce2, hue, hge, hcell⟩ := hE3.at_ (k := i) (by rw [endsI_len]; exact h9)
              injection hue with hue1 hue2 hue3; clear hue2 hue3
              subst hue1
              rw [endsI_get] at hcell
              have hki : (i : Int) < (C.length : Int) := by omega
              by_cases h10 : i < j
              · have hm1 : min i j = i := by omega
                have hm2 := hide (show min (i + 1) j = i + 1 by omega)
                rw [hm1]
                have hle := HLE.out i h10
                obtain ⟨N, hN⟩ : ∃ N, N = (sealsB (C.take (i + 1))).length := ⟨_, rfl⟩
                rw [← hN] at hcell hle
                clear hN
                have hd9 : decide ((N : Int) ≤ (m : Int)) = true := decide_eq_true (Int.ofNat_le.2 hle)
                clear hm1
                go_wp2_with fail
                go_round
                case rel => exact ⟨i + 1, by omega, by go_num, by rw [hm2.out]; go_num⟩
                case measure => simp [intOf]; omega
              · have hm1 : min i j = j := by omega
                have hm2 := hide (show min (i + 1) j = j by omega)
                rw [hm1]
                have hgt := HGT.out i h9 h10
                obtain ⟨N, hN⟩ : ∃ N, N = (sealsB (C.take (i + 1))).length := ⟨_, rfl⟩
                rw [← hN] at hcell hgt
                clear hN
                have hd9 : decide ((N : Int) ≤ (m : Int)) = false := decide_eq_false (Int.not_le.2 (Int.ofNat_lt.2 hgt))
                have hd9n : ¬ N ≤ m := Nat.not_le.2 hgt
                clear hm1
                go_wp2_with fail
                go_round
                case rel => exact ⟨i + 1, by omega, by go_num, by rw [hm2.out]⟩
                case measure => simp [intOf]; omega
            · obtain rfl : i = C.length := by omega
              rw [show min C.length j = j by omega]
              have hki : ¬ (C.length : Int) < (C.length : Int) := by omega
              by_cases h10 : j = 0
              · have hE00 := HE0.out h10
                subst h10
                subst hE00
                have hop0 := HOPN.out _ hs3
                clear HOPN HE0 hEE
                go_wp2_with fail
                refine hop0.mono ?_
                rintro e w5 ⟨ou, rfl, hou, k5⟩
                go_wp2_with fail
                go_ret
                exact ⟨rfl, hcw3.trans0 k5⟩
              · obtain ⟨j', rfl⟩ : ∃ j', j = j' + 1 := ⟨j - 1, by omega⟩
                obtain ⟨ge, ce2, hue, hge, hcell⟩ := hE3.at_ (k := j') (by rw [endsI_len]; omega)
                injection hue with hue1 hue2 hue3; clear hue2 hue3
                subst hue1
                rw [endsI_get, ← hEE.out] at hcell
                have hop0 := HOPN.out _ hs3
                have hjj : IntKind.i64.wrap (((j' + 1 : Nat) : Int) - 1) = (j' : Int) := by rw [IntWalk.i64_in _ (by omega)]; omega
                have hjp : decide ((0 : Int) < ((j' + 1 : Nat) : Int)) = true := decide_eq_true (by omega)
                have hjc : (j' : Int) < (C.length : Int) := by omega
                have hjz : (((j' + 1 : Nat) : Int) == 0) = false := beq_eq_false_iff_ne.2 (by omega)
                obtain ⟨J, hJ⟩ : ∃ J : Int, J = ((j' + 1 : Nat) : Int) := ⟨_, rfl⟩
                rw [← hJ] at hjj hjp hjz ⊢
                have hJe1 : ((j' : Int) + 1) = J := by omega
                have hJe2 : (((j' + 1 : Nat) : Int) != J) = false := by simp; omega
                have hJe3 : (((j' : Int) + 1) != J) = false := by simp; omega
                clear HOPN HE0 hEE hJ
                go_wp2_with fail
                refine hop0.mono ?_
                rintro e w5 ⟨ou, rfl, hou, k5⟩
                go_wp2_with fail
                go_ret
                exact ⟨rfl, hcw3.trans0 k5⟩

set_option maxRecDepth 100000 in
theorem contract (H : Type) (enc : TypeId × Value → H) (W : World) (base : Nat) (args : Array Value) (ds gs : List (DataW H)) (before : List MemPlace)
    (hval : ∀ (j : Nat) t v, Try.f9.params[j]? = some t → args[j]? = some v → Value.okWide Try.prog W .any base t v)
    (hW : DataW.Whole enc Try.prog Try.f9.params.toList Rows.parityPrefixesSpec.vars false W args.toList ds gs before) (hsz : (DataW.weightsEach Try.prog (Try.f9.params.toList ++ Rows.parityPrefixesSpec.plain.varTypes Try.prog) (ds ++ gs)).all (· ≤ reachBytes) = true) :
    Calls Try.prog 9 args W fun e W' => ∃ v, e = .returned v ∧ Rows.parityPrefixesSpec.post enc Try.prog Try.f9 false true false false W args v W' := by
  have hW' := hW
  obtain ⟨p, q, hA0, hV, rfl, hfz, hnd⟩ := hW
  have hA : DataW.TrodAll enc Try.prog W 0 (fun _ => true) true Try.f9.params.toList args.toList ds p := hA0
  rw [Try.params9] at hA hval hsz
  obtain ⟨v0, vs0, d0, ds0, p0, q0, hargs, rfl, rfl, h0, r0⟩ := trodAll_cons hA
  obtain ⟨v1, vs1, d1, ds1, p1, q1, rfl, rfl, rfl, h1, r1⟩ := trodAll_cons r0
  obtain ⟨rfl, rfl, rfl⟩ := trodAll_nil r1
  obtain rfl : args = #[v0, v1] := by cases args; simp_all
  obtain ⟨rfl, rfl⟩ := trodVars_none hV
  have k0 := h0
  have lt0 : ∀ x ∈ p0, x.block < W.heap.size := by obtain ⟨m, hm⟩ := k0; exact DataW.trod_lt m _ _ _ hm
  obtain ⟨l0, w0, z0⟩ := openBB (hval 0 25 v0 rfl rfl) h0
  have s0 : l0.length ≤ reachBytes := z0.2 _ fun e s he => by
    have := sized_slice hsz (j := 0) rfl (by rw [he]; rfl) Try.underlying25
    exact Nat.le_trans (Nat.le_mul_of_pos_right _ (of_decide_eq_true (by kernel_rfl))) this
  obtain ⟨a1, rfl, rfl, rfl, w1⟩ := open_int Try.underlying3 (hval 1 3 v1 rfl rfl) h1
  refine (walk w0 w1 s0).mono fun e W' ⟨he, bel0⟩ => ?_
  have bel := bel0.below
  subst he
  exact ⟨_, rfl, _, _, _, [], _, [], hW', trodAll_mk1 (shut_bool Try.underlying4 _), (trodAll_cons_mk (Below.trod laidOut (by kernel_rfl) (of_decide_eq_true (by kernel_rfl)) k0 bel lt0) (trodAll_cons_mk (shut_int Try.underlying3 w1) trodAll_mk0)), rfl, bel.frame _, fun h => by cases h⟩

set_option maxRecDepth 100000 in
theorem lifted (os : Os) (started : os.Started) (H : Type) (enc : TypeId × Value → H) :
    ReturnsInHanded {} Try.checked os 9 .any (Rows.parityPrefixesSpec.pre6 enc Try.prog Try.f9 Rows.parityPrefixesRow.domain false) (Rows.parityPrefixesSpec.post enc Try.prog Try.f9 false true false false) := by
  refine returnsInHanded_of_change_sized (C := Try.checked) own started (by kernel_rfl) Try.func9
    (ChangeSpec.witness6 (enc := enc) (C := Try.checked) false ⟨#[], #[.slice none 0 0, .int .i64 0], []⟩ 8 (by kernel_rfl) (by kernel_rfl) (by kernel_rfl) (by kernel_rfl)) ?_
  intro W base args ds gs before hval hW _ hsz _
  exact contract H enc W base args ds gs before hval hW hsz

theorem over : Rows.parityPrefixesRow.holds Try.pinned (OpenSpec.ofChange Rows.parityPrefixesSpec) :=
  OpenClaim.holds_of_wide 9 Try.f9 rfl rfl rfl rfl rfl rfl rfl ⟨rfl, rfl, rfl, rfl, rfl⟩ rfl rfl rfl rfl rfl (by kernel_rfl) Try.func9 (by kernel_rfl)
    (of_decide_eq_true (by kernel_rfl)) (by unfold Func.isWrapper; first | (rw [if_pos (by decide +kernel)]; kernel_rfl) | (rw [if_neg (by decide +kernel)]; exact ⟨rfl, rfl⟩))
    (fun os started H enc _ => lifted os started H enc)

theorem proved : Rows.ParityPrefixesSaid := over
end Go.Proofs.Ytijnfjnkjojjnaa.parityPrefixes
