/- PackPrefixes, where what it reads is of bulk at most 1048576: every beginning of packed parts that isn't all of them is refused as ending too early, and with bytes behind them they are refused too. -/
import Derived.Test.YtlklcdjhlpadiaaAwake01
import Derived.Test.YtlklcdjhlpadiaaWtr
import Derived.Test.YtlklcdjhlpadiaaPkSplit
import Derived.Test.YtlklcdjhlpadiaaOpenBB
namespace Go.Proofs.Ytlklcdjhlpadiaa.packPrefixes
open Go.ChangeShapes Go.WideShapes Go.ChangeAt Go.RowKit Go.Deep
open Go.ChangeMaps (open_string shut_string)
set_option linter.unusedVariables false

def cuts (lm : List (List UInt8)) (k : Nat) : List (List UInt8) := (lm.take k).map fun l => l.take 100
theorem cuts_succ (lm : List (List UInt8)) (k : Nat) (h : k < lm.length) : cuts lm (k + 1) = cuts lm k ++ [lm[k].take 100] := by
  rw [cuts, List.take_succ_eq_append_getElem h, List.map_append]; rfl
theorem cuts_mem (lm : List (List UInt8)) (k : Nat) : ∀ l ∈ cuts lm k, l.length ≤ 100 := fun l h => by
  obtain ⟨x, _, rfl⟩ := List.mem_map.1 h
  rw [List.length_take]; omega
theorem cuts_len (lm : List (List UInt8)) (k : Nat) (h : k ≤ lm.length) : (cuts lm k).length = k := by
  rw [cuts, List.length_map, List.length_take]; omega
theorem flatB_100 : ∀ (ll : List (List UInt8)), (∀ l ∈ ll, l.length ≤ 100) → (flatB ll).length ≤ 109 * ll.length
  | [], _ => by simp [flatB]
  | a :: ll, h => by
    have h1 := h a (by simp)
    have h2 := flatB_100 ll fun l hl => h l (by simp [hl])
    have h3 := numB_length a.length
    rw [flatB_cons]
    simp only [partB, List.length_append, List.length_cons]; omega

set_option maxRecDepth 100000 in
set_option maxHeartbeats 1000000 in
theorem walk {W : World} {v0 v1 : Value} {ll : List (List UInt8)} {mo : List UInt8} (h0 : RdBB W (fun k => k < W.heap.size) v0 ll) (hb : RdB W (fun k => k < W.heap.size) v1 mo)
    (hz : (ll.map fun l => l.length + 1).sum + mo.length ≤ 1048576) :
    Calls Try.prog 7 #[v0, v1] W fun e W' => e = .returned (.bool true) ∧ Chg Non W W' := by
  obtain ⟨A1, c1, rfl, hc1, hm1⟩ := h0.shape
  unfold maxLen at hm1
  have hmo : mo.length ≤ 1048576 := by omega
  clear hz
  obtain ⟨Am, cm, rfl, hcm, hmm⟩ := hb.shape
  unfold maxLen at hmm
  go_enter Try.func7, Try.ntmps7
  go_wp2_with fail
  refine awake01.mono ?_
  rintro e w1 ⟨rfl, g1⟩
  have h1 := h0.c0 g1
  obtain ⟨m, n, hn, hn8, hmr, hgt⟩ : ∃ (m : List (List UInt8)) (n : Nat), (m.length ≤ n ∧ n ≤ m.length ∧ m.length ≤ ll.length) ∧ m.length ≤ 20 ∧ RdBB w1 (fun k => k < W.heap.size) (.slice A1 n c1) m ∧ ((n = 20 ∧ 20 < ll.length) ∨ (n = ll.length ∧ ¬ 20 < ll.length)) := by
    by_cases h4 : 20 < ll.length
    · exact ⟨ll.take 20, 20, ⟨by simp; omega, by simp; omega, by rw [List.length_take]; omega⟩, by simp; omega, RdBB.front h1 (by omega), .inl ⟨rfl, h4⟩⟩
    · exact ⟨ll, ll.length, ⟨Nat.le_refl _, Nat.le_refl _, Nat.le_refl _⟩, by omega, h1, .inr ⟨rfl, h4⟩⟩
  clear h0 h1
  rcases hgt with ⟨rfl, h4⟩ | ⟨rfl, h4⟩
  case' inl => have hdec : decide ((20 : Int) < (ll.length : Int)) = true := decide_eq_true (by omega)
  case' inr => have hdec : decide ((20 : Int) < (ll.length : Int)) = false := decide_eq_false (by omega)
  all_goals
    go_wp2_with fail
    go_loopw [5, 23] (fun sv iv wr => ∃ (k : Nat), k ≤ m.length ∧ iv = .int .i64 k ∧ OwnBB wr W.heap.size (fun b => b < W.heap.size) sv (cuts m k) ∧ RdBB wr (fun k => k < W.heap.size) _ m ∧ Chg Non W wr) (fun _ iv _ => m.length - (intOf iv).toNat)
    case atStart => exact ⟨0, by omega, rfl, OwnBB.nil_ _ _ _, hmr, g1⟩
    case round =>
      clear hmr g1
      obtain ⟨k, hk, rfl, hO, hr, hcw⟩ := hrel
      by_cases h5 : k < m.length
      · obtain ⟨ad, p, rfl, hadF, hp, hrp⟩ := hr.at_ h5
        have HS := hide (cuts_succ m k h5)
        have hkl := cuts_len m k (by omega)
        obtain ⟨q, hq⟩ : ∃ q, q = m[k] := ⟨_, rfl⟩
        rw [← hq] at hrp HS
        have hdl : (cuts m k).length + 1 ≤ 1000000000000 := by omega
        have hkd : decide ((k : Int) < 20) = true := decide_eq_true (by omega)
        have hkd2 : decide ((k : Int) < (ll.length : Int)) = true := decide_eq_true (by omega)
        clear hq hkl
        obtain ⟨P, cp, rfl, hcp, hmp⟩ := hrp.shape
        unfold maxLen at hmp
        have hrowO : ∀ b, u5.ownBlock = some b → W.heap.size ≤ b := fun b hb => (hO.lt b hb).1
        have hsz := hcw.size
        by_cases h6 : 100 < q.length
        · have hcut := hrp.front (j := 100) (by omega)
          have hO2 := hO.al (.cells #[.slice P 100 cp] 22)
          have hblk := Blk.new wr 22 #[.slice P 100 cp]
          have hcw2 := hcw.alloc (.cells #[.slice P 100 cp] 22)
          have hsz2 := hcw2.size
          have hsv2 := (hcut.al (.cells #[.slice P 100 cp] 22)).mono (F' := fun b => b < W.heap.size ∧ b < (wr.alloc (.cells #[.slice P 100 cp] 22)).heap.size ∧ u5.ownBlock ≠ some b) fun b hb => ⟨hb, by omega, fun e => by have := hrowO b e; omega⟩
          have hr2 := hr.al (.cells #[.slice P 100 cp] 22)
          clear hcut hO hrp hr hcw
          go_wp2_with (at_builtin; refine append_BB rfl _ _ rfl hO2 rfl hsv2 hblk rfl hdl hsz2 ?_; intro v5 w5 hO5 hg5 hat5)
          have hr5 := hr2.chg (Chg.of_grown hg5) fun b hb e => by have := hrowO b e.symm; omega
          have hcw5 := hcw2.grown hg5 fun b hb hlt => by have := hrowO b hb; omega
          rw [← HS.out] at hO5
          go_round
          case rel => exact ⟨k + 1, by omega, by go_num, hO5, hr5, hcw5⟩
          case measure => simp [intOf]; omega
        · have hcut : RdB wr (fun k => k < W.heap.size) (.slice P q.length cp) (q.take 100) := by rw [List.take_of_length_le (by omega)]; exact hrp
          have hO2 := hO.al (.cells #[.slice P q.length cp] 22)
          have hblk := Blk.new wr 22 #[.slice P q.length cp]
          have hcw2 := hcw.alloc (.cells #[.slice P q.length cp] 22)
          have hsz2 := hcw2.size
          have hsv2 := (hcut.al (.cells #[.slice P q.length cp] 22)).mono (F' := fun b => b < W.heap.size ∧ b < (wr.alloc (.cells #[.slice P q.length cp] 22)).heap.size ∧ u5.ownBlock ≠ some b) fun b hb => ⟨hb, by omega, fun e => by have := hrowO b e; omega⟩
          have hr2 := hr.al (.cells #[.slice P q.length cp] 22)
          clear hcut hO hrp hr hcw
          go_wp2_with (at_builtin; refine append_BB rfl _ _ rfl hO2 rfl hsv2 hblk rfl hdl hsz2 ?_; intro v5 w5 hO5 hg5 hat5)
          have hr5 := hr2.chg (Chg.of_grown hg5) fun b hb e => by have := hrowO b e.symm; omega
          have hcw5 := hcw2.grown hg5 fun b hb hlt => by have := hrowO b hb; omega
          rw [← HS.out] at hO5
          go_round
          case rel => exact ⟨k + 1, by omega, by go_num, hO5, hr5, hcw5⟩
          case measure => simp [intOf]; omega
      · obtain ⟨cs, hcs⟩ : ∃ cs, cs = cuts m k := ⟨_, rfl⟩
        have hcl : cs.length ≤ 20 := by rw [hcs, cuts_len m k hk]; omega
        have hfl := flatB_100 cs fun l hl => cuts_mem m k l (hcs ▸ hl)
        have hfit : Fits cs := ⟨by omega, fun l hl => by have := cuts_mem m k l (hcs ▸ hl); omega⟩
        rw [← hcs] at hO
        have hjl : (joinB cs).length ≤ 2200 := by have := numB_length cs.length; simp only [joinB, List.length_append]; omega
        have hkd1 : 20 ≤ m.length → decide ((k : Int) < 20) = false := fun h => decide_eq_false (by omega)
        have hkd2 : ll.length ≤ m.length → decide ((k : Int) < (ll.length : Int)) = false := fun h => decide_eq_false (by omega)
        first
          | have hkd3 := hkd1 hn.2.1
          | have hkd3 := hkd2 hn.2.1
        try have hkn1 : ¬ k < 20 := by have := hn.2.1; omega
        try have hkn2 : ¬ k < ll.length := by have := hn.2.1; omega
        have HSH := fun i hi => hide (splitB_short cs hfit i hi)
        have HJO := hide (splitB_joinB cs hfit mo)
        clear hkd1 hkd2 hcs hr h5 hfit hfl
        go_wp2_with fail
        refine (packJoin hO.rd (by omega)).mono ?_
        rintro e w2 ⟨j, rfl, hj, k2⟩
        have g2 := hcw.trans0 k2
        have hszW := hcw.size
        obtain ⟨J, cj, rfl, hcj, hmj⟩ := hj.shape
        unfold maxLen at hmj
        obtain ⟨js, hjs⟩ : ∃ js, js = joinB cs := ⟨_, rfl⟩
        rw [← hjs] at HSH HJO hj hjl hcj
        rw [← hjs]
        have hjr := hj.rd.mono (F' := fun b => wr.heap.size ≤ b) fun b hb => (hj.lt b hb).1
        clear hjs hcw hO k2 hj
        go_wp2_with fail
        go_loopw [41] (fun iv wq => ∃ i : Nat, i ≤ js.length ∧ iv = .int .i64 i ∧ RdB wq (fun b => wr.heap.size ≤ b) (.slice J js.length cj) js ∧ Chg Non W wq) (fun iv _ => js.length - (intOf iv).toNat)
        case atStart => exact ⟨0, by omega, rfl, hjr, g2⟩
        case round =>
          clear hjr g2
          obtain ⟨i, hi, rfl, hjr, gq⟩ := hrel
          by_cases h7 : i < js.length
          · have hpr := hjr.front (j := i) (by omega)
            have hsp := packSplit hpr (by rw [List.length_take]; omega)
            rw [(HSH i h7).out] at hsp
            simp only at hsp
            clear hpr
            go_wp2_with fail
            refine hsp.mono ?_
            rintro e w5 ⟨x, rfl, hx, k5⟩
            obtain ⟨X, cx, rfl, _, _⟩ := hx.shape
            have hjr5 := hjr.c0 k5
            have gq5 := gq.trans0 k5
            go_wp2_with fail
            go_round
            case rel => exact ⟨i + 1, by omega, by go_num, hjr5, gq5⟩
            case measure => simp [intOf]; omega
          · have hlen : js.length + mo.length ≤ 140737488355328 := by omega
            clear HSH
            go_wp2_with fail
            refine (refCopy hjr (by omega)).mono ?_
            rintro e w5 ⟨u, rfl, hu, k5⟩
            have g5 := gq.trans0 k5
            have hb5 := hb.c0 g5
            have hsz5 := k5.size
            have hgq := gq.size
            clear hjr gq
            go_wp2_with (at_builtin; refine append_B rfl _ _ rfl hu rfl hb5 rfl hlen hsz5 ?_; intro v6 w6 hown6 hg6 hat6)
            have g6 := g5.own hg6 fun b hb => by have h1 := (hu.lt b hb).1; omega
            by_cases h8 : 0 < mo.length
            · rw [if_pos h8] at HJO
              have hsp := packSplit hown6.rd (by rw [List.length_append]; omega)
              rw [HJO.out] at hsp
              simp only at hsp
              have hd8 : decide ((0 : Int) < (mo.length : Int)) = true := decide_eq_true (by omega)
              clear hown6
              refine hsp.mono ?_
              rintro e w7 ⟨x, rfl, hx, k7⟩
              obtain ⟨X, cx, rfl, _, _⟩ := hx.shape
              go_wp2_with fail
              go_ret
              exact ⟨rfl, g6.trans0 k7⟩
            · rw [if_neg h8] at HJO
              have hsp := packSplit hown6.rd (by rw [List.length_append]; omega)
              rw [HJO.out] at hsp
              simp only at hsp
              have hd8 : mo.length = 0 := by omega
              have hd9 : decide ((0 : Int) < (mo.length : Int)) = false := decide_eq_false (by omega)
              clear hown6
              refine hsp.mono ?_
              rintro e w7 ⟨x, rfl, hx, k7⟩
              obtain ⟨X, cx, rfl, _, _⟩ := hx.shape
              go_wp2_with fail
              go_ret
              exact ⟨rfl, g6.trans0 k7⟩

set_option maxRecDepth 100000 in
theorem contract (H : Type) (enc : TypeId × Value → H) (W : World) (base : Nat) (args : Array Value) (ds gs : List (DataW H)) (before : List MemPlace)
    (hval : ∀ (j : Nat) t v, Try.f7.params[j]? = some t → args[j]? = some v → Value.okWide Try.prog W .any base t v)
    (hW : DataW.Whole enc Try.prog Try.f7.params.toList Rows.packPrefixesSpec.vars false W args.toList ds gs before) (hk : Rows.uptoSmall H (ds ++ gs) = true) :
    Calls Try.prog 7 args W fun e W' => ∃ v, e = .returned v ∧ Rows.packPrefixesSpec.post enc Try.prog Try.f7 false true false false W args v W' := by
  have hW' := hW
  obtain ⟨p, q, hA0, hV, rfl, hfz, hnd⟩ := hW
  have hA : DataW.TrodAll enc Try.prog W 0 (fun _ => true) true Try.f7.params.toList args.toList ds p := hA0
  rw [Try.params7] at hA hval
  obtain ⟨v0, vs0, d0, ds0, p0, q0, hargs, rfl, rfl, h0, r0⟩ := trodAll_cons hA
  obtain ⟨v1, vs1, d1, ds1, p1, q1, rfl, rfl, rfl, h1, r1⟩ := trodAll_cons r0
  obtain ⟨rfl, rfl, rfl⟩ := trodAll_nil r1
  obtain rfl : args = #[v0, v1] := by cases args; simp_all
  obtain ⟨rfl, rfl⟩ := trodVars_none hV
  have k0 := h0
  have lt0 : ∀ x ∈ p0, x.block < W.heap.size := by obtain ⟨m, hm⟩ := k0; exact DataW.trod_lt m _ _ _ hm
  obtain ⟨l0, w0, z0⟩ := openBB (hval 0 48 v0 rfl rfl) h0
  have k1 := h1
  have lt1 : ∀ x ∈ p1, x.block < W.heap.size := by obtain ⟨m, hm⟩ := k1; exact DataW.trod_lt m _ _ _ hm
  obtain ⟨l1, w1, z1⟩ := openB (hval 1 22 v1 rfl rfl) h1
  have hb := of_decide_eq_true hk
  simp only [List.append_nil, Rows.uptoBulkAll] at hb
  have z01 := z0.1
  have z11 := z1.1
  refine (walk w0 w1 (by omega)).mono fun e W' ⟨he, bel0⟩ => ?_
  have bel := bel0.below
  subst he
  exact ⟨_, rfl, _, _, _, [], _, [], hW', trodAll_mk1 (shut_bool Try.underlying4 _), (trodAll_cons_mk (Below.trod laidOut (by kernel_rfl) (of_decide_eq_true (by kernel_rfl)) k0 bel lt0) (trodAll_cons_mk (Below.trod laidOut (by kernel_rfl) (of_decide_eq_true (by kernel_rfl)) k1 bel lt1) trodAll_mk0)), rfl, bel.frame _, fun h => by cases h⟩

set_option maxRecDepth 100000 in
theorem lifted (os : Os) (started : os.Started) (H : Type) (enc : TypeId × Value → H) (F : Stop.Interp) :
    ReturnsInHanded {} Try.checked os 7 .any ((Rows.OpenSpec.upto Rows.packPrefixesSpec).pre6 enc Try.prog Try.f7 Rows.packPrefixesUptoRow.domain false) (((Rows.OpenSpec.upto Rows.packPrefixesSpec).at F).post enc Try.prog Try.f7 false true false false) := by
  refine returnsInHanded_of_cond (C := Try.checked) (s := Rows.OpenSpec.upto Rows.packPrefixesSpec) (k := Rows.uptoSmall) rfl own started (by kernel_rfl) Try.func7
    (OpenSpec.witness (enc := enc) (C := Try.checked) (s := Rows.OpenSpec.upto Rows.packPrefixesSpec) (k := Rows.uptoSmall) rfl false ⟨#[], #[.slice none 0 0, .slice none 0 0], []⟩ 8 (by kernel_rfl) (by kernel_rfl) (by kernel_rfl)
      (x := ([.nil, .nil], [], [])) (by kernel_rfl) rfl (by kernel_rfl)) ?_
  intro W base args ds gs before hval hW _ hk _
  exact contract H enc W base args ds gs before hval hW hk

theorem over : Rows.packPrefixesUptoRow.holds Try.pinned (Rows.OpenSpec.upto Rows.packPrefixesSpec) :=
  OpenClaim.holds_of_cond 7 Try.f7 rfl rfl rfl rfl rfl rfl rfl ⟨rfl, rfl, rfl, rfl, rfl⟩ rfl rfl rfl rfl rfl (by kernel_rfl) Try.func7 (by kernel_rfl)
    (of_decide_eq_true (by kernel_rfl)) (by unfold Func.isWrapper; first | (rw [if_pos (by decide +kernel)]; kernel_rfl) | (rw [if_neg (by decide +kernel)]; exact ⟨rfl, rfl⟩))
    (fun os started H enc _ F => lifted os started H enc F)

theorem proved : Rows.PackPrefixesUptoSaid := over
end Go.Proofs.Ytlklcdjhlpadiaa.packPrefixes
