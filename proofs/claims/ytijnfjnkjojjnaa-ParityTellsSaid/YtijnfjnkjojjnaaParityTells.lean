/- ParityTells: a cell of which up to four bytes were changed is told from a good one: for every input the statement's function answers true. No condition. -/
import Derived.Test.YtijnfjnkjojjnaaCut03
import Derived.Test.YtijnfjnkjojjnaaOpenC
import Derived.Deep.RegionLaw
namespace Go.Proofs.Ytijnfjnkjojjnaa.parityTells
open Go.ChangeShapes Go.WideShapes Go.ChangeAt Go.RowKit Go.Deep
open Go.ChangeMaps (open_string shut_string)
set_option linter.unusedVariables false

set_option maxRecDepth 100000 in
set_option maxHeartbeats 1000000 in
theorem walk {W : World} {v0 v1 : Value} {b0 : List UInt8} {l : List (Int × UInt8)} (hb : RdB W (fun k => k < W.heap.size) v0 b0) (hl : RdC W (fun k => k < W.heap.size) v1 l) (sb : b0.length ≤ reachBytes) (sl : l.length ≤ reachBytes) :
    Calls Try.prog 5 #[v0, v1] W fun e W' => e = .returned (.bool true) ∧ Chg Non W W' := by
  obtain ⟨A1, c1, rfl, hc1, hm1⟩ := hl.shape
  unfold maxLen at hm1
  go_enter Try.func5, Try.ntmps5
  go_wp2_with fail
  refine awake03.mono ?_
  rintro e w1 ⟨rfl, g1⟩
  go_wp2_with fail
  refine (lawCut (n := 251) (hb.c0 g1) (by omega)).mono ?_
  rintro e w' ⟨u, rfl, hbu, rfl⟩
  obtain ⟨b, hbe⟩ : ∃ b, b = b0.take 251 := ⟨_, rfl⟩
  have hb251 : b.length ≤ 251 := by rw [hbe, List.length_take]; omega
  rw [← hbe] at hbu
  clear hbe
  obtain ⟨Ab, cb, rfl, hcb, hmb⟩ := hbu.shape
  go_wp2_with fail
  refine (parityCheck (RdBB.one hbu 26)).mono ?_
  rintro e w2 ⟨rfl, g2⟩
  simp only [List.flatten_cons, List.flatten_nil, List.append_nil]
  obtain ⟨q, hq⟩ : ∃ q, q = chk b := ⟨_, rfl⟩
  have HQ := hide hq
  rw [← hq]
  clear hq
  simp only [qv, bv]
  go_wp2_with fail
  have hs4 := fun w => slice_arr4 w w2.heap.size
  have hA4 : RdB (w2.alloc (.cells #[bv q.1, bv q.2.1, bv q.2.2.1, bv q.2.2.2] 28)) (fun k => k = w2.heap.size) (.slice (some ⟨w2.heap.size, 0, none⟩) 4 4) (qlist q) :=
    RdB.lit w2 28 (0, 0) _ (qlist q) 4 rfl rfl (by simp [maxLen])
  have g3 := ((g1.alloc (.cells #[.slice Ab b.length cb] 26)).trans0 g2).alloc (.cells #[bv q.1, bv q.2.1, bv q.2.2.1, bv q.2.2.2] 28)
  have hbu3 := ((hbu.al (.cells #[.slice Ab b.length cb] 26)).c0 g2).al (.cells #[bv q.1, bv q.2.1, bv q.2.2.1, bv q.2.2.2] 28)
  simp only [bv] at hA4 g3 hbu3
  generalize w2.alloc (.cells #[.int .u8 (q.1.toNat : Int), .int .u8 (q.2.1.toNat : Int), .int .u8 (q.2.2.1.toNat : Int), .int .u8 (q.2.2.2.toNat : Int)] 28) = w3 at hA4 g3 hbu3 ⊢
  generalize w2.heap.size = g at hs4 hA4 ⊢
  clear g1 g2 hbu
  have hb47 : b.length ≤ 140737488355328 := by omega
  have hlen : b.length + (qlist q).length ≤ 140737488355328 := by simp [qlist, ql]; omega
  go_region_law (first
    | (refine step_B rfl _ _ rfl hu rfl (hA4.dr.c0 hcg) rfl hlen hcg.size ?_; intro v' wx hown hgr hat)
    | (go_simp; go_at_call 18; refine (refCopy hbu3.dr hb47).mono ?_; rintro e wc ⟨u, rfl, hu, hcg⟩))
  have gx := ((g3.drew).trans0 hcg).own hgr (fun k hk => by have h1 := (hu.lt k hk).1; have h2 := g3.size; exact Nat.le_trans h2 h1)
  have hown' : OwnB wx W.heap.size v' (b ++ qlist q) := hown.low g3.size
  obtain ⟨A2, c2, rfl, hc2, hm2⟩ := hown.shape
  have hlen2 : (b ++ qlist q).length = b.length + 4 := by simp [qlist, ql]
  clear hown hgr hat hu hcg hA4 hs4 hlen hb47 hbu3 g3
  obtain ⟨whole, hwh⟩ : ∃ whole, whole = b ++ qlist q := ⟨_, rfl⟩
  rw [← hwh] at hown' hc2 hlen2 ⊢
  have HWH := hide hwh
  clear hwh
  have HL2 := hide hlen2
  have hl255 : whole.length ≤ 255 := by omega
  have hl4 : 4 ≤ whole.length := by omega
  clear hlen2
  go_wp2_with fail
  refine (refCopy hown'.rd (by omega)).mono ?_
  rintro e wy ⟨t, rfl, ht, hcg⟩
  have gy := gx.trans0 hcg
  have hwy := hown'.chg hcg (fun _ _ h => h)
  have hty := ht.rd
  have hne : ∀ k, (Value.slice A2 whole.length c2).ownBlock = some k → ¬ t.ownBlock = some k := fun k hk htk => by
    have h1 := (hown'.lt k hk).2; have h2 := (ht.lt k htk).1; omega
  have HNE := hide hne
  clear hne ht hown' gx hcg
  obtain ⟨m, n, hmn, hmn2, hm4, hmr, hgt⟩ : ∃ (m : List (Int × UInt8)) (n : Nat), m.length ≤ n ∧ n ≤ m.length ∧ m.length ≤ 4 ∧ RdC W (fun k => k < W.heap.size) (.slice A1 n c1) m ∧ ((n = 4 ∧ 4 < l.length) ∨ (n = l.length ∧ ¬ 4 < l.length)) := by
    by_cases h4 : 4 < l.length
    · exact ⟨l.take 4, 4, by simp; omega, by simp; omega, by simp; omega, hl.front (by omega), .inl ⟨rfl, h4⟩⟩
    · exact ⟨l, l.length, Nat.le_refl _, Nat.le_refl _, by omega, hl, .inr ⟨rfl, h4⟩⟩
  rcases hgt with ⟨rfl, h4⟩ | ⟨rfl, h4⟩
  case' inl => have hdec : decide ((4 : Int) < (l.length : Int)) = true := decide_eq_true (by omega)
  case' inr => have hdec : decide ((4 : Int) < (l.length : Int)) = false := decide_eq_false (by omega)
  all_goals
    go_wp2_with fail
    go_loopw [31] (fun iv wr => ∃ (k : Nat) (cur : List UInt8), k ≤ m.length ∧ iv = .int .i64 k ∧ Hid (cur.length = whole.length) ∧ Hid (wt (xorL cur whole) ≤ k) ∧ OwnB wr W.heap.size (.slice A2 whole.length c2) cur ∧ RdB wr (fun k => t.ownBlock = some k) t whole ∧ Chg Non W wr) (fun iv _ => m.length - (intOf iv).toNat)
    case atStart => exact ⟨0, whole, by omega, rfl, hide rfl, hide (by rw [xorL_self]; omega), hwy, hty, gy⟩
    case round =>
      obtain ⟨k, cur, hk, rfl, hcl, hw, hcur, ht, gr⟩ := hrel
      by_cases h5 : k < m.length
      · obtain ⟨ad, rfl, _, hc1, hc2⟩ := (hmr.c0 gr).at_ h5
        obtain ⟨x, hx⟩ : ∃ x, x = m[k] := ⟨_, rfl⟩
        rw [← hx] at hc1 hc2
        rw [add_succ ad (k * 2) 1 (by omega)] at hc2
        clear hx
        obtain ⟨at_, by_⟩ := x
        obtain ⟨gw, rfl, hgw, hgw2⟩ := hcur.head (by have := hcl.out; omega)
        obtain ⟨r, hr⟩ : ∃ r, at_.tmod (whole.length : Int) = r := ⟨_, rfl⟩
        have hr1 : r < whole.length := by rw [← hr]; exact Int.tmod_lt_of_pos _ (by omega)
        have hr2 : -(whole.length : Int) < r := by
          have h := Int.tmod_lt_of_pos (-at_) (b := (whole.length : Int)) (by omega)
          rw [Int.neg_tmod, hr] at h; omega
        obtain ⟨i, hi⟩ : ∃ i : Nat, (if r < 0 then r + whole.length else r) = (i : Int) := ⟨(if r < 0 then r + whole.length else r).toNat, by split <;> omega⟩
        have hi2 : i < whole.length := by split at hi <;> omega
        obtain ⟨hci, hcf⟩ := hcur.cell (i := i) (by have := hcl.out; omega)
        obtain ⟨y, hy⟩ : ∃ y, y = cur[i]'(by have := hcl.out; omega) := ⟨_, rfl⟩
        rw [← hy] at hci
        have HY := hide hy
        clear hy
        have hxv := xorV y by_
        have hal := hcur.al (.cells #[.int .i64 at_, .int .u8 (by_.toNat : Int)] 37)
        obtain ⟨hca, hcaf⟩ := hal.cell (i := i) (by have := hcl.out; omega)
        rw [← HY.out] at hca
        have hxb : (wr.alloc (.cells #[.int .i64 at_, .int .u8 (by_.toNat : Int)] 37)).cell? ⟨wr.heap.size, 1, none⟩ = some (.int .u8 (by_.toNat : Int)) := (Blk.new wr 37 #[.int .i64 at_, .int .u8 (by_.toNat : Int)]).cell 1
        have hta := ht.al (.cells #[.int .i64 at_, .int .u8 (by_.toNat : Int)] 37)
        have gra := gr.alloc (.cells #[.int .i64 at_, .int .u8 (by_.toNat : Int)] 37)
        by_cases hneg : r < 0
        all_goals
          first | rw [if_pos hneg] at hi | rw [if_neg hneg] at hi
          have HN := hide hneg
          go_wp2_with fail
          generalize wr.alloc (.cells #[.int .i64 at_, .int .u8 (by_.toNat : Int)] 37) = wz at hal hca hcaf hxb hta gra ⊢
          go_region
          go_wp2_with fail
          all_goals
            have hst := (hal.stored i (y ^^^ by_)).dr
            have htt := (hta.chg ((Chg.refl (fun k => k = gw) wz).setCell (p := ⟨gw, i, none⟩) (fun _ => rfl) (.int .u8 ((y ^^^ by_).toNat : Int))) (fun k hk e => by subst e; exact HNE.out k rfl hk)).dr
            have hgg := (gra.setCell (p := ⟨gw, i, none⟩) (fun hlt => absurd hlt (by show ¬ gw < _; omega)) (.int .u8 ((y ^^^ by_).toNat : Int))).drew
            rw [UInt8.toNat_xor] at hst htt hgg
            have hend : ∃ (k1 : Nat) (cur1 : List UInt8), k1 ≤ m.length ∧ Value.int .i64 ((k : Int) + 1) = Value.int .i64 (k1 : Int) ∧ Hid (cur1.length = whole.length) ∧ Hid (wt (xorL cur1 whole) ≤ k1) ∧
                OwnB ((wz.setCell ⟨gw, i, none⟩ (.int .u8 ((y.toNat ^^^ by_.toNat : Nat) : Int))).drew) W.heap.size (.slice (some ⟨gw, 0, none⟩) whole.length c2) cur1 ∧
                RdB ((wz.setCell ⟨gw, i, none⟩ (.int .u8 ((y.toNat ^^^ by_.toNat : Nat) : Int))).drew) (fun k => t.ownBlock = some k) t whole ∧
                Chg Non W ((wz.setCell ⟨gw, i, none⟩ (.int .u8 ((y.toNat ^^^ by_.toNat : Nat) : Int))).drew) :=
              ⟨k + 1, cur.set i (y ^^^ by_), by omega, by go_num, hide (by rw [List.length_set]; exact hcl.out),
                hide (by rw [xorL_set _ _ _ _ hi2]; exact Nat.le_trans (wt_set _ _ _) (by have := hw.out; omega)), hst, htt, hgg⟩
            clear hst htt hgg
            refine ⟨?_, ?_⟩
            · first | exact hend | ((repeat apply Exists.intro); exact ⟨hend, rfl⟩)
            · simp [intOf]; omega
      · have hcur2 := hcur.rd
        have hgd : goodB cur = decide (cur = whole) := by
          have h1 := hcl.out
          have h2 := hw.out
          rw [HWH.out, HQ.out] at h1 h2 ⊢
          exact tells hb251 h1 (by show wt (xorL cur (b ++ qlist (chk b))) ≤ 4; omega)
        have HGD := hide hgd
        clear hgd
        go_wp2_with fail
        refine (parityGood hcur2).mono ?_
        rintro e wa ⟨rfl, ga⟩
        rw [HGD.out]
        obtain ⟨bl, hbl⟩ : ∃ bl, bl = decide (cur = whole) := ⟨_, rfl⟩
        have HBL := hide hbl
        rw [← hbl]
        clear hbl
        go_wp2_with fail
        refine (refEqual (hcur2.c0 ga) (ht.c0 ga)).mono ?_
        rintro e we ⟨rfl, hq⟩
        rw [← HBL.out]
        go_wp2_with fail
        go_ret
        exact ⟨ret_bool (by cases bl <;> rfl), (gr.trans0 ga).quiet hq⟩

set_option maxRecDepth 100000 in
theorem contract (H : Type) (enc : TypeId × Value → H) (W : World) (base : Nat) (args : Array Value) (ds gs : List (DataW H)) (before : List MemPlace)
    (hval : ∀ (j : Nat) t v, Try.f5.params[j]? = some t → args[j]? = some v → Value.okWide Try.prog W .any base t v)
    (hW : DataW.Whole enc Try.prog Try.f5.params.toList Rows.parityTellsSpec.vars false W args.toList ds gs before) (hsz : (DataW.weightsEach Try.prog (Try.f5.params.toList ++ Rows.parityTellsSpec.plain.varTypes Try.prog) (ds ++ gs)).all (· ≤ reachBytes) = true) :
    Calls Try.prog 5 args W fun e W' => ∃ v, e = .returned v ∧ Rows.parityTellsSpec.post enc Try.prog Try.f5 false true false false W args v W' := by
  have hW' := hW
  obtain ⟨p, q, hA0, hV, rfl, hfz, hnd⟩ := hW
  have hA : DataW.TrodAll enc Try.prog W 0 (fun _ => true) true Try.f5.params.toList args.toList ds p := hA0
  rw [Try.params5] at hA hval hsz
  obtain ⟨v0, vs0, d0, ds0, p0, q0, hargs, rfl, rfl, h0, r0⟩ := trodAll_cons hA
  obtain ⟨v1, vs1, d1, ds1, p1, q1, rfl, rfl, rfl, h1, r1⟩ := trodAll_cons r0
  obtain ⟨rfl, rfl, rfl⟩ := trodAll_nil r1
  obtain rfl : args = #[v0, v1] := by cases args; simp_all
  obtain ⟨rfl, rfl⟩ := trodVars_none hV
  have k0 := h0
  have lt0 : ∀ x ∈ p0, x.block < W.heap.size := by obtain ⟨m, hm⟩ := k0; exact DataW.trod_lt m _ _ _ hm
  obtain ⟨l0, w0, z0⟩ := openB (hval 0 26 v0 rfl rfl) h0
  have s0 : l0.length ≤ reachBytes := z0.2 _ fun e s he => by
    have := sized_slice hsz (j := 0) rfl (by rw [he]; rfl) Try.underlying26
    exact Nat.le_trans (Nat.le_mul_of_pos_right _ (of_decide_eq_true (by kernel_rfl))) this
  have k1 := h1
  have lt1 : ∀ x ∈ p1, x.block < W.heap.size := by obtain ⟨m, hm⟩ := k1; exact DataW.trod_lt m _ _ _ hm
  obtain ⟨l1, w1, z1⟩ := openC (hval 1 35 v1 rfl rfl) h1
  have s1 : l1.length ≤ reachBytes := z1.2 _ fun e s he => by
    have := sized_slice hsz (j := 1) rfl (by rw [he]; rfl) Try.underlying35
    exact Nat.le_trans (Nat.le_mul_of_pos_right _ (of_decide_eq_true (by kernel_rfl))) this
  refine (walk w0 w1 s0 s1).mono fun e W' ⟨he, bel0⟩ => ?_
  have bel := bel0.below
  subst he
  exact ⟨_, rfl, _, _, _, [], _, [], hW', trodAll_mk1 (shut_bool Try.underlying4 _), (trodAll_cons_mk (Below.trod laidOut (by kernel_rfl) (of_decide_eq_true (by kernel_rfl)) k0 bel lt0) (trodAll_cons_mk (Below.trod laidOut (by kernel_rfl) (of_decide_eq_true (by kernel_rfl)) k1 bel lt1) trodAll_mk0)), rfl, bel.frame _, fun h => by cases h⟩

set_option maxRecDepth 100000 in
theorem lifted (os : Os) (started : os.Started) (H : Type) (enc : TypeId × Value → H) :
    ReturnsInHanded {} Try.checked os 5 .any (Rows.parityTellsSpec.pre6 enc Try.prog Try.f5 Rows.parityTellsRow.domain false) (Rows.parityTellsSpec.post enc Try.prog Try.f5 false true false false) := by
  refine returnsInHanded_of_change_sized (C := Try.checked) own started (by kernel_rfl) Try.func5
    (ChangeSpec.witness6 (enc := enc) (C := Try.checked) false ⟨#[], #[.slice none 0 0, .slice none 0 0], []⟩ 8 (by kernel_rfl) (by kernel_rfl) (by kernel_rfl) (by kernel_rfl)) ?_
  intro W base args ds gs before hval hW _ hsz _
  exact contract H enc W base args ds gs before hval hW hsz

theorem over : Rows.parityTellsRow.holds Try.pinned (OpenSpec.ofChange Rows.parityTellsSpec) :=
  OpenClaim.holds_of_wide 5 Try.f5 rfl rfl rfl rfl rfl rfl rfl ⟨rfl, rfl, rfl, rfl, rfl⟩ rfl rfl rfl rfl rfl (by kernel_rfl) Try.func5 (by kernel_rfl)
    (of_decide_eq_true (by kernel_rfl)) (by unfold Func.isWrapper; first | (rw [if_pos (by decide +kernel)]; kernel_rfl) | (rw [if_neg (by decide +kernel)]; exact ⟨rfl, rfl⟩))
    (fun os started H enc _ => lifted os started H enc)

theorem proved : Rows.ParityTellsSaid := over
end Go.Proofs.Ytijnfjnkjojjnaa.parityTells
