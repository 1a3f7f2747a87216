/- RpcTells: a packet of which up to four bytes were changed, or that was cut, isn't read: for every input within the statement's size the statement's function answers true. -/
import Derived.Test.YtncchbcoldgpbaaSentX
import Derived.Test.YtncchbcoldgpbaaOpenCh
import Derived.Test.YtncchbcoldgpbaaNear
import Derived.Test.YtncchbcoldgpbaaRvF
import Derived.Test.YtncchbcoldgpbaaClM
namespace Go.Proofs.Ytncchbcoldgpbaa.rpcTells
open Go.ChangeShapes Go.WideShapes Go.ChangeAt Go.RowKit Go.Deep
set_option linter.unusedVariables false
set_option linter.unusedSimpArgs false

theorem read_tells {v : Value} {b y : List UInt8} {F : Nat → Prop} {w : World} {c0 : PktT} (hr : RdB w F v b) (hl : b.length ≤ 100000000) (hy : y = sealB (EPkt c0)) (hlen : (EPkt c0).length ≤ 1048576) (hD : DPkt c0) (hnear : ∀ c : List UInt8, c.length ≤ 1048576 → b = sealB c → b = y) :
    Calls Try.prog 10 #[v] w fun e w' => Chg Non w w' ∧ ∃ (arr : Array Value) (er : Int), e = .returned (.tuple #[.agg arr, .int .i64 er]) ∧ (er = 0 ↔ b = y) := by
  refine (rpcRead hr hl).mono ?_
  rintro e w' ⟨hc, h⟩
  rcases h with ⟨fr, tt, p, q1, q2, q3, rfl, _, _, hb, hbl⟩ | ⟨er, her, rfl, hno⟩
  · exact ⟨hc, _, 0, rfl, fun _ => hnear _ hbl hb, fun _ => rfl⟩
  · exact ⟨hc, _, er, rfl, fun h => absurd h her, fun h => absurd (h.trans hy) (hno c0 hD hlen)⟩
set_option maxHeartbeats 16000000 in
set_option maxRecDepth 100000 in
theorem walk {W : World} {x0 : SenS} {va vb vc vd ve v1 : Value} {l : List (Int × UInt8)} {d : Int} (wf0 : SenWf x0) (hl : RdC W (fun k => k < W.heap.size) v1 l) (wd : (Lit.int .i64 d).wf = true) (hS : SenRd W (fun k => k < W.heap.size) x0 va vb vc vd ve ∧ SenZ x0) (sl : l.length ≤ 1048576) :
    Calls Try.prog 4 #[.agg (senA x0 va vb vc vd ve), v1, .int .i64 d] W fun e W' => e = .returned (.bool true) ∧ Chg Non W W' := by
  obtain ⟨A1, c1, rfl, hc1, hm1⟩ := hl.shape
  unfold maxLen at hm1
  obtain ⟨hR, z0⟩ := hS
  have HWF := hide (And.intro wf0 (And.intro z0 hR))
  clear wf0 z0
  have hX := Blk.new W 36 (senA x0 va vb vc vd ve)
  have hcA := (Chg.refl Non W).alloc (.cells (senA x0 va vb vc vd ve) 36)
  go_enter Try.func4, Try.ntmps4
  go_upto_region 1 with fail
  obtain ⟨p, hp⟩ : ∃ p, p = W.heap.size := ⟨_, rfl⟩
  rw [← hp] at hX ⊢
  have HP := hide hp
  clear hp
  generalize hw0 : World.alloc W _ = w0
  rw [show W.alloc (.cells (senA x0 va vb vc vd ve) 36) = w0 from hw0] at hX hcA
  clear hw0
  go_upto_region 3 with (go_at_call 6; refine awake23.mono ?_; rintro e w1 ⟨rfl, g1⟩)
  have hX1 := hX.c0 g1
  have hR1 := HWF.out.2.2.c0 (hcA.trans0 g1)
  have hg1 := hcA.trans0 g1
  have hs1 := senA_size x0 va vb vc vd ve
  clear hX hcA g1 hR
  go_upto_region 4 with (first
    | (refine wpList_load_row rfl 36 (.tmp 3) rfl p rfl 36 (senA x0 va vb vc vd ve) (0, 0) _ hX1 Try.underlying36 rfl (by rw [hs1]; exact info_sen) ?_)
    | (go_at_call 7; refine (sentLight hR1).mono ?_; rintro e w2 ⟨va', vb', vc', rfl, hR2, hc2⟩)
    | (go_at_call 8; refine (senPacket hR2 (fun k hk => by have := hg1.size; have := hc2.size; omega)).mono ?_; rintro e w3 ⟨G, o1, o2, n1, n2, n3, u4, u5, rfl, hA, hN, hC, hG, hc3⟩)
    | (go_at_call 9; refine (sentBytes hA hN hC (fun k hk => (hG k hk).2) (lightWf HWF.out.1) (lightZ HWF.out.2.1)).mono ?_; rintro e w4 ⟨hc4, v', er, y, rfl, hv, hcase⟩))
  have hg4 := ((hg1.trans0 hc2).trans0 hc3).trans0 hc4
  have hl4 := hl.c0 hg4
  have hvw : OwnB w4 W.heap.size v' y := hv.low (by have := hg1.size; have := hc2.size; have := hc3.size; omega)
  have hD := hide (fun h1 h2 => payS_D (lightWf HWF.out.1) (lightZ HWF.out.2.1) (x := lightS x0) h1 h2)
  clear hX1 hR1 hg1 hR2 hc2 hA hN hC hG hc3 hc4 hv
  obtain ⟨x, hx⟩ : ∃ x, x = lightS x0 := ⟨_, rfl⟩
  rw [← hx] at hcase hD
  have HLW := hide hl
  clear hx HWF hl
  rcases hcase with ⟨hk, rfl, rfl⟩ | ⟨hk, rfl, rfl, hlen⟩ | ⟨hk, rfl, hy, hlen⟩
  · go_wp2_with fail
    go_ret
    exact ⟨rfl, hg4⟩
  · go_wp2_with fail
    go_ret
    exact ⟨rfl, hg4⟩
  have HY := hide hy
  have HL := hide hlen
  have HK := hide hk
  have hyl : y.length = 8 + (pktB x.fr x.tt (payS x)).length + 4 * (((pktB x.fr x.tt (payS x)).length + 250) / 251) := by rw [hy, sealB_length]
  have hy8 : 8 ≤ y.length := by omega
  have hym : y.length ≤ 2000000 := by omega
  clear hy hlen hk hyl
  obtain ⟨A2, c2, rfl, hc2, hm2⟩ := hvw.shape
  go_upto_region 7 with (go_at_call 12; refine (refCopy hvw.rd (by omega)).mono ?_; rintro e w5 ⟨t, rfl, ht, hcg⟩)
  have hg5 := hg4.trans0 hcg
  have hl5 := hl4.c0 hcg
  have hw5 := hvw.chg hcg (fun _ _ h => h)
  have ht5 := ht.rd
  have hne : ∀ k, (Value.slice A2 y.length c2).ownBlock = some k → ¬ t.ownBlock = some k := fun k hk htk => by
    have h1 := (hvw.lt k hk).2; have h2 := (ht.lt k htk).1; omega
  have HNE := hide hne
  clear hne ht hvw hcg hl4 hg4
  go_wp2_with fail
  go_loopw [10, 11] (fun iv av wr => ∃ (k : Nat) (cur : List UInt8), k ≤ l.length ∧ k ≤ 4 ∧ iv = .int .i64 k ∧ Hid (cur.length = y.length) ∧ Hid (wt (xorL cur y) ≤ k) ∧ OwnB wr W.heap.size (.slice A2 y.length c2) cur ∧ RdB wr (fun k => t.ownBlock = some k) t y ∧ Chg Non W wr) (fun iv _ _ => l.length - (intOf iv).toNat)
  case atStart => exact ⟨0, y, by omega, by omega, rfl, hide rfl, hide (by rw [xorL_self]; omega), hw5, ht5, hg5⟩
  case round =>
    clear hw5 ht5 hg5 hl5
    obtain ⟨k, cur, hk, hk4, rfl, hcl, hw, hcur, ht, gr⟩ := hrel
    by_cases h5 : k < l.length
    · by_cases h6 : k < 4
      · have hlr : RdC wr (fun k => k < W.heap.size) (.slice A1 l.length c1) l := HLW.out.c0 gr
        obtain ⟨ad, rfl, _, hc1', hc2'⟩ := hlr.at_ h5
        obtain ⟨xx, hxx⟩ : ∃ xx, xx = l[k] := ⟨_, rfl⟩
        rw [← hxx] at hc1' hc2'
        rw [add_succ ad (k * 2) 1 (by omega)] at hc2'
        clear hxx
        obtain ⟨at_, by_⟩ := xx
        obtain ⟨gw, rfl, hgw, hgw2⟩ := hcur.head (by have := hcl.out; omega)
        obtain ⟨r, hr⟩ : ∃ r, at_.tmod (y.length : Int) = r := ⟨_, rfl⟩
        have hr1 : r < y.length := by rw [← hr]; exact Int.tmod_lt_of_pos _ (by omega)
        have hr2 : -(y.length : Int) < r := by
          have h := Int.tmod_lt_of_pos (-at_) (b := (y.length : Int)) (by omega)
          rw [Int.neg_tmod, hr] at h; omega
        obtain ⟨i, hi⟩ : ∃ i : Nat, (if r < 0 then r + y.length else r) = (i : Int) := ⟨(if r < 0 then r + y.length else r).toNat, by split <;> omega⟩
        have hi2 : i < y.length := by split at hi <;> omega
        obtain ⟨hci, hcf⟩ := hcur.cell (i := i) (by have := hcl.out; omega)
        obtain ⟨yy, hy⟩ : ∃ yy, yy = cur[i]'(by have := hcl.out; omega) := ⟨_, rfl⟩
        rw [← hy] at hci
        have HYY := hide hy
        clear hy
        have hxv := xorV yy by_
        by_cases hneg : r < 0
        all_goals
          first | rw [if_pos hneg] at hi | rw [if_neg hneg] at hi
          have HN := hide hneg
          go_upto_region 13 with fail
          go_region
          go_wp2_with fail
          all_goals
            have hst := (hcur.stored i (yy ^^^ by_)).dr
            have htt := (ht.chg ((Chg.refl (fun k => k = gw) wr).setCell (p := ⟨gw, i, none⟩) (fun _ => rfl) (.int .u8 ((yy ^^^ by_).toNat : Int))) (fun k hk e => by subst e; exact HNE.out k rfl hk)).dr
            have hgg := (gr.setCell (p := ⟨gw, i, none⟩) (fun hlt => absurd hlt (by show ¬ gw < _; omega)) (.int .u8 ((yy ^^^ by_).toNat : Int))).drew
            rw [UInt8.toNat_xor] at hst htt hgg
            have hend : ∃ (k1 : Nat) (cur1 : List UInt8), k1 ≤ l.length ∧ k1 ≤ 4 ∧ Value.int .i64 ((k : Int) + 1) = Value.int .i64 (k1 : Int) ∧ Hid (cur1.length = y.length) ∧ Hid (wt (xorL cur1 y) ≤ k1) ∧
                OwnB ((wr.setCell ⟨gw, i, none⟩ (.int .u8 ((yy.toNat ^^^ by_.toNat : Nat) : Int))).drew) W.heap.size (.slice (some ⟨gw, 0, none⟩) y.length c2) cur1 ∧
                RdB ((wr.setCell ⟨gw, i, none⟩ (.int .u8 ((yy.toNat ^^^ by_.toNat : Nat) : Int))).drew) (fun k => t.ownBlock = some k) t y ∧
                Chg Non W ((wr.setCell ⟨gw, i, none⟩ (.int .u8 ((yy.toNat ^^^ by_.toNat : Nat) : Int))).drew) :=
              ⟨k + 1, cur.set i (yy ^^^ by_), by omega, by omega, by go_num, hide (by rw [List.length_set]; exact hcl.out),
                hide (by rw [xorL_set _ _ _ _ hi2]; exact Nat.le_trans (wt_set _ _ _) (by have := hw.out; omega)), hst, htt, hgg⟩
            clear hst htt hgg
            refine ⟨?_, ?_⟩
            · first | exact hend | ((repeat apply Exists.intro); exact ⟨hend, rfl⟩)
            · simp [intOf]; omega
      · have h6d : decide ((k : Int) < 4) = false := decide_eq_false (by omega)
        have HOUT := hide (And.intro hcl.out (show wt (xorL cur y) ≤ 4 by have := hw.out; omega))
        clear hcl hw hk hk4
        go_upto_region 14 with fail
        by_cases hd0 : 0 < d
        · have hd0d : decide ((0 : Int) < d) = true := decide_eq_true hd0
          by_cases hd1 : d ≤ (y.length : Int)
          · have hd1d : decide (d ≤ (y.length : Int)) = true := decide_eq_true hd1
            obtain ⟨m, hm⟩ : ∃ m : Nat, (y.length : Int) - d = (m : Int) := ⟨((y.length : Int) - d).toNat, by omega⟩
            have hmy : m ≤ y.length := by omega
            have hmc : (m : Int) ≤ (c2 : Int) := by omega
            have hmc2 : m ≤ c2 := by omega
            go_upto_region 16 with fail
            clear hm hd0d hd1d hmc hmc2
            have hqm := hcur.rd.front (j := m) (by have := HOUT.out.1; omega)
            have hq : RdB wr (fun k => (Value.slice A2 y.length c2).ownBlock = some k) (.slice A2 m c2) (cur.take m) := hqm
            have hql : (cur.take m).length ≤ 100000000 := by rw [List.length_take]; have := HOUT.out.1; omega
            have HT := hide (fun (w' : World) (v' : Value) (F' : Nat → Prop) (hr : RdB w' F' v' (cur.take m)) => read_tells (y := y) (c0 := (x.fr, x.tt, payS x)) hr hql HY.out HL.out (hD.out HK.out.1 HK.out.2) (fun c hc he => by
              have h := seal_near HL.out hc (by rw [← HY.out]; exact HOUT.out.1) (by rw [← HY.out]; exact HOUT.out.2) he
              exact h.trans HY.out.symm))
            clear hqm hql
            go_upto_region 17 with (go_at_call 10; refine (HT.out _ _ _ hq).mono ?_; rintro e w6 ⟨hc6, arr, er, rfl, hiff⟩)
            by_cases he : er = 0
            · subst he
              have hdec : decide (cur.take m = y) = true := decide_eq_true (hiff.1 rfl)
              have HDEC := hide hdec
              clear hiff hdec
              go_wp2_with (go_at_call 13; refine (refEqual (hq.c0 hc6) (ht.c0 hc6)).mono ?_; rintro e w7 ⟨rfl, hq7⟩; rw [HDEC.out])
              go_ret
              exact ⟨rfl, (gr.trans0 hc6).quiet hq7⟩
            · have hdec : decide (cur.take m = y) = false := decide_eq_false fun h => he (hiff.2 h)
              have HDEC := hide hdec
              have heb : (er == 0) = false := beq_eq_false_iff_ne.2 he
              clear hiff hdec
              go_wp2_with (go_at_call 13; refine (refEqual (hq.c0 hc6) (ht.c0 hc6)).mono ?_; rintro e w7 ⟨rfl, hq7⟩; rw [HDEC.out])
              go_ret
              exact ⟨rfl, (gr.trans0 hc6).quiet hq7⟩
          · have hd1d : decide (d ≤ (y.length : Int)) = false := decide_eq_false hd1
            go_upto_region 16 with fail
            clear hd0d hd1d
            have hqm := (show RdB wr (fun k => (Value.slice A2 y.length c2).ownBlock = some k) (.slice A2 y.length c2) (cur.take y.length) from by have h := hcur.rd; rw [List.take_of_length_le (by have := HOUT.out.1; omega)]; exact h)
            have hq : RdB wr (fun k => (Value.slice A2 y.length c2).ownBlock = some k) (.slice A2 y.length c2) (cur.take y.length) := hqm
            have hql : (cur.take y.length).length ≤ 100000000 := by rw [List.length_take]; have := HOUT.out.1; omega
            have HT := hide (fun (w' : World) (v' : Value) (F' : Nat → Prop) (hr : RdB w' F' v' (cur.take y.length)) => read_tells (y := y) (c0 := (x.fr, x.tt, payS x)) hr hql HY.out HL.out (hD.out HK.out.1 HK.out.2) (fun c hc he => by
              have h := seal_near HL.out hc (by rw [← HY.out]; exact HOUT.out.1) (by rw [← HY.out]; exact HOUT.out.2) he
              exact h.trans HY.out.symm))
            clear hqm hql
            go_upto_region 17 with (go_at_call 10; refine (HT.out _ _ _ hq).mono ?_; rintro e w6 ⟨hc6, arr, er, rfl, hiff⟩)
            by_cases he : er = 0
            · subst he
              have hdec : decide (cur.take y.length = y) = true := decide_eq_true (hiff.1 rfl)
              have HDEC := hide hdec
              clear hiff hdec
              go_wp2_with (go_at_call 13; refine (refEqual (hq.c0 hc6) (ht.c0 hc6)).mono ?_; rintro e w7 ⟨rfl, hq7⟩; rw [HDEC.out])
              go_ret
              exact ⟨rfl, (gr.trans0 hc6).quiet hq7⟩
            · have hdec : decide (cur.take y.length = y) = false := decide_eq_false fun h => he (hiff.2 h)
              have HDEC := hide hdec
              have heb : (er == 0) = false := beq_eq_false_iff_ne.2 he
              clear hiff hdec
              go_wp2_with (go_at_call 13; refine (refEqual (hq.c0 hc6) (ht.c0 hc6)).mono ?_; rintro e w7 ⟨rfl, hq7⟩; rw [HDEC.out])
              go_ret
              exact ⟨rfl, (gr.trans0 hc6).quiet hq7⟩
        · have hd0d : decide ((0 : Int) < d) = false := decide_eq_false hd0
          go_upto_region 16 with fail
          clear hd0d
          have hqm := (show RdB wr (fun k => (Value.slice A2 y.length c2).ownBlock = some k) (.slice A2 y.length c2) (cur.take y.length) from by have h := hcur.rd; rw [List.take_of_length_le (by have := HOUT.out.1; omega)]; exact h)
          have hq : RdB wr (fun k => (Value.slice A2 y.length c2).ownBlock = some k) (.slice A2 y.length c2) (cur.take y.length) := hqm
          have hql : (cur.take y.length).length ≤ 100000000 := by rw [List.length_take]; have := HOUT.out.1; omega
          have HT := hide (fun (w' : World) (v' : Value) (F' : Nat → Prop) (hr : RdB w' F' v' (cur.take y.length)) => read_tells (y := y) (c0 := (x.fr, x.tt, payS x)) hr hql HY.out HL.out (hD.out HK.out.1 HK.out.2) (fun c hc he => by
            have h := seal_near HL.out hc (by rw [← HY.out]; exact HOUT.out.1) (by rw [← HY.out]; exact HOUT.out.2) he
            exact h.trans HY.out.symm))
          clear hqm hql
          go_upto_region 17 with (go_at_call 10; refine (HT.out _ _ _ hq).mono ?_; rintro e w6 ⟨hc6, arr, er, rfl, hiff⟩)
          by_cases he : er = 0
          · subst he
            have hdec : decide (cur.take y.length = y) = true := decide_eq_true (hiff.1 rfl)
            have HDEC := hide hdec
            clear hiff hdec
            go_wp2_with (go_at_call 13; refine (refEqual (hq.c0 hc6) (ht.c0 hc6)).mono ?_; rintro e w7 ⟨rfl, hq7⟩; rw [HDEC.out])
            go_ret
            exact ⟨rfl, (gr.trans0 hc6).quiet hq7⟩
          · have hdec : decide (cur.take y.length = y) = false := decide_eq_false fun h => he (hiff.2 h)
            have HDEC := hide hdec
            have heb : (er == 0) = false := beq_eq_false_iff_ne.2 he
            clear hiff hdec
            go_wp2_with (go_at_call 13; refine (refEqual (hq.c0 hc6) (ht.c0 hc6)).mono ?_; rintro e w7 ⟨rfl, hq7⟩; rw [HDEC.out])
            go_ret
            exact ⟨rfl, (gr.trans0 hc6).quiet hq7⟩
    · have h5d : decide ((k : Int) < (l.length : Int)) = false := decide_eq_false (by omega)
      have HOUT := hide (And.intro hcl.out (show wt (xorL cur y) ≤ 4 by have := hw.out; omega))
      clear hcl hw hk hk4
      go_upto_region 14 with fail
      by_cases hd0 : 0 < d
      · have hd0d : decide ((0 : Int) < d) = true := decide_eq_true hd0
        by_cases hd1 : d ≤ (y.length : Int)
        · have hd1d : decide (d ≤ (y.length : Int)) = true := decide_eq_true hd1
          obtain ⟨m, hm⟩ : ∃ m : Nat, (y.length : Int) - d = (m : Int) := ⟨((y.length : Int) - d).toNat, by omega⟩
          have hmy : m ≤ y.length := by omega
          have hmc : (m : Int) ≤ (c2 : Int) := by omega
          have hmc2 : m ≤ c2 := by omega
          go_upto_region 16 with fail
          clear hm hd0d hd1d hmc hmc2
          have hqm := hcur.rd.front (j := m) (by have := HOUT.out.1; omega)
          have hq : RdB wr (fun k => (Value.slice A2 y.length c2).ownBlock = some k) (.slice A2 m c2) (cur.take m) := hqm
          have hql : (cur.take m).length ≤ 100000000 := by rw [List.length_take]; have := HOUT.out.1; omega
          have HT := hide (fun (w' : World) (v' : Value) (F' : Nat → Prop) (hr : RdB w' F' v' (cur.take m)) => read_tells (y := y) (c0 := (x.fr, x.tt, payS x)) hr hql HY.out HL.out (hD.out HK.out.1 HK.out.2) (fun c hc he => by
            have h := seal_near HL.out hc (by rw [← HY.out]; exact HOUT.out.1) (by rw [← HY.out]; exact HOUT.out.2) he
            exact h.trans HY.out.symm))
          clear hqm hql
          go_upto_region 17 with (go_at_call 10; refine (HT.out _ _ _ hq).mono ?_; rintro e w6 ⟨hc6, arr, er, rfl, hiff⟩)
          by_cases he : er = 0
          · subst he
            have hdec : decide (cur.take m = y) = true := decide_eq_true (hiff.1 rfl)
            have HDEC := hide hdec
            clear hiff hdec
            go_wp2_with (go_at_call 13; refine (refEqual (hq.c0 hc6) (ht.c0 hc6)).mono ?_; rintro e w7 ⟨rfl, hq7⟩; rw [HDEC.out])
            go_ret
            exact ⟨rfl, (gr.trans0 hc6).quiet hq7⟩
          · have hdec : decide (cur.take m = y) = false := decide_eq_false fun h => he (hiff.2 h)
            have HDEC := hide hdec
            have heb : (er == 0) = false := beq_eq_false_iff_ne.2 he
            clear hiff hdec
            go_wp2_with (go_at_call 13; refine (refEqual (hq.c0 hc6) (ht.c0 hc6)).mono ?_; rintro e w7 ⟨rfl, hq7⟩; rw [HDEC.out])
            go_ret
            exact ⟨rfl, (gr.trans0 hc6).quiet hq7⟩
        · have hd1d : decide (d ≤ (y.length : Int)) = false := decide_eq_false hd1
          go_upto_region 16 with fail
          clear hd0d hd1d
          have hqm := (show RdB wr (fun k => (Value.slice A2 y.length c2).ownBlock = some k) (.slice A2 y.length c2) (cur.take y.length) from by have h := hcur.rd; rw [List.take_of_length_le (by have := HOUT.out.1; omega)]; exact h)
          have hq : RdB wr (fun k => (Value.slice A2 y.length c2).ownBlock = some k) (.slice A2 y.length c2) (cur.take y.length) := hqm
          have hql : (cur.take y.length).length ≤ 100000000 := by rw [List.length_take]; have := HOUT.out.1; omega
          have HT := hide (fun (w' : World) (v' : Value) (F' : Nat → Prop) (hr : RdB w' F' v' (cur.take y.length)) => read_tells (y := y) (c0 := (x.fr, x.tt, payS x)) hr hql HY.out HL.out (hD.out HK.out.1 HK.out.2) (fun c hc he => by
            have h := seal_near HL.out hc (by rw [← HY.out]; exact HOUT.out.1) (by rw [← HY.out]; exact HOUT.out.2) he
            exact h.trans HY.out.symm))
          clear hqm hql
          go_upto_region 17 with (go_at_call 10; refine (HT.out _ _ _ hq).mono ?_; rintro e w6 ⟨hc6, arr, er, rfl, hiff⟩)
          by_cases he : er = 0
          · subst he
            have hdec : decide (cur.take y.length = y) = true := decide_eq_true (hiff.1 rfl)
            have HDEC := hide hdec
            clear hiff hdec
            go_wp2_with (go_at_call 13; refine (refEqual (hq.c0 hc6) (ht.c0 hc6)).mono ?_; rintro e w7 ⟨rfl, hq7⟩; rw [HDEC.out])
            go_ret
            exact ⟨rfl, (gr.trans0 hc6).quiet hq7⟩
          · have hdec : decide (cur.take y.length = y) = false := decide_eq_false fun h => he (hiff.2 h)
            have HDEC := hide hdec
            have heb : (er == 0) = false := beq_eq_false_iff_ne.2 he
            clear hiff hdec
            go_wp2_with (go_at_call 13; refine (refEqual (hq.c0 hc6) (ht.c0 hc6)).mono ?_; rintro e w7 ⟨rfl, hq7⟩; rw [HDEC.out])
            go_ret
            exact ⟨rfl, (gr.trans0 hc6).quiet hq7⟩
      · have hd0d : decide ((0 : Int) < d) = false := decide_eq_false hd0
        go_upto_region 16 with fail
        clear hd0d
        have hqm := (show RdB wr (fun k => (Value.slice A2 y.length c2).ownBlock = some k) (.slice A2 y.length c2) (cur.take y.length) from by have h := hcur.rd; rw [List.take_of_length_le (by have := HOUT.out.1; omega)]; exact h)
        have hq : RdB wr (fun k => (Value.slice A2 y.length c2).ownBlock = some k) (.slice A2 y.length c2) (cur.take y.length) := hqm
        have hql : (cur.take y.length).length ≤ 100000000 := by rw [List.length_take]; have := HOUT.out.1; omega
        have HT := hide (fun (w' : World) (v' : Value) (F' : Nat → Prop) (hr : RdB w' F' v' (cur.take y.length)) => read_tells (y := y) (c0 := (x.fr, x.tt, payS x)) hr hql HY.out HL.out (hD.out HK.out.1 HK.out.2) (fun c hc he => by
          have h := seal_near HL.out hc (by rw [← HY.out]; exact HOUT.out.1) (by rw [← HY.out]; exact HOUT.out.2) he
          exact h.trans HY.out.symm))
        clear hqm hql
        go_upto_region 17 with (go_at_call 10; refine (HT.out _ _ _ hq).mono ?_; rintro e w6 ⟨hc6, arr, er, rfl, hiff⟩)
        by_cases he : er = 0
        · subst he
          have hdec : decide (cur.take y.length = y) = true := decide_eq_true (hiff.1 rfl)
          have HDEC := hide hdec
          clear hiff hdec
          go_wp2_with (go_at_call 13; refine (refEqual (hq.c0 hc6) (ht.c0 hc6)).mono ?_; rintro e w7 ⟨rfl, hq7⟩; rw [HDEC.out])
          go_ret
          exact ⟨rfl, (gr.trans0 hc6).quiet hq7⟩
        · have hdec : decide (cur.take y.length = y) = false := decide_eq_false fun h => he (hiff.2 h)
          have HDEC := hide hdec
          have heb : (er == 0) = false := beq_eq_false_iff_ne.2 he
          clear hiff hdec
          go_wp2_with (go_at_call 13; refine (refEqual (hq.c0 hc6) (ht.c0 hc6)).mono ?_; rintro e w7 ⟨rfl, hq7⟩; rw [HDEC.out])
          go_ret
          exact ⟨rfl, (gr.trans0 hc6).quiet hq7⟩
set_option maxRecDepth 100000 in
theorem contract (H : Type) (enc : TypeId × Value → H) (W : World) (base : Nat) (args : Array Value) (ds gs : List (DataW H)) (before : List MemPlace)
    (hval : ∀ (j : Nat) t v, Try.f4.params[j]? = some t → args[j]? = some v → Value.okWide Try.prog W .any base t v)
    (hW : DataW.Whole enc Try.prog Try.f4.params.toList Rows.rpcTellsSpec.vars false W args.toList ds gs before) (hk : Rows.uptoSmall H (ds ++ gs) = true) :
    Calls Try.prog 4 args W fun e W' => ∃ v, e = .returned v ∧ Rows.rpcTellsSpec.post enc Try.prog Try.f4 false true false false W args v W' := by
  have hW' := hW
  obtain ⟨p, q, hA0, hV, rfl, hfz, hnd⟩ := hW
  have hA : DataW.TrodAll enc Try.prog W 0 (fun _ => true) true Try.f4.params.toList args.toList ds p := hA0
  rw [Try.params4] at hA hval
  obtain ⟨v0, vs0, d0, ds0, p0, q0, hargs, rfl, rfl, h0, r0⟩ := trodAll_cons hA
  obtain ⟨v1, vs1, d1, ds1, p1, q1, rfl, rfl, rfl, h1, r1⟩ := trodAll_cons r0
  obtain ⟨v2, vs2, d2, ds2, p2, q2, rfl, rfl, rfl, h2, r2⟩ := trodAll_cons r1
  obtain ⟨rfl, rfl, rfl⟩ := trodAll_nil r2
  obtain rfl : args = #[v0, v1, v2] := by cases args; simp_all
  obtain ⟨rfl, rfl⟩ := trodVars_none hV
  have k0 := h0
  have lt0 : ∀ x ∈ p0, x.block < W.heap.size := by obtain ⟨m, hm⟩ := k0; exact DataW.trod_lt m _ _ _ hm
  obtain ⟨x0, ra0, rb0, rc0, rd0, re0, rfl, wf0, sm0⟩ := openSen (hval 0 36 v0 rfl rfl) h0
  have k1 := h1
  have lt1 : ∀ x ∈ p1, x.block < W.heap.size := by obtain ⟨m, hm⟩ := k1; exact DataW.trod_lt m _ _ _ hm
  obtain ⟨l1, w1, z1⟩ := openCh (hval 1 72 v1 rfl rfl) h1
  obtain ⟨a2, rfl, rfl, rfl, w2⟩ := open_int Try.underlying3 (hval 2 3 v2 rfl rfl) h2
  have hb := of_decide_eq_true hk
  simp only [List.append_nil, Rows.uptoBulkAll] at hb
  have z11 := z1.1
  refine (walk wf0 w1 w2 (sm0 (by omega)) (by omega)).mono fun e W' ⟨he, bel0⟩ => ?_
  have bel := bel0.below
  subst he
  exact ⟨_, rfl, _, _, _, [], _, [], hW', trodAll_mk1 (shut_bool Try.underlying4 _), (trodAll_cons_mk (Below.trod laidOut (by kernel_rfl) (of_decide_eq_true (by kernel_rfl)) k0 bel lt0) (trodAll_cons_mk (Below.trod laidOut (by kernel_rfl) (of_decide_eq_true (by kernel_rfl)) k1 bel lt1) (trodAll_cons_mk (shut_int Try.underlying3 w2) trodAll_mk0))), rfl, bel.frame _, fun h => by cases h⟩

set_option maxRecDepth 100000 in
theorem lifted (os : Os) (started : os.Started) (H : Type) (enc : TypeId × Value → H) (F : Stop.Interp) :
    ReturnsInHanded {} Try.checked os 4 .any ((Rows.OpenSpec.upto Rows.rpcTellsSpec).pre6 enc Try.prog Try.f4 Rows.rpcTellsUptoRow.domain false) (((Rows.OpenSpec.upto Rows.rpcTellsSpec).at F).post enc Try.prog Try.f4 false true false false) := by
  refine returnsInHanded_of_cond (C := Try.checked) (s := Rows.OpenSpec.upto Rows.rpcTellsSpec) (k := Rows.uptoSmall) rfl own started (by kernel_rfl) Try.func4
    (OpenSpec.witness (enc := enc) (C := Try.checked) (s := Rows.OpenSpec.upto Rows.rpcTellsSpec) (k := Rows.uptoSmall) rfl false ⟨#[], #[.agg #[.int .i64 0, .int .u64 0, .int .u64 0, .int .i64 0, .int .u64 0, .int .u64 0, .int .u64 0, .int .u64 0, .int .u64 0, .int .u64 0, .slice none 0 0, .bool false, .slice none 0 0, .int .u64 0, .string ⟨#[]⟩, .int .i64 0, .int .u64 0, .int .u64 0, .int .u64 0, .int .u64 0, .int .u64 0, .int .u64 0, .int .i64 0, .int .i64 0, .int .i64 0, .slice none 0 0, .slice none 0 0, .bool false, .slice none 0 0, .int .u64 0, .string ⟨#[]⟩, .int .i64 0, .int .u64 0, .int .u64 0], .slice none 0 0, .int .i64 0], []⟩ 8 (by kernel_rfl) (by kernel_rfl) (by kernel_rfl)
      (x := ([.agg [.lit (.int .i64 0), .lit (.int .u64 0), .lit (.int .u64 0), .agg [.lit (.int .i64 0), .lit (.int .u64 0), .lit (.int .u64 0), .lit (.int .u64 0), .agg [.lit (.int .u64 0), .lit (.int .u64 0), .lit (.int .u64 0)], .nil, .lit (.bool false), .nil, .lit (.int .u64 0), .lit (.string [])], .agg [.lit (.int .i64 0), .lit (.int .u64 0), .lit (.int .u64 0), .agg [.lit (.int .u64 0), .lit (.int .u64 0), .lit (.int .u64 0)], .lit (.int .u64 0), .lit (.int .i64 0), .agg [.lit (.int .i64 0), .lit (.int .i64 0), .nil, .nil], .lit (.bool false), .nil, .lit (.int .u64 0)], .lit (.string []), .lit (.int .i64 0), .lit (.int .u64 0), .lit (.int .u64 0)], .nil, .lit (.int .i64 0)], [], [])) (by kernel_rfl) rfl (by kernel_rfl)) ?_
  intro W base args ds gs before hval hW _ hk _
  exact contract H enc W base args ds gs before hval hW hk

theorem over : Rows.rpcTellsUptoRow.holds Try.pinned (Rows.OpenSpec.upto Rows.rpcTellsSpec) :=
  OpenClaim.holds_of_cond 4 Try.f4 rfl rfl rfl rfl rfl rfl rfl ⟨rfl, rfl, rfl, rfl, rfl⟩ rfl rfl rfl rfl rfl (by kernel_rfl) Try.func4 (by kernel_rfl)
    (of_decide_eq_true (by kernel_rfl)) (by unfold Func.isWrapper; first | (rw [if_pos (by decide +kernel)]; kernel_rfl) | (rw [if_neg (by decide +kernel)]; exact ⟨rfl, rfl⟩))
    (fun os started H enc _ F => lifted os started H enc F)

theorem proved : Rows.RpcTellsUptoSaid := over
end Go.Proofs.Ytncchbcoldgpbaa.rpcTells
