/- RecLists, where what it reads is of bulk at most 1048576: of any records the transactions are told, each once, and those between two places, of the kinds that are asked for. -/
import Derived.Test.YtpbgjldjipgfeaaRlM
import Derived.Test.YtpbgjldjipgfeaaRecK
import Derived.Test.YtpbgjldjipgfeaaRecZM
import Derived.Test.YtpbgjldjipgfeaaRecIM
import Derived.Test.YtpbgjldjipgfeaaOpen
namespace Go.Proofs.Ytpbgjldjipgfeaa.recLists
open Go.ChangeShapes Go.WideShapes Go.ChangeAt Go.RowKit
set_option linter.unusedVariables false
set_option linter.unusedSimpArgs false

theorem contains_snoc (a : List Tx) (y t : Tx) : (a ++ [y]).contains t = (a.contains t || decide (y = t)) := by
  rw [Bool.eq_iff_iff]
  simp only [List.contains_eq_mem, List.mem_append, List.mem_singleton, Bool.or_eq_true, decide_eq_true_iff]
  exact or_congr_right eq_comm

set_option maxHeartbeats 32000000 in
set_option maxRecDepth 100000 in
theorem walk0 {W : World} {v : Value} {l : List RcS} {from_ to_ : Nat} (hr : RdL W (fun k => k < W.heap.size) v l) (hwf : ∀ x ∈ l, RcWf x) (hf64 : U64 from_) (ht64 : U64 to_) (hs : ∀ x ∈ l, RcSm x) :
    Calls Try.prog 6 #[v, .int .u64 (from_ : Int), .int .u64 (to_ : Int)] W fun e W' => e = .returned (.bool true) ∧ Chg Non W W' := by
  have HS := hide hs
  obtain ⟨V, vn, vc, rfl⟩ := (show ∃ A n c, v = .slice A n c from by obtain ⟨qs, _, h, _⟩ := hr; exact RdV.sl h)
  have hvn : vn = l.length := by obtain ⟨qs, _, ⟨_, A', c', e, _⟩, _⟩ := hr; injection e
  have hvc : vn ≤ vc := by obtain ⟨qs, _, ⟨_, A', c', e, h2, _⟩, _⟩ := hr; injection e with e1 e2 e3; omega
  have hcutl := rdL_take hr 40
  have HVN := hide (And.intro hvn hvc)
  clear hs hvn hvc
  go_enter Try.func6, Try.ntmps6
  go_upto_region 3 with (go_at_call 7; refine awake06.mono ?_; rintro e w1 ⟨rfl, hc1⟩)
  go_upto_if 27 with fail
  go_cut [0] from 27 to 30 (fun v0 wx => wx = w1 ∧ RdL W (fun k => k < W.heap.size) v0 (l.take 40))
  case first =>
    by_cases h40 : 40 < l.length
    · have h40i : (40 : Int) < (vn : Int) := by have := HVN.out.1; omega
      have hd : decide ((40 : Int) < (vn : Int)) = true := decide_eq_true h40i
      have hv1 : ¬ ((vc : Int) < 40) := by have := HVN.out.1; have := HVN.out.2; omega
      have hv2 : (40 : Int) ≤ (vc : Int) := by omega
      go_wp2_with fail
      go_meet
      case rel => exact ⟨rfl, by have h := hcutl; rw [show min 40 vn = 40 by have := HVN.out.1; omega] at h; exact h⟩
    · have h40i : ¬ ((40 : Int) < (vn : Int)) := by have := HVN.out.1; omega
      have hd : decide ((40 : Int) < (vn : Int)) = false := decide_eq_false h40i
      go_wp2_with fail
      go_meet
      case rel => exact ⟨rfl, by rw [List.take_of_length_le (by omega)]; exact hr⟩
  case rest =>
    obtain ⟨hwx, hv0⟩ := hcut
    replace hwx := hwx.symm
    subst hwx
    obtain ⟨ll, hll⟩ : ∃ ll, ll = l.take 40 := ⟨_, rfl⟩
    rw [← hll] at hv0
    have hl40 : ll.length ≤ 40 := by rw [hll, List.length_take]; omega
    have hsl : ∀ x ∈ ll, RcSm x := fun x hx => HS.out x (by rw [hll] at hx; exact List.mem_of_mem_take hx)
    have HSL := hide hsl
    clear hll hsl hr hcutl HS hwf
    obtain ⟨qs0, hq0, hV0, hE0⟩ := hv0
    obtain ⟨A, m, c, rfl⟩ := RdV.sl hV0
    have hm : m = ll.length := by obtain ⟨_, A', c', e, _⟩ := hV0; injection e
    have hV := RdV.chg hV0 hc1 (fun _ _ h => h)
    have hE := hE0.chg hc1 (fun _ _ h => h)
    have HM := hide hm
    clear hm hV0 hE0
    have hsz01 := hc1.size
    go_wp2_with fail
    go_loopw [7, 8, 9, 32] (fun gv pv tv iv wr => ∃ (l1 l2 : List RcS) (q1 q2 gq pq : List Q4), iv = .int .i64 (l1.length : Int) ∧ Hid (ll = l1 ++ l2) ∧ Hid (qs0 = q1 ++ q2) ∧ q1.length = l1.length ∧ Hid (St wr w1.heap.size gv pv tv gq pq l1 l1 (l1.foldl tchF [])) ∧ Chg Non w1 wr) (fun _ _ _ iv _ => ll.length - (intOf iv).toNat)
    case atStart => exact ⟨[], ll, [], qs0, [], [], rfl, hide rfl, hide rfl, rfl, hide (St.start _ _), Chg.refl _ _⟩
    case round =>
      obtain ⟨l1, l2, q1, q2, gq, pq, rfl, HL, HQ, hx1, HST, hcw⟩ := hrel
      have hlen : ll.length = l1.length + l2.length := by rw [HL.out, List.length_append]
      have hlen2 : q2.length = l2.length := by have := hq0; rw [HQ.out, HL.out, List.length_append, List.length_append] at this; omega
      have hm := HM.out
      obtain ⟨gA, gn, gc, rfl⟩ := row_sl HST.out.g
      obtain ⟨pA, pn, pc, rfl⟩ := row_sl HST.out.p
      obtain ⟨tA, tn, tc, rfl⟩ := row_sl HST.out.t
      rcases l2 with _ | ⟨x, l2⟩
      · have hge : ¬ ((l1.length : Int) < (m : Int)) := by simp at hlen; omega
        have hL : l1 = ll := by have := HL.out; simpa using this.symm
        subst hL
        clear hlen hlen2 hm HL HQ hx1
        have hsl1 := HSL.out
        obtain ⟨T, hT⟩ : ∃ T, T = l1.foldl tchF [] := ⟨_, rfl⟩
        have hst := HST.out
        rw [← hT] at hst
        have htl : T.length ≤ 40 := by rw [hT]; have := tchL_len l1 []; simp at this; omega
        have HT := hide hT
        clear hT
        have hrdG := own_rdL hst.gl hst.g hst.eg
        have hrdP := own_rdP hst.pl hst.p hst.ep hsl1
        have hrdT : RdTx wr (fun _ => True) (.slice tA tn tc) T := (RdV.of_own hst.t).mono fun _ _ => trivial
        have htn : tn = T.length := by obtain ⟨A', c', e, _, _⟩ := RdV.shape (RdV.of_own hst.t); injection e
        have HTN := hide htn
        have HP := hide hrdP
        clear htn hst HST hrdP
        obtain ⟨wE, rfl⟩ : ∃ b, b = wr := ⟨_, rfl⟩
        go_upto_region 23 with (go_at_call 22; refine (recTouched hrdG (by omega)).mono ?_; rintro e w2 ⟨u, rfl, hU, hc2⟩; rw [← HT.out] at hU; obtain ⟨uA, un, uc, rfl⟩ := row_sl hU)
        have hun : un = T.length := by obtain ⟨A', c', e, _, _⟩ := RdV.shape (RdV.of_own hU); injection e
        have hne : ((un : Int) != (tn : Int)) = false := by rw [hun, HTN.out]; simp
        have HUN := hide hun
        clear hun hge hrdG
        have hrdU : RdTx w2 (fun _ => True) (.slice uA un uc) T := (RdV.of_own hU).mono fun _ _ => trivial
        have hrdT2 : RdTx w2 (fun _ => True) (.slice tA tn tc) T := RdV.chg hrdT hc2 (fun _ _ h => h)
        clear hU hrdT
        go_wp2_with fail
        clear hne
        go_loopw [86] (fun iv wq => ∃ k : Nat, iv = .int .i64 (k : Int) ∧ k ≤ T.length ∧ Chg Non w2 wq) (fun iv _ => T.length - (intOf iv).toNat)
        case atStart => exact ⟨0, rfl, Nat.zero_le _, Chg.refl _ _⟩
        case round =>
          obtain ⟨k, rfl, hk, hcq⟩ := hrel
          by_cases hkl : k < T.length
          · have hki : (k : Int) < (un : Int) := by have := HUN.out; omega
            have hkt : (k : Int) < (tn : Int) := by have := HTN.out; omega
            have h0k : (0 : Int) ≤ (k : Int) := by omega
            obtain ⟨ad1, rfl, y1, y2, y3⟩ := RdTx.get (F := fun _ => True) (RdV.chg hrdU hcq (fun _ _ h => h)) hkl
            obtain ⟨ad2, rfl, z1, z2, z3⟩ := RdTx.get (F := fun _ => True) (RdV.chg hrdT2 hcq (fun _ _ h => h)) hkl
            obtain ⟨y, hy⟩ : ∃ y, y = T[k] := ⟨_, rfl⟩
            rw [← hy] at y1 y2 y3 z1 z2 z3
            clear hy
            have HY := hide (And.intro y1 (And.intro y2 y3))
            have HZ := hide (And.intro z1 (And.intro z2 z3))
            have hEq : ∀ w', (Op.equalIn 10000 24 (.agg #[.int .u64 (y.1 : Int), .int .u64 (y.2.1 : Int), .int .u64 (y.2.2 : Int)]) (.agg #[.int .u64 (y.1 : Int), .int .u64 (y.2.1 : Int), .int .u64 (y.2.2 : Int)])).run Try.prog w' = .ok true w' := fun w' => by have := txn_eqIn y y w'; rw [decide_eq_true rfl] at this; exact this
            have HEQ := hide hEq
            have HKL := hide hkl
            clear y1 y2 y3 z1 z2 z3 hEq hkl
            go_upto_region 28 with fail
            have hcd : Chg Non wr wr.drew := (Chg.refl Non wr).drew
            refine wp_region_T (Chg Non wr.drew) 99 (by kernel_rfl) ?_
            have HS := hide (Chg.refl Non wr.drew)
            refine AnyT.take (i := 0) (v := ?_) rfl (by kernel_rfl) (by kernel_rfl) (fun _ _ _ h => h) (by kernel_rfl) (by kernel_rfl) (Or.inl ⟨by rfl, ?_⟩) HS.out ?_
            rotate_left
            · (intro w9 h9; go_simp; try with_reducible rfl)
            try simp only [List.getElem_toArray, List.getElem_cons_succ, List.getElem_cons_zero, Act.put, List.setIfInBounds_toArray, List.set_cons_zero, List.set_cons_succ]
            refine AnyT.take (i := 1) (v := ?_) rfl (by kernel_rfl) (by kernel_rfl) (fun _ _ _ h => h) (by kernel_rfl) (by kernel_rfl) (Or.inl ⟨by rfl, ?_⟩) HS.out ?_
            rotate_left
            · (intro w9 h9; go_simp; try with_reducible rfl)
            try simp only [List.getElem_toArray, List.getElem_cons_succ, List.getElem_cons_zero, Act.put, List.setIfInBounds_toArray, List.set_cons_zero, List.set_cons_succ]
            refine AnyT.take (i := 2) (v := ?_) rfl (by kernel_rfl) (by kernel_rfl) (fun _ _ _ h => h) (by kernel_rfl) (by kernel_rfl) (Or.inl ⟨by rfl, ?_⟩) HS.out ?_
            rotate_left
            · (intro w9 h9; go_simp; try with_reducible rfl)
            try simp only [List.getElem_toArray, List.getElem_cons_succ, List.getElem_cons_zero, Act.put, List.setIfInBounds_toArray, List.set_cons_zero, List.set_cons_succ]
            refine AnyT.take (i := 3) (v := ?_) rfl (by kernel_rfl) (by kernel_rfl) (fun _ _ _ h => h) (by kernel_rfl) (by kernel_rfl) (Or.inl ⟨by rfl, ?_⟩) HS.out ?_
            rotate_left
            · (intro w9 h9; have y0 := (hcd.trans0 h9).cell HY.out.1 (fun h => h); have y1 := (hcd.trans0 h9).cell HY.out.2.1 (fun h => h); have y2 := (hcd.trans0 h9).cell HY.out.2.2 (fun h => h); go_simp; try with_reducible rfl)
            try simp only [List.getElem_toArray, List.getElem_cons_succ, List.getElem_cons_zero, Act.put, List.setIfInBounds_toArray, List.set_cons_zero, List.set_cons_succ]
            refine AnyT.take (i := 4) (v := ?_) rfl (by kernel_rfl) (by kernel_rfl) (fun _ _ _ h => h) (by kernel_rfl) (by kernel_rfl) (Or.inl ⟨by rfl, ?_⟩) HS.out ?_
            rotate_left
            · (intro w9 h9; go_simp; try with_reducible rfl)
            try simp only [List.getElem_toArray, List.getElem_cons_succ, List.getElem_cons_zero, Act.put, List.setIfInBounds_toArray, List.set_cons_zero, List.set_cons_succ]
            refine AnyT.take (i := 5) (v := ?_) rfl (by kernel_rfl) (by kernel_rfl) (fun _ _ _ h => h) (by kernel_rfl) (by kernel_rfl) (Or.inl ⟨by rfl, ?_⟩) HS.out ?_
            rotate_left
            · (intro w9 h9; go_simp; try with_reducible rfl)
            try simp only [List.getElem_toArray, List.getElem_cons_succ, List.getElem_cons_zero, Act.put, List.setIfInBounds_toArray, List.set_cons_zero, List.set_cons_succ]
            refine AnyT.take (i := 6) (v := ?_) rfl (by kernel_rfl) (by kernel_rfl) (fun _ _ _ h => h) (by kernel_rfl) (by kernel_rfl) (Or.inl ⟨by rfl, ?_⟩) HS.out ?_
            rotate_left
            · (intro w9 h9; go_simp; try with_reducible rfl)
            try simp only [List.getElem_toArray, List.getElem_cons_succ, List.getElem_cons_zero, Act.put, List.setIfInBounds_toArray, List.set_cons_zero, List.set_cons_succ]
            refine AnyT.take (i := 7) (v := ?_) rfl (by kernel_rfl) (by kernel_rfl) (fun _ _ _ h => h) (by kernel_rfl) (by kernel_rfl) (Or.inl ⟨by rfl, ?_⟩) HS.out ?_
            rotate_left
            · (intro w9 h9; have y0 := (hcd.trans0 h9).cell HZ.out.1 (fun h => h); have y1 := (hcd.trans0 h9).cell HZ.out.2.1 (fun h => h); have y2 := (hcd.trans0 h9).cell HZ.out.2.2 (fun h => h); go_simp; try with_reducible rfl)
            try simp only [List.getElem_toArray, List.getElem_cons_succ, List.getElem_cons_zero, Act.put, List.setIfInBounds_toArray, List.set_cons_zero, List.set_cons_succ]
            refine AnyT.take (i := 8) (v := ?_) rfl (by kernel_rfl) (by kernel_rfl) (fun _ _ _ h => h) (by kernel_rfl) (by kernel_rfl) (Or.inl ⟨by rfl, ?_⟩) HS.out ?_
            rotate_left
            · (intro w9 h9; have hE := HEQ.out; go_simp; try with_reducible rfl)
            try simp only [List.getElem_toArray, List.getElem_cons_succ, List.getElem_cons_zero, Act.put, List.setIfInBounds_toArray, List.set_cons_zero, List.set_cons_succ]
            refine AnyT.nil (by kernel_rfl) ?_
            have HC := hide (hcq.drew)
            clear HS HEQ
            go_wp2_with fail
            go_roundw
            case rel => exact ⟨k + 1, by go_num, by have := HKL.out; omega, HC.out⟩
            case measure => (have h := HKL.out; simp [intOf]; omega)
          · have hge : ¬ ((k : Int) < (un : Int)) := by have := HUN.out; omega
            have hcT := hc2.trans0 hcq
            have hrdP3 := HP.out.c0 hcT
            obtain ⟨wF, rfl⟩ : ∃ b, b = wr := ⟨_, rfl⟩
            have hcF := hcw.trans0 hcT
            clear hrdU hrdT2 hcq hc2 hcT HP hkl hk
            have hKB := Blk.new wF 3 #[.int .i64 2, .int .i64 5]
            have hcK := (Chg.refl Non wF).alloc (.cells #[.int .i64 2, .int .i64 5] 3)
            have hkr := rdI_two hKB
            have hrdP4 := hrdP3.c0 hcK
            clear hKB hrdP3
            have hzn : l1.zipIdx.length ≤ 10000000000 := by rw [List.length_zipIdx]; omega
            have hVF := RdV.chg hV hcF (fun _ _ h => h)
            have hEF := hE.chg hcF (fun _ _ h => h)
            go_upto_region 33 with (first
              | (have z := hb1; go_at_call 18; refine (recBetween (f := from_) (t := to_) (ks := []) (G := Non) (hrdP4.c0 hb1) (RdV.nil_ _ _ _) hzn).mono ?_; rintro e wB ⟨u2, qs2, rfl, hO2, hb2⟩; obtain ⟨S2, s2n, s2c, rfl⟩ := row_sl hO2.2.1)
              | (go_at_call 18; refine (recBetween (f := from_) (t := to_) (ks := [2, 5]) hrdP4 hkr hzn).mono ?_; rintro e wA ⟨u1, qs1, rfl, hO1, hb1⟩; obtain ⟨S1, s1n, s1c, rfl⟩ := row_sl hO1.2.1))
            have hs1 : s1n = (l1.zipIdx.filter (inP from_ to_ [2, 5])).length := by obtain ⟨A', c', e, _, _⟩ := RdV.shape (RdV.of_own hO1.2.1); injection e
            have hs2 : s2n = (l1.zipIdx.filter (inP from_ to_ [])).length := by obtain ⟨A', c', e, _, _⟩ := RdV.shape (RdV.of_own hO2.2.1); injection e
            have HO1 := hide (hO1.c0 hb2)
            have HO2 := hide hO2
            have HSN := hide (And.intro hs1 hs2)
            have hcB := (hcK.trans0 hb1).trans0 hb2
            have hVB := RdV.chg hVF hcB (fun _ _ h => h)
            have hEB := hEF.chg hcB (fun _ _ h => h)
            have HCB := hide (hcF.trans0 hcB)
            clear hs1 hs2 hO1 hO2 hb1 hb2 hcK hkr hrdP4 hzn hVF hEF hcF hcB hge hV hE
            go_wp2_with fail
            go_loopw [19, 20, 110] (fun nv mv iv wq => ∃ (k1 k2 : List RcS) (q1 q2 : List Q4) (nn mm : Nat), nv = .int .i64 (nn : Int) ∧ mv = .int .i64 (mm : Int) ∧ iv = .int .i64 (k1.length : Int) ∧ Hid (nn = (k1.zipIdx.filter (inP from_ to_ [2, 5])).length) ∧ Hid (mm = (k1.zipIdx.filter (inP from_ to_ [])).length) ∧ Hid (l1 = k1 ++ k2) ∧ Hid (qs0 = q1 ++ q2) ∧ q1.length = k1.length ∧ Chg Non wB wq) (fun _ _ iv _ => l1.length - (intOf iv).toNat)
            case atStart => exact ⟨[], l1, [], qs0, 0, 0, rfl, rfl, rfl, hide rfl, hide rfl, hide rfl, hide rfl, rfl, Chg.refl _ _⟩
            case round =>
              obtain ⟨k1, k2, q1, q2, nn, mm, rfl, rfl, rfl, HN, HMM, HL, HQ, hx1, hcw4⟩ := hrel
              have hlen : l1.length = k1.length + k2.length := by rw [HL.out, List.length_append]
              have hlen2 : q2.length = k2.length := by have := hq0; rw [HQ.out, HL.out, List.length_append, List.length_append] at this; omega
              have hm := HM.out
              rcases k2 with _ | ⟨x, k2⟩
              · have hge : ¬ ((k1.length : Int) < (m : Int)) := by simp at hlen; omega
                have hL : k1 = l1 := by have := HL.out; simpa using this.symm
                have e1 : s1n = nn := by rw [HSN.out.1, HN.out, hL]
                have e2 : s2n = mm := by rw [HSN.out.2, HMM.out, hL]
                have b1 : ((nn : Int) == (s1n : Int)) = true := by rw [e1]; simp
                have b2 : ((mm : Int) == (s2n : Int)) = true := by rw [e2]; simp
                have hCF := hide (HCB.out.trans0 hcw4)
                clear hlen hlen2 hm HL HQ hx1 hL
                subst e1; subst e2
                go_wp2_with fail
                go_ret
                exact ⟨rfl, hc1.trans0 hCF.out⟩
              · rcases q2 with _ | ⟨q, q2⟩
                · simp at hlen2
                · simp only [List.length_cons] at hlen hlen2
                  have h1i : (k1.length : Int) < (m : Int) := by omega
                  have h0i : (0 : Int) ≤ (k1.length : Int) := by omega
                  have h9 : k1.length ≤ 40 := by omega
                  obtain ⟨va, vb, vc, vd⟩ := q
                  have hVr := RdV.chg hVB hcw4 (fun _ _ h => h)
                  rw [HL.out, HQ.out, flL_app hx1, flL_cons] at hVr
                  obtain ⟨ad, rfl, _, c0, c1, c2, c3, c4, c5, c6, c7, c8, c9, c10⟩ := rec_at (k := k1.length) hVr (flL_len q1 k1 hx1)
                  have hrx : RecR wr (fun k => k < W.heap.size) x va vb vc vd := (hEB k1.length (va, vb, vc, vd) x (by rw [HQ.out, List.getElem?_append_right (by omega), hx1, Nat.sub_self]; rfl) (by rw [HL.out, List.getElem?_append_right (by omega), Nat.sub_self]; rfl)).c0 hcw4
                  obtain ⟨B1, m1, d1, rfl⟩ := hrx.ws.sl
                  obtain ⟨B2, m2, d2, rfl⟩ := hrx.rs.sl
                  obtain ⟨B3, m3, d3, rfl⟩ := RdV.sl hrx.sh
                  obtain ⟨B4, m4, d4, rfl⟩ := hrx.rep.sl
                  simp only at c0 c1 c2 c3 c4 c5 c6 c7 c8 c9 c10
                  have HLEN := hide (And.intro hlen (And.intro hlen2 (And.intro hx1 hm)))
                  have hzl : l1.zipIdx = k1.zipIdx ++ (x, k1.length) :: k2.zipIdx (k1.length + 1) := by rw [HL.out, zip_mid]
                  have HZL := hide hzl
                  clear hVr hlen hlen2 hx1 hm hzl
                  go_upto_region 37 with fail
                  clear c0 c1 c2 c3 c4 c5 c6 c7 c8 c9 c10
                  have hX := Blk.new wr 30 #[.int .i64 x.kind, .int .u64 (x.boot : Int), .int .u64 (x.sess : Int), .int .u64 (x.seq : Int), .slice B1 m1 d1, .slice B2 m2 d2, .bool x.commit, .slice B3 m3 d3, .slice B4 m4 d4, .int .u64 (x.id : Int), .string x.name]
                  have hcA := (Chg.refl Non wr).alloc (.cells #[.int .i64 x.kind, .int .u64 (x.boot : Int), .int .u64 (x.sess : Int), .int .u64 (x.seq : Int), .slice B1 m1 d1, .slice B2 m2 d2, .bool x.commit, .slice B3 m3 d3, .slice B4 m4 d4, .int .u64 (x.id : Int), .string x.name] 30)
                  obtain ⟨bz, hbx⟩ : ∃ b, b = wr.heap.size := ⟨_, rfl⟩
                  rw [← hbx] at hX ⊢
                  generalize World.alloc _ _ = wz at hX hcA ⊢
                  clear hbx
                  have HX := hide hX
                  have hrz := hrx.c0 hcA
                  have hcz := hcw4.trans0 hcA
                  clear hX hrx hcA hcw4
                  have hwu : IntKind.u64.wrap (k1.length : Int) = (k1.length : Int) := wrap_u64n (by unfold U64; omega)
                  have HQ4 : Hid (qs0 = (q1 ++ [(.slice B1 m1 d1, .slice B2 m2 d2, .slice B3 m3 d3, .slice B4 m4 d4)]) ++ q2) := hide (by rw [HQ.out, List.append_assoc]; rfl)
                  have HL4 : Hid (l1 = (k1 ++ [x]) ++ k2) := hide (by rw [HL.out, List.append_assoc]; rfl)
                  have HX4 : Hid ((q1 ++ [(Value.slice B1 m1 d1, Value.slice B2 m2 d2, Value.slice B3 m3 d3, Value.slice B4 m4 d4)]).length = (k1 ++ [x]).length) := hide (by simp [HLEN.out.2.2.1])
                  clear HQ HL
                  by_cases h1 : k1.length < from_
                  · have HP0 := hide (show inP from_ to_ [] (x, k1.length) = false by simp [inP, show ¬ from_ ≤ k1.length by omega])
                    have HP2 := hide (show inP from_ to_ [2, 5] (x, k1.length) = false by simp [inP, show ¬ from_ ≤ k1.length by omega])
                    have hi1 : (k1.length : Int) < (from_ : Int) := by omega
                    have hd1 : decide ((k1.length : Int) < (from_ : Int)) = true := decide_eq_true hi1
                    clear h1
                    go_wp2_with fail
                    go_roundw
                    case rel => exact ⟨k1 ++ [x], k2, _, q2, nn, mm, rfl, rfl, by rw [List.length_append]; go_num, hide (by rw [zip_snoc, List.filter_append, List.filter_cons_of_neg (by simp [HP2.out]), List.filter_nil, List.append_nil]; exact HN.out), hide (by rw [zip_snoc, List.filter_append, List.filter_cons_of_neg (by simp [HP0.out]), List.filter_nil, List.append_nil]; exact HMM.out), HL4.out |> hide, HQ4.out |> hide, HX4.out, hcz⟩
                    case measure => (have h := HLEN.out.1; have hm := HLEN.out.2.2.2; simp [intOf]; omega)
                  · by_cases h2 : to_ ≤ k1.length
                    · have HP0 := hide (show inP from_ to_ [] (x, k1.length) = false by simp [inP, show ¬ k1.length < to_ by omega])
                      have HP2 := hide (show inP from_ to_ [2, 5] (x, k1.length) = false by simp [inP, show ¬ k1.length < to_ by omega])
                      have hi1 : ¬ ((k1.length : Int) < (from_ : Int)) := by omega
                      have hd1 : decide ((k1.length : Int) < (from_ : Int)) = false := decide_eq_false hi1
                      have hi2 : (to_ : Int) ≤ (k1.length : Int) := by omega
                      have hd2 : decide ((to_ : Int) ≤ (k1.length : Int)) = true := decide_eq_true hi2
                      clear h1 h2
                      go_wp2_with fail
                      go_roundw
                      case rel => exact ⟨k1 ++ [x], k2, _, q2, nn, mm, rfl, rfl, by rw [List.length_append]; go_num, hide (by rw [zip_snoc, List.filter_append, List.filter_cons_of_neg (by simp [HP2.out]), List.filter_nil, List.append_nil]; exact HN.out), hide (by rw [zip_snoc, List.filter_append, List.filter_cons_of_neg (by simp [HP0.out]), List.filter_nil, List.append_nil]; exact HMM.out), HL4.out |> hide, HQ4.out |> hide, HX4.out, hcz⟩
                      case measure => (have h := HLEN.out.1; have hm := HLEN.out.2.2.2; simp [intOf]; omega)
                    · have hp0 : inP from_ to_ [] (x, k1.length) = true := by simp [inP, show from_ ≤ k1.length by omega, show k1.length < to_ by omega]
                      have HP0 := hide hp0
                      have hp2 : inP from_ to_ [2, 5] (x, k1.length) = ([2, 5] : List Int).contains x.kind := by simp [inP, show from_ ≤ k1.length by omega, show k1.length < to_ by omega]
                      have HP25 := hide hp2
                      have hi1 : ¬ ((k1.length : Int) < (from_ : Int)) := by omega
                      have hd1 : decide ((k1.length : Int) < (from_ : Int)) = false := decide_eq_false hi1
                      have hi2 : ¬ ((to_ : Int) ≤ (k1.length : Int)) := by omega
                      have hd2 : decide ((to_ : Int) ≤ (k1.length : Int)) = false := decide_eq_false hi2
                      have ho2 := HO2.out.c0 hcz
                      rw [HZL.out, filter_mid _ _ _ _ hp0] at ho2
                      obtain ⟨ra, rb, rc, rd, xs9, ys9, hR9, a2, rfl, g0, g1, g2, g3, g4, g5, g6, g7, g8, g9, g10, g11⟩ := OwnP.at_ (k := mm) ho2 HMM.out
                      have hml : (mm : Int) < (s2n : Int) := by have h := HSN.out.2; rw [HZL.out, filter_mid _ _ _ _ hp0, List.length_append, ← HMM.out, List.length_cons] at h; omega
                      have hm0 : (0 : Int) ≤ (mm : Int) := by omega
                      have hrr := hR9.rd ⟨hrz.u1, hrz.u2, hrz.u3, hrz.u4⟩ hrz.ki
                      obtain ⟨E1, o1, t1, rfl⟩ := hrr.ws.sl
                      obtain ⟨E2, o2, t2, rfl⟩ := hrr.rs.sl
                      obtain ⟨E3, o3, t3, rfl⟩ := RdV.sl hrr.sh
                      obtain ⟨E4, o4, t4, rfl⟩ := hrr.rep.sl
                      have HG := hide (And.intro g0 (And.intro g1 (And.intro g2 (And.intro g3 (And.intro g4 (And.intro g5 (And.intro g6 (And.intro g7 (And.intro g8 (And.intro g9 (And.intro g10 g11)))))))))))
                      have hdm : decide ((s2n : Int) ≤ (mm : Int)) = false := decide_eq_false (by omega)
                      have hnm : ¬ ((s2n : Int) ≤ (mm : Int)) := by omega
                      clear g0 g1 g2 g3 g4 g5 g6 g7 g8 g9 g10 g11 ho2 hR9 hp0 hp2 h1 h2
                      go_upto_region 38 with fail
                      clear hi1 hd1 hi2 hd2
                      have hcd : Chg Non wz wz.drew := (Chg.refl Non wz).drew
                      have hrrd := hrr.c0 hcd
                      have hrzd := hrz.c0 hcd
                      refine wp_region_T (Chg Non wz.drew) 99 (by kernel_rfl) ?_
                      have HS := hide (Chg.refl Non wz.drew)
                      refine AnyT.take (i := 0) (v := ?_) rfl (by kernel_rfl) (by kernel_rfl) (fun _ _ _ h => h) (by kernel_rfl) (by kernel_rfl) (Or.inl ⟨by rfl, ?_⟩) HS.out ?_
                      rotate_left
                      · (intro w9 h9; go_simp; try with_reducible rfl)
                      try simp only [List.getElem_toArray, List.getElem_cons_succ, List.getElem_cons_zero, Act.put, List.setIfInBounds_toArray, List.set_cons_zero, List.set_cons_succ]
                      refine AnyT.take (i := 1) (v := ?_) rfl (by kernel_rfl) (by kernel_rfl) (fun _ _ _ h => h) (by kernel_rfl) (by kernel_rfl) (Or.inl ⟨by rfl, ?_⟩) HS.out ?_
                      rotate_left
                      · (intro w9 h9; go_simp; try with_reducible rfl)
                      try simp only [List.getElem_toArray, List.getElem_cons_succ, List.getElem_cons_zero, Act.put, List.setIfInBounds_toArray, List.set_cons_zero, List.set_cons_succ]
                      refine AnyT.take (i := 2) (v := ?_) rfl (by kernel_rfl) (by kernel_rfl) (fun _ _ _ h => h) (by kernel_rfl) (by kernel_rfl) (Or.inl ⟨by rfl, ?_⟩) HS.out ?_
                      rotate_left
                      · (intro w9 h9; go_simp; try with_reducible rfl)
                      try simp only [List.getElem_toArray, List.getElem_cons_succ, List.getElem_cons_zero, Act.put, List.setIfInBounds_toArray, List.set_cons_zero, List.set_cons_succ]
                      refine AnyT.take (i := 3) (v := ?_) rfl (by kernel_rfl) (by kernel_rfl) (fun _ _ _ h => h) (by kernel_rfl) (by kernel_rfl) (Or.inl ⟨by rfl, ?_⟩) HS.out ?_
                      rotate_left
                      · (intro w9 h9; go_simp; try with_reducible rfl)
                      try simp only [List.getElem_toArray, List.getElem_cons_succ, List.getElem_cons_zero, Act.put, List.setIfInBounds_toArray, List.set_cons_zero, List.set_cons_succ]
                      refine AnyT.take (i := 4) (v := ?_) rfl (by kernel_rfl) (by kernel_rfl) (fun _ _ _ h => h) (by kernel_rfl) (by kernel_rfl) (Or.inl ⟨by rfl, ?_⟩) HS.out ?_
                      rotate_left
                      · (intro w9 h9; go_simp; try with_reducible rfl)
                      try simp only [List.getElem_toArray, List.getElem_cons_succ, List.getElem_cons_zero, Act.put, List.setIfInBounds_toArray, List.set_cons_zero, List.set_cons_succ]
                      refine AnyT.take (i := 5) (v := ?_) rfl (by kernel_rfl) (by kernel_rfl) (fun _ _ _ h => h) (by kernel_rfl) (by kernel_rfl) (Or.inl ⟨by rfl, ?_⟩) HS.out ?_
                      rotate_left
                      · (intro w9 h9; go_simp; try with_reducible rfl)
                      try simp only [List.getElem_toArray, List.getElem_cons_succ, List.getElem_cons_zero, Act.put, List.setIfInBounds_toArray, List.set_cons_zero, List.set_cons_succ]
                      refine AnyT.take (i := 6) (v := ?_) rfl (by kernel_rfl) (by kernel_rfl) (fun _ _ _ h => h) (by kernel_rfl) (by kernel_rfl) (Or.inl ⟨by rfl, ?_⟩) HS.out ?_
                      rotate_left
                      · (intro w9 h9; go_simp; try with_reducible rfl)
                      try simp only [List.getElem_toArray, List.getElem_cons_succ, List.getElem_cons_zero, Act.put, List.setIfInBounds_toArray, List.set_cons_zero, List.set_cons_succ]
                      refine AnyT.take (i := 7) (v := ?_) rfl (by kernel_rfl) (by kernel_rfl) (fun _ _ _ h => h) (by kernel_rfl) (by kernel_rfl) (Or.inl ⟨by rfl, ?_⟩) HS.out ?_
                      rotate_left
                      · (intro w9 h9; go_simp; try with_reducible rfl)
                      try simp only [List.getElem_toArray, List.getElem_cons_succ, List.getElem_cons_zero, Act.put, List.setIfInBounds_toArray, List.set_cons_zero, List.set_cons_succ]
                      refine AnyT.take (i := 8) (v := ?_) rfl (by kernel_rfl) (by kernel_rfl) (fun _ _ _ h => h) (by kernel_rfl) (by kernel_rfl) (Or.inl ⟨by rfl, ?_⟩) HS.out ?_
                      rotate_left
                      · (intro w9 h9; go_simp; try with_reducible rfl)
                      try simp only [List.getElem_toArray, List.getElem_cons_succ, List.getElem_cons_zero, Act.put, List.setIfInBounds_toArray, List.set_cons_zero, List.set_cons_succ]
                      refine AnyT.take (i := 9) (v := ?_) rfl (by kernel_rfl) (by kernel_rfl) (fun _ _ _ h => h) (by kernel_rfl) (by kernel_rfl) (Or.inl ⟨by rfl, ?_⟩) HS.out ?_
                      rotate_left
                      · (intro w9 h9; have y11 := (hcd.trans0 h9).cell HG.out.2.2.2.2.2.2.2.2.2.2.2 (fun h => h); go_simp; try with_reducible rfl)
                      try simp only [List.getElem_toArray, List.getElem_cons_succ, List.getElem_cons_zero, Act.put, List.setIfInBounds_toArray, List.set_cons_zero, List.set_cons_succ]
                      refine AnyT.take (i := 10) (v := ?_) rfl (by kernel_rfl) (by kernel_rfl) (fun _ _ _ h => h) (by kernel_rfl) (by kernel_rfl) (Or.inl ⟨by rfl, ?_⟩) HS.out ?_
                      rotate_left
                      · (intro w9 h9; go_simp; try with_reducible rfl)
                      try simp only [List.getElem_toArray, List.getElem_cons_succ, List.getElem_cons_zero, Act.put, List.setIfInBounds_toArray, List.set_cons_zero, List.set_cons_succ]
                      refine AnyT.take (i := 11) (v := ?_) rfl (by kernel_rfl) (by kernel_rfl) (fun _ _ _ h => h) (by kernel_rfl) (by kernel_rfl) (Or.inl ⟨by rfl, ?_⟩) HS.out ?_
                      rotate_left
                      · (intro w9 h9; go_simp; try with_reducible rfl)
                      try simp only [List.getElem_toArray, List.getElem_cons_succ, List.getElem_cons_zero, Act.put, List.setIfInBounds_toArray, List.set_cons_zero, List.set_cons_succ]
                      refine AnyT.take (i := 12) (v := ?_) rfl (by kernel_rfl) (by kernel_rfl) (fun _ _ _ h => h) (by kernel_rfl) (by kernel_rfl) (Or.inl ⟨by rfl, ?_⟩) HS.out ?_
                      rotate_left
                      · (intro w9 h9; go_simp; try with_reducible rfl)
                      try simp only [List.getElem_toArray, List.getElem_cons_succ, List.getElem_cons_zero, Act.put, List.setIfInBounds_toArray, List.set_cons_zero, List.set_cons_succ]
                      refine AnyT.take (i := 13) (v := ?_) rfl (by kernel_rfl) (by kernel_rfl) (fun _ _ _ h => h) (by kernel_rfl) (by kernel_rfl) (Or.inl ⟨by rfl, ?_⟩) HS.out ?_
                      rotate_left
                      · (intro w9 h9; go_simp; try with_reducible rfl)
                      try simp only [List.getElem_toArray, List.getElem_cons_succ, List.getElem_cons_zero, Act.put, List.setIfInBounds_toArray, List.set_cons_zero, List.set_cons_succ]
                      refine AnyT.take (i := 14) (v := ?_) rfl (by kernel_rfl) (by kernel_rfl) (fun _ _ _ h => h) (by kernel_rfl) (by kernel_rfl) (Or.inl ⟨by rfl, ?_⟩) HS.out ?_
                      rotate_left
                      · (intro w9 h9; go_simp; try with_reducible rfl)
                      try simp only [List.getElem_toArray, List.getElem_cons_succ, List.getElem_cons_zero, Act.put, List.setIfInBounds_toArray, List.set_cons_zero, List.set_cons_succ]
                      refine AnyT.take (i := 15) (v := ?_) rfl (by kernel_rfl) (by kernel_rfl) (fun _ _ _ h => h) (by kernel_rfl) (by kernel_rfl) (Or.inl ⟨by rfl, ?_⟩) HS.out ?_
                      rotate_left
                      · (intro w9 h9; go_simp; try with_reducible rfl)
                      try simp only [List.getElem_toArray, List.getElem_cons_succ, List.getElem_cons_zero, Act.put, List.setIfInBounds_toArray, List.set_cons_zero, List.set_cons_succ]
                      refine AnyT.take (i := 16) (v := ?_) rfl (by kernel_rfl) (by kernel_rfl) (fun _ _ _ h => h) (by kernel_rfl) (by kernel_rfl) (Or.inl ⟨by rfl, ?_⟩) HS.out ?_
                      rotate_left
                      · (intro w9 h9; go_simp; try with_reducible rfl)
                      try simp only [List.getElem_toArray, List.getElem_cons_succ, List.getElem_cons_zero, Act.put, List.setIfInBounds_toArray, List.set_cons_zero, List.set_cons_succ]
                      refine AnyT.take (i := 17) (v := ?_) rfl (by kernel_rfl) (by kernel_rfl) (fun _ _ _ h => h) (by kernel_rfl) (by kernel_rfl) (Or.inl ⟨by rfl, ?_⟩) HS.out ?_
                      rotate_left
                      · (intro w9 h9; go_simp; try with_reducible rfl)
                      try simp only [List.getElem_toArray, List.getElem_cons_succ, List.getElem_cons_zero, Act.put, List.setIfInBounds_toArray, List.set_cons_zero, List.set_cons_succ]
                      refine AnyT.take (i := 18) (v := ?_) rfl (by kernel_rfl) (by kernel_rfl) (fun _ _ _ h => h) (by kernel_rfl) (by kernel_rfl) (Or.inl ⟨by rfl, ?_⟩) HS.out ?_
                      rotate_left
                      · (intro w9 h9; go_simp; try with_reducible rfl)
                      try simp only [List.getElem_toArray, List.getElem_cons_succ, List.getElem_cons_zero, Act.put, List.setIfInBounds_toArray, List.set_cons_zero, List.set_cons_succ]
                      refine AnyT.take (i := 19) (v := ?_) rfl (by kernel_rfl) (by kernel_rfl) (fun _ _ _ h => h) (by kernel_rfl) (by kernel_rfl) (Or.inl ⟨by rfl, ?_⟩) HS.out ?_
                      rotate_left
                      · (intro w9 h9; have y0 := (hcd.trans0 h9).cell HG.out.1 (fun h => h); have y1 := (hcd.trans0 h9).cell HG.out.2.1 (fun h => h); have y2 := (hcd.trans0 h9).cell HG.out.2.2.1 (fun h => h); have y3 := (hcd.trans0 h9).cell HG.out.2.2.2.1 (fun h => h); have y4 := (hcd.trans0 h9).cell HG.out.2.2.2.2.1 (fun h => h); have y5 := (hcd.trans0 h9).cell HG.out.2.2.2.2.2.1 (fun h => h); have y6 := (hcd.trans0 h9).cell HG.out.2.2.2.2.2.2.1 (fun h => h); have y7 := (hcd.trans0 h9).cell HG.out.2.2.2.2.2.2.2.1 (fun h => h); have y8 := (hcd.trans0 h9).cell HG.out.2.2.2.2.2.2.2.2.1 (fun h => h); have y9 := (hcd.trans0 h9).cell HG.out.2.2.2.2.2.2.2.2.2.1 (fun h => h); have y10 := (hcd.trans0 h9).cell HG.out.2.2.2.2.2.2.2.2.2.2.1 (fun h => h); go_simp; try with_reducible rfl)
                      try simp only [List.getElem_toArray, List.getElem_cons_succ, List.getElem_cons_zero, Act.put, List.setIfInBounds_toArray, List.set_cons_zero, List.set_cons_succ]
                      refine AnyT.take (i := 21) (v := ?_) rfl (by kernel_rfl) (by kernel_rfl) (fun _ _ _ h => h) (by kernel_rfl) (by kernel_rfl) (Or.inl ⟨by rfl, ?_⟩) HS.out ?_
                      rotate_left
                      · (intro w9 h9; obtain ⟨y0, y1, y2, y3, y4, y5, y6, y7, y8, y9, y10⟩ := rblk ((HX.out.c0 hcd).c0 h9); go_simp; try with_reducible rfl)
                      try simp only [List.getElem_toArray, List.getElem_cons_succ, List.getElem_cons_zero, Act.put, List.setIfInBounds_toArray, List.set_cons_zero, List.set_cons_succ]
                      refine AnyT.one (i := 20) (by kernel_rfl) rfl (fun K hK => ?_)
                      go_simp
                      go_wp2_with (go_at_call 13; refine (lawTold (hrrd.c0 HS.out)).mono ?_; rintro e w20 ⟨rfl, hc20⟩)
                      have HS' := hide (HS.out.trans0 hc20)
                      clear HS
                      have HS := HS'
                      clear HS'
                      refine hK.out _ _ (fun _ => HS.out) ?_
                      clear hK K
                      try simp only [List.getElem_toArray, List.getElem_cons_succ, List.getElem_cons_zero, Act.put, List.setIfInBounds_toArray, List.set_cons_zero, List.set_cons_succ]
                      refine AnyT.one (i := 22) (by kernel_rfl) rfl (fun K hK => ?_)
                      go_simp
                      go_wp2_with (go_at_call 12; refine (ref6Same (hrrd.c0 HS.out) (hrzd.c0 HS.out)).mono ?_; rintro e w22 ⟨rfl, hc22⟩)
                      have HS' := hide (HS.out.trans0 hc22)
                      clear HS
                      have HS := HS'
                      clear HS'
                      refine hK.out _ _ (fun _ => HS.out) ?_
                      clear hK K
                      try simp only [List.getElem_toArray, List.getElem_cons_succ, List.getElem_cons_zero, Act.put, List.setIfInBounds_toArray, List.set_cons_zero, List.set_cons_succ]
                      refine AnyT.take (i := 23) (v := ?_) rfl (by kernel_rfl) (by kernel_rfl) (fun _ _ _ h => h) (by kernel_rfl) (by kernel_rfl) (Or.inl ⟨by rfl, ?_⟩) HS.out ?_
                      rotate_left
                      · (intro w9 h9; go_simp; try with_reducible rfl)
                      try simp only [List.getElem_toArray, List.getElem_cons_succ, List.getElem_cons_zero, Act.put, List.setIfInBounds_toArray, List.set_cons_zero, List.set_cons_succ]
                      refine AnyT.take (i := 24) (v := ?_) rfl (by kernel_rfl) (by kernel_rfl) (fun _ _ _ h => h) (by kernel_rfl) (by kernel_rfl) (Or.inl ⟨by rfl, ?_⟩) HS.out ?_
                      rotate_left
                      · (intro w9 h9; go_simp; try with_reducible rfl)
                      try simp only [List.getElem_toArray, List.getElem_cons_succ, List.getElem_cons_zero, Act.put, List.setIfInBounds_toArray, List.set_cons_zero, List.set_cons_succ]
                      refine AnyT.nil (by kernel_rfl) ?_
                      have hcS := hcd.trans0 HS.out
                      have hcy := hcz.trans0 hcS
                      have hXy := HX.out.c0 hcS
                      have hcHX : w22.cell? ⟨bz, 0, none⟩ = some (.int .i64 x.kind) := hXy.cell 0
                      clear HS hcd hrr hrz hrrd hrzd HG hc20 hc22 hcS hXy hcz HX hdm hnm hml hm0
                      have hmb : mm ≤ 40 := by rw [HMM.out]; have := List.length_filter_le (inP from_ to_ []) k1.zipIdx; rw [List.length_zipIdx] at this; omega
                      have hnb : nn ≤ 40 := by rw [HN.out]; have := List.length_filter_le (inP from_ to_ [2, 5]) k1.zipIdx; rw [List.length_zipIdx] at this; omega
                      by_cases hkk : x.kind = 2 ∨ x.kind = 5
                      · have hp2 : inP from_ to_ [2, 5] (x, k1.length) = true := by rw [HP25.out]; rcases hkk with h | h <;> rw [h] <;> rfl
                        have HP2 := hide hp2
                        have ho1 := HO1.out.c0 hcy
                        rw [HZL.out, filter_mid _ _ _ _ hp2] at ho1
                        obtain ⟨ra, rb, rc, rd, xs9, ys9, hR9, a1, rfl, g0, g1, g2, g3, g4, g5, g6, g7, g8, g9, g10, g11⟩ := OwnP.at_ (k := nn) ho1 HN.out
                        have hnl : (nn : Int) < (s1n : Int) := by have h := HSN.out.1; rw [HZL.out, filter_mid _ _ _ _ hp2, List.length_append, ← HN.out, List.length_cons] at h; omega
                        have hn0 : (0 : Int) ≤ (nn : Int) := by omega
                        have hnn : ¬ ((s1n : Int) ≤ (nn : Int)) := by omega
                        have hdn : decide ((s1n : Int) ≤ (nn : Int)) = false := decide_eq_false hnn
                        clear g0 g1 g2 g3 g4 g5 g6 g7 g8 g9 g10 ho1 hR9 hp2
                        rcases hkk with hk2 | hk2
                        · have hb1 : (x.kind == 2) = true := by rw [hk2]; rfl
                          clear hk2
                          go_wp2_with fail
                          go_roundw
                          case rel => exact ⟨k1 ++ [x], k2, _, q2, (nn + 1), (mm + 1), by go_num, by go_num, by rw [List.length_append]; go_num, hide (by rw [zip_snoc, List.filter_append, List.filter_cons_of_pos (by simp [HP2.out]), List.filter_nil, List.length_append, ← HN.out]; rfl), hide (by rw [zip_snoc, List.filter_append, List.filter_cons_of_pos (by simp [HP0.out]), List.filter_nil, List.length_append, ← HMM.out]; rfl), HL4.out |> hide, HQ4.out |> hide, HX4.out, hcy⟩
                          case measure => (have h := HLEN.out.1; have hm := HLEN.out.2.2.2; simp [intOf]; omega)
                        · have hb1 : (x.kind == 2) = false := by rw [hk2]; rfl
                          have hb2 : (x.kind == 5) = true := by rw [hk2]; rfl
                          clear hk2
                          go_wp2_with fail
                          go_roundw
                          case rel => exact ⟨k1 ++ [x], k2, _, q2, (nn + 1), (mm + 1), by go_num, by go_num, by rw [List.length_append]; go_num, hide (by rw [zip_snoc, List.filter_append, List.filter_cons_of_pos (by simp [HP2.out]), List.filter_nil, List.length_append, ← HN.out]; rfl), hide (by rw [zip_snoc, List.filter_append, List.filter_cons_of_pos (by simp [HP0.out]), List.filter_nil, List.length_append, ← HMM.out]; rfl), HL4.out |> hide, HQ4.out |> hide, HX4.out, hcy⟩
                          case measure => (have h := HLEN.out.1; have hm := HLEN.out.2.2.2; simp [intOf]; omega)
                      · have HP2 := hide (show inP from_ to_ [2, 5] (x, k1.length) = false by rw [HP25.out]; simp [show ¬ x.kind = 2 from fun h => hkk (.inl h), show ¬ x.kind = 5 from fun h => hkk (.inr h)])
                        have hb1 : (x.kind == 2) = false := beq_eq_false_iff_ne.2 fun h => hkk (.inl h)
                        have hb2 : (x.kind == 5) = false := beq_eq_false_iff_ne.2 fun h => hkk (.inr h)
                        clear hkk
                        go_wp2_with fail
                        go_roundw
                        case rel => exact ⟨k1 ++ [x], k2, _, q2, nn, (mm + 1), rfl, by go_num, by rw [List.length_append]; go_num, hide (by rw [zip_snoc, List.filter_append, List.filter_cons_of_neg (by simp [HP2.out]), List.filter_nil, List.append_nil]; exact HN.out), hide (by rw [zip_snoc, List.filter_append, List.filter_cons_of_pos (by simp [HP0.out]), List.filter_nil, List.length_append, ← HMM.out]; rfl), HL4.out |> hide, HQ4.out |> hide, HX4.out, hcy⟩
                        case measure => (have h := HLEN.out.1; have hm := HLEN.out.2.2.2; simp [intOf]; omega)
      · rcases q2 with _ | ⟨q, q2⟩
        · simp at hlen2
        · simp only [List.length_cons] at hlen hlen2
          have h1i : (l1.length : Int) < (m : Int) := by omega
          have h0i : (0 : Int) ≤ (l1.length : Int) := by omega
          have h9 : l1.length ≤ 40 := by omega
          obtain ⟨va, vb, vc, vd⟩ := q
          have hVr := RdV.chg hV hcw (fun _ _ h => h)
          rw [HL.out, HQ.out, flL_app hx1, flL_cons] at hVr
          obtain ⟨ad, rfl, _, c0, c1, c2, c3, c4, c5, c6, c7, c8, c9, c10⟩ := rec_at (k := l1.length) hVr (flL_len q1 l1 hx1)
          have hrx : RecR wr (fun k => k < W.heap.size) x va vb vc vd := (hE l1.length (va, vb, vc, vd) x (by rw [HQ.out, List.getElem?_append_right (by omega), hx1, Nat.sub_self]; rfl) (by rw [HL.out, List.getElem?_append_right (by omega), Nat.sub_self]; rfl)).c0 hcw
          obtain ⟨B1, m1, d1, rfl⟩ := hrx.ws.sl
          obtain ⟨B2, m2, d2, rfl⟩ := hrx.rs.sl
          obtain ⟨B3, m3, d3, rfl⟩ := RdV.sl hrx.sh
          obtain ⟨B4, m4, d4, rfl⟩ := hrx.rep.sl
          simp only at c0 c1 c2 c3 c4 c5 c6 c7 c8 c9 c10
          have hsx : RcSm x := HSL.out x (by rw [HL.out]; simp)
          have HLEN := hide (And.intro hlen (And.intro hlen2 (And.intro hx1 hm)))
          have hszw := hcw.size
          clear hVr hlen hlen2 hx1 hm
          go_upto_region 11 with fail
          clear c0 c1 c2 c3 c4 c5 c6 c7 c8 c9 c10
          have hX := Blk.new wr 30 #[.int .i64 x.kind, .int .u64 (x.boot : Int), .int .u64 (x.sess : Int), .int .u64 (x.seq : Int), .slice B1 m1 d1, .slice B2 m2 d2, .bool x.commit, .slice B3 m3 d3, .slice B4 m4 d4, .int .u64 (x.id : Int), .string x.name]
          have hcA := (Chg.refl Non wr).alloc (.cells #[.int .i64 x.kind, .int .u64 (x.boot : Int), .int .u64 (x.sess : Int), .int .u64 (x.seq : Int), .slice B1 m1 d1, .slice B2 m2 d2, .bool x.commit, .slice B3 m3 d3, .slice B4 m4 d4, .int .u64 (x.id : Int), .string x.name] 30)
          obtain ⟨bp, hbx⟩ : ∃ b, b = wr.heap.size := ⟨_, rfl⟩
          rw [← hbx] at hX ⊢
          generalize World.alloc _ _ = wA at hX hcA ⊢
          have hbg : ¬ (some bp = (Value.slice gA gn gc).ownBlock) := fun e => by have := (HST.out.gb e).2; omega
          have hbpv : ¬ (some bp = (Value.slice pA pn pc).ownBlock) := fun e => by have := (HST.out.pb e).2; omega
          have hbt : ¬ (some bp = (Value.slice tA tn tc).ownBlock) := fun e => by have := (HST.out.tb e).2; omega
          clear hbx
          have HSA := hide (HST.out.c0 hcA)
          have hrA := hrx.c0 hcA
          have hszA : w1.heap.size ≤ wA.heap.size := Nat.le_trans hszw hcA.size
          have hcwA := hcw.trans0 hcA
          clear HST hrx hcw hcA
          have HB := hide hX
          obtain ⟨c0, c1, c2, c3, c4, c5, c6, c7, c8, c9, c10⟩ := rblk hX
          clear hX
          have hn9 : l1.length + 1 ≤ 100000000000 := by omega
          go_upto_region 12 with (first
            | (at_builtin; refine append_G1 (x := x) rfl _ _ rfl hgL rfl ⟨_, _, _, rfl⟩ ⟨_, _, _, rfl⟩ ⟨_, _, _, rfl⟩ ⟨_, _, _, rfl⟩ hbl rfl hn9 hszL ?_; intro v3 w3 hG3 hg3 hat3; obtain ⟨G3, g3n, g3c, rfl⟩ := row_sl hG3)
            | (go_at_call 8; refine (lawOwn hrA hsx).mono ?_; rintro e w2 ⟨ua, ub, uc, ud, rfl, hO, hc2⟩; obtain ⟨C1, r1, s1, rfl⟩ := hO.ws.sl; obtain ⟨C2, r2, s2, rfl⟩ := hO.rs.sl; obtain ⟨C3, r3, s3, rfl⟩ := RdV.sl hO.sh; obtain ⟨C4, r4, s4, rfl⟩ := hO.rep.sl; unfold recC; have hbl := Blk.new w2 32 #[.int .i64 x.kind, .int .u64 (x.boot : Int), .int .u64 (x.sess : Int), .int .u64 (x.seq : Int), .slice C1 r1 s1, .slice C2 r2 s2, .bool x.commit, .slice C3 r3 s3, .slice C4 r4 s4, .int .u64 (x.id : Int), .string x.name]; have hcL := hc2.alloc (.cells #[.int .i64 x.kind, .int .u64 (x.boot : Int), .int .u64 (x.sess : Int), .int .u64 (x.seq : Int), .slice C1 r1 s1, .slice C2 r2 s2, .bool x.commit, .slice C3 r3 s3, .slice C4 r4 s4, .int .u64 (x.id : Int), .string x.name] 32); have hgL := row_chg HSA.out.g hcL (fun _ _ h => h); have hszL := Nat.le_trans hszA hcL.size))
          clear c0 c1 c2 c3 c4 c5 c6 c7 c8 c9 c10
          obtain ⟨hs3, hk3⟩ := St.addG HSA.out hszA hc2 hO hg3 hG3 hat3
          have HS3 := hide hs3
          have hX3 := HB.out.chg hk3 hbg
          have hr3 := hrA.chg hk3 (fun k hk e => by have := (HSA.out.gb e).1; omega)
          have hcw3 := hcwA.trans hk3 (fun k hk e => by have := (HSA.out.gb e).1; omega)
          have hsz3 := hcw3.size
          clear hs3 HSA hrA hcwA hszA hc2 hO hbl hcL hgL hszL hG3 hg3 hat3 hk3 HB hbg
          have HB3 := hide hX3
          obtain ⟨c0, c1, c2, c3, c4, c5, c6, c7, c8, c9, c10⟩ := rblk hX3
          clear hX3
          have hwu : IntKind.u64.wrap (l1.length : Int) = (l1.length : Int) := wrap_u64n (by unfold U64; omega)
          go_upto_region 13 with (first
            | (at_builtin; refine append_P1 (x := x) (t := l1.length) rfl _ _ rfl hpL rfl ⟨_, _, _, rfl⟩ ⟨_, _, _, rfl⟩ ⟨_, _, _, rfl⟩ ⟨_, _, _, rfl⟩ hbl rfl hn9 hszL ?_; intro v5 w5 hP5 hg5 hat5; obtain ⟨P5, p5n, p5c, rfl⟩ := row_sl hP5)
            | (go_at_call 8; refine (lawOwn hr3 hsx).mono ?_; rintro e w4 ⟨ua, ub, uc, ud, rfl, hO, hc4⟩; obtain ⟨D1, i1, j1, rfl⟩ := hO.ws.sl; obtain ⟨D2, i2, j2, rfl⟩ := hO.rs.sl; obtain ⟨D3, i3, j3, rfl⟩ := RdV.sl hO.sh; obtain ⟨D4, i4, j4, rfl⟩ := hO.rep.sl; unfold recC; have hbl : Blk (w4.alloc (.cells #[.int .i64 x.kind, .int .u64 (x.boot : Int), .int .u64 (x.sess : Int), .int .u64 (x.seq : Int), .slice D1 i1 j1, .slice D2 i2 j2, .bool x.commit, .slice D3 i3 j3, .slice D4 i4 j4, .int .u64 (x.id : Int), .string x.name, .int .u64 (l1.length : Int)] 53)) w4.heap.size 53 (posL x (.slice D1 i1 j1) (.slice D2 i2 j2) (.slice D3 i3 j3) (.slice D4 i4 j4) l1.length).toArray := Blk.new w4 _ _; have hcL := hc4.alloc (.cells #[.int .i64 x.kind, .int .u64 (x.boot : Int), .int .u64 (x.sess : Int), .int .u64 (x.seq : Int), .slice D1 i1 j1, .slice D2 i2 j2, .bool x.commit, .slice D3 i3 j3, .slice D4 i4 j4, .int .u64 (x.id : Int), .string x.name, .int .u64 (l1.length : Int)] 53); have hpL := row_chg HS3.out.p hcL (fun _ _ h => h); have hszL := Nat.le_trans hsz3 hcL.size))
          clear c0 c1 c2 c3 c4 c5 c6 c7 c8 c9 c10 hwu
          obtain ⟨hs5, hk5⟩ := St.addP HS3.out hsz3 hc4 hO hg5 hP5 hat5
          have HS5 := hide hs5
          have hX5 := HB3.out.chg hk5 hbpv
          have hcw5 := hcw3.trans hk5 (fun k hk e => by have := (HS3.out.pb e).1; omega)
          have hsz5 := hcw5.size
          clear hs5 HS3 hr3 hcw3 hsz3 hc4 hO hbl hcL hpL hszL hP5 hg5 hat5 hk5 HB3 hbpv hn9
          have HB5 := hide hX5
          clear hX5
          obtain ⟨acc, hacc⟩ : ∃ acc, acc = l1.foldl tchF [] := ⟨_, rfl⟩
          have hST5 := HS5.out
          rw [← hacc] at hST5
          have htn : tn = acc.length := by obtain ⟨A', c', e, _, _⟩ := RdV.shape (RdV.of_own hST5.t); injection e
          have hal : acc.length ≤ 40 := by rw [hacc]; have := tchL_len l1 []; simp at this; omega
          have hrd5 : RdTx w5 (fun _ => True) (.slice tA tn tc) acc := (RdV.of_own hST5.t).mono fun _ _ => trivial
          have HST5 := hide hST5
          have HACC := hide hacc
          have HTN := hide htn
          clear hacc HS5 hST5 htn
          go_wp2_with fail
          go_loopw [12, 52] (fun kn jv wq => ∃ (a1 a2 : List Tx), kn = .bool (a1.contains (txOf x)) ∧ jv = .int .i64 (a1.length : Int) ∧ Hid (acc = a1 ++ a2) ∧ Chg Non w5 wq) (fun _ jv _ => acc.length - (intOf jv).toNat)
          case atStart => exact ⟨[], acc, rfl, rfl, hide rfl, Chg.refl _ _⟩
          case round =>
            obtain ⟨a1, a2, rfl, rfl, HA, hcq⟩ := hrel
            have hla : acc.length = a1.length + a2.length := by rw [HA.out, List.length_append]
            have htn := HTN.out
            rcases a2 with _ | ⟨y, a2⟩
            · have hge : ¬ ((a1.length : Int) < (tn : Int)) := by simp at hla; omega
              have hA : a1 = acc := by have := HA.out; simpa using this.symm
              subst hA
              have HSq := hide (HST5.out.c0 hcq)
              have hXq := HB5.out.c0 hcq
              have hcwq := hcw5.trans0 hcq
              have hszq := hcwq.size
              clear hla htn hcq hrd5 HST5 HB5 hcw5 HA
              have HBq := hide hXq
              obtain ⟨c0, c1, c2, c3, c4, c5, c6, c7, c8, c9, c10⟩ := rblk hXq
              clear hXq
              have hcond : tchF a1 x = if hasT x.kind && !a1.contains (txOf x) then a1 ++ [txOf x] else a1 := rfl
              have hfold : (l1 ++ [x]).foldl tchF [] = tchF a1 x := by rw [List.foldl_append, ← HACC.out]; rfl
              rw [hcond] at hfold
              have HFO := hide hfold
              clear hfold hcond
              obtain ⟨kb, hkb⟩ : ∃ kb, kb = a1.contains (txOf x) := ⟨_, rfl⟩
              rw [← hkb] at HFO ⊢
              have HKB := hide hkb
              clear hkb
              obtain ⟨hb, hhb⟩ : ∃ hb, hb = hasT x.kind := ⟨_, rfl⟩
              rw [← hhb] at HFO
              have HHB := hide hhb
              clear hhb
              cases hb
              · simp only [Bool.false_and, Bool.false_eq_true, if_false] at HFO
                go_wp2_with (go_at_call 21; refine ref6HasTxn.mono ?_; rintro e w' ⟨rfl, hw⟩; replace hw := hw.symm; subst hw; rw [← HHB.out])
                go_roundw
                case rel => exact ⟨l1 ++ [x], l2, q1 ++ [(.slice B1 m1 d1, .slice B2 m2 d2, .slice B3 m3 d3, .slice B4 m4 d4)], q2, _, _, by rw [List.length_append]; go_num, hide (by rw [HL.out, List.append_assoc]; rfl), hide (by rw [HQ.out, List.append_assoc]; rfl), by simp [HLEN.out.2.2.1], hide (by rw [HFO.out]; exact HSq.out), hcwq⟩
                case measure => (have h := HLEN.out.1; have hm := HLEN.out.2.2.2; simp [intOf]; omega)
              · cases kb
                · simp only [Bool.not_false, Bool.and_self, if_true] at HFO
                  have hbl : Blk (wr.alloc (.cells #[.int .u64 (x.boot : Int), .int .u64 (x.sess : Int), .int .u64 (x.seq : Int)] 24)) wr.heap.size 24 #[.int .u64 ((txOf x).1 : Int), .int .u64 ((txOf x).2.1 : Int), .int .u64 ((txOf x).2.2 : Int)] := Blk.new wr _ _
                  have hcL := (Chg.refl Non wr).alloc (.cells #[.int .u64 (x.boot : Int), .int .u64 (x.sess : Int), .int .u64 (x.seq : Int)] 24)
                  have htL := row_chg HSq.out.t hcL (fun _ _ h => h)
                  have hszL := Nat.le_trans hszq hcL.size
                  go_wp2_with (first
                    | (at_builtin; refine append_Tx rfl _ _ rfl htL rfl hbl rfl (by omega) hszL ?_; intro v7 w7 hT7 hg7 hat7; obtain ⟨T7, t7n, t7c, rfl⟩ := row_sl hT7)
                    | (go_at_call 21; refine ref6HasTxn.mono ?_; rintro e w' ⟨rfl, hw⟩; replace hw := hw.symm; subst hw; rw [← HHB.out]))
                  obtain ⟨hs7, hk7⟩ := St.addT HSq.out hg7 hT7 hat7
                  have HS7 := hide hs7
                  have hcw7 := hcwq.trans hk7 (fun k hk e => by have := (HSq.out.tb e).1; omega)
                  clear hs7 hk7 hT7 hg7 hat7 htL hbl hcL hszL
                  go_roundw
                  case rel => exact ⟨l1 ++ [x], l2, q1 ++ [(.slice B1 m1 d1, .slice B2 m2 d2, .slice B3 m3 d3, .slice B4 m4 d4)], q2, _, _, by rw [List.length_append]; go_num, hide (by rw [HL.out, List.append_assoc]; rfl), hide (by rw [HQ.out, List.append_assoc]; rfl), by simp [HLEN.out.2.2.1], hide (by rw [HFO.out]; exact HS7.out), hcw7⟩
                  case measure => (have h := HLEN.out.1; have hm := HLEN.out.2.2.2; simp [intOf]; omega)
                · simp only [Bool.not_true, Bool.and_false, Bool.false_eq_true, if_false] at HFO
                  go_wp2_with (go_at_call 21; refine ref6HasTxn.mono ?_; rintro e w' ⟨rfl, hw⟩; replace hw := hw.symm; subst hw; rw [← HHB.out])
                  go_roundw
                  case rel => exact ⟨l1 ++ [x], l2, q1 ++ [(.slice B1 m1 d1, .slice B2 m2 d2, .slice B3 m3 d3, .slice B4 m4 d4)], q2, _, _, by rw [List.length_append]; go_num, hide (by rw [HL.out, List.append_assoc]; rfl), hide (by rw [HQ.out, List.append_assoc]; rfl), by simp [HLEN.out.2.2.1], hide (by rw [HFO.out]; exact HSq.out), hcwq⟩
                  case measure => (have h := HLEN.out.1; have hm := HLEN.out.2.2.2; simp [intOf]; omega)
            · have h1j : (a1.length : Int) < (tn : Int) := by rw [htn, hla]; simp; omega
              have h0j : (0 : Int) ≤ (a1.length : Int) := by omega
              have h9j : a1.length ≤ 40 := by omega
              have hrq : RdTx wr (fun _ => True) (.slice tA tn tc) (a1 ++ y :: a2) := HA.out ▸ RdV.chg hrd5 hcq (fun _ _ h => h)
              obtain ⟨td, rfl, y1, y2, y3⟩ := RdTx.at_ hrq
              have HLA := hide (And.intro hla htn)
              clear hla htn hrq
              go_upto_region 17 with fail
              clear y1 y2 y3
              have hX := Blk.new wr 24 #[.int .u64 (y.1 : Int), .int .u64 (y.2.1 : Int), .int .u64 (y.2.2 : Int)]
              have hcA := (Chg.refl Non wr).alloc (.cells #[.int .u64 (y.1 : Int), .int .u64 (y.2.1 : Int), .int .u64 (y.2.2 : Int)] 24)
              obtain ⟨bq, hbx⟩ : ∃ b, b = wr.heap.size := ⟨_, rfl⟩
              rw [← hbx] at hX ⊢
              generalize World.alloc _ _ = wB at hX hcA ⊢
              clear hbx
              have z0 : wB.cell? ⟨bq, 0, none⟩ = some (.int .u64 (y.1 : Int)) := hX.cell 0
              have z1 : wB.cell? ⟨bq, 1, none⟩ = some (.int .u64 (y.2.1 : Int)) := hX.cell 1
              have z2 : wB.cell? ⟨bq, 2, none⟩ = some (.int .u64 (y.2.2 : Int)) := hX.cell 2
              have hXb := (HB5.out.c0 hcq).c0 hcA
              have y1 : wB.cell? ⟨bp, 1, none⟩ = some (.int .u64 (x.boot : Int)) := hXb.cell 1
              have y2 : wB.cell? ⟨bp, 2, none⟩ = some (.int .u64 (x.sess : Int)) := hXb.cell 2
              have y3 : wB.cell? ⟨bp, 3, none⟩ = some (.int .u64 (x.seq : Int)) := hXb.cell 3
              clear hX hXb
              have hcB := hcq.trans0 hcA
              have hEq : ∀ w', (Op.equalIn 10000 24 (.agg #[.int .u64 (y.1 : Int), .int .u64 (y.2.1 : Int), .int .u64 (y.2.2 : Int)]) (.agg #[.int .u64 (x.boot : Int), .int .u64 (x.sess : Int), .int .u64 (x.seq : Int)])).run Try.prog w' = .ok (decide (y = txOf x)) w' := fun w' => txn_eqIn y (txOf x) w'
              obtain ⟨kb, hkb⟩ : ∃ kb, kb = a1.contains (txOf x) := ⟨_, rfl⟩
              rw [← hkb]
              obtain ⟨eb, heb⟩ : ∃ eb, eb = decide (y = txOf x) := ⟨_, rfl⟩
              rw [← heb] at hEq
              have hnew : (a1 ++ [y]).contains (txOf x) = (kb || eb) := by rw [hkb, heb]; exact contains_snoc a1 y (txOf x)
              have HNEW := hide hnew
              clear hkb heb hnew
              cases kb
              · go_wp2_with fail
                go_roundw
                case rel => exact ⟨a1 ++ [y], a2, by rw [HNEW.out]; simp, by rw [List.length_append]; go_num, hide (by rw [HA.out, List.append_assoc]; rfl), hcB⟩
                case measure => (have h := HLA.out.1; simp at h; simp [intOf]; omega)
              · go_wp2_with fail
                go_roundw
                case rel => exact ⟨a1 ++ [y], a2, by rw [HNEW.out]; simp, by rw [List.length_append]; go_num, hide (by rw [HA.out, List.append_assoc]; rfl), hcB⟩
                case measure => (have h := HLA.out.1; simp at h; simp [intOf]; omega)

theorem walk {W : World} {v : Value} {l : List RcS} {a b : Int} (hr : RdL W (fun k => k < W.heap.size) v l) (hwf : ∀ x ∈ l, RcWf x) (ha : (Lit.int .u64 a).wf = true) (hb : (Lit.int .u64 b).wf = true) (hs : ∀ x ∈ l, RcSm x) :
    Calls Try.prog 6 #[v, .int .u64 a, .int .u64 b] W fun e W' => e = .returned (.bool true) ∧ Chg Non W W' := by
  have h1 : 0 ≤ a ∧ a ≤ 18446744073709551615 := by simpa [Lit.wf, IntKind.min, IntKind.max, IntKind.signed, IntKind.bits] using ha
  have h2 : 0 ≤ b ∧ b ≤ 18446744073709551615 := by simpa [Lit.wf, IntKind.min, IntKind.max, IntKind.signed, IntKind.bits] using hb
  have e1 : a = ((a.toNat : Nat) : Int) := by omega
  have e2 : b = ((b.toNat : Nat) : Int) := by omega
  rw [e1, e2]
  exact walk0 hr hwf (by show a.toNat < _; omega) (by show b.toNat < _; omega) hs

set_option maxRecDepth 100000 in
theorem contract (H : Type) (enc : TypeId × Value → H) (W : World) (base : Nat) (args : Array Value) (ds gs : List (DataW H)) (before : List MemPlace)
    (hval : ∀ (j : Nat) t v, Try.f6.params[j]? = some t → args[j]? = some v → Value.okWide Try.prog W .any base t v)
    (hW : DataW.Whole enc Try.prog Try.f6.params.toList Rows.recListsSpec.vars false W args.toList ds gs before) (hk : Rows.uptoSmall H (ds ++ gs) = true) :
    Calls Try.prog 6 args W fun e W' => ∃ v, e = .returned v ∧ Rows.recListsSpec.post enc Try.prog Try.f6 false true false false W args v W' := by
  have hW' := hW
  obtain ⟨p, q, hA0, hV, rfl, hfz, hnd⟩ := hW
  have hA : DataW.TrodAll enc Try.prog W 0 (fun _ => true) true Try.f6.params.toList args.toList ds p := hA0
  rw [Try.params6] at hA hval
  obtain ⟨v0, vs0, d0, ds0, p0, q0, hargs, rfl, rfl, h0, r0⟩ := trodAll_cons hA
  obtain ⟨v1, vs1, d1, ds1, p1, q1, rfl, rfl, rfl, h1, r1⟩ := trodAll_cons r0
  obtain ⟨v2, vs2, d2, ds2, p2, q2, rfl, rfl, rfl, h2, r2⟩ := trodAll_cons r1
  obtain ⟨rfl, rfl, rfl⟩ := trodAll_nil r2
  obtain rfl : args = #[v0, v1, v2] := by cases args; simp_all
  obtain ⟨rfl, rfl⟩ := trodVars_none hV
  have k0 := h0
  have lt0 : ∀ x ∈ p0, x.block < W.heap.size := by obtain ⟨m, hm⟩ := k0; exact DataW.trod_lt m _ _ _ hm
  obtain ⟨x0, w0, wf0, sm0⟩ := openRcl (hval 0 56 v0 rfl rfl) h0
  obtain ⟨a1, rfl, rfl, rfl, w1⟩ := open_int Try.underlying22 (hval 1 22 v1 rfl rfl) h1
  obtain ⟨a2, rfl, rfl, rfl, w2⟩ := open_int Try.underlying22 (hval 2 22 v2 rfl rfl) h2
  have hb := of_decide_eq_true hk
  simp only [List.append_nil, Rows.uptoBulkAll] at hb
  refine (walk w0 wf0 w1 w2 (sm0 (by omega))).mono fun e W' ⟨he, bel0⟩ => ?_
  have bel := bel0.below
  subst he
  exact ⟨_, rfl, _, _, _, [], _, [], hW', trodAll_mk1 (shut_bool Try.underlying4 _), (trodAll_cons_mk (Below.trod laidOut (by kernel_rfl) (of_decide_eq_true (by kernel_rfl)) k0 bel lt0) (trodAll_cons_mk (shut_int Try.underlying22 w1) (trodAll_cons_mk (shut_int Try.underlying22 w2) trodAll_mk0))), rfl, bel.frame _, fun h => by cases h⟩

set_option maxRecDepth 100000 in
theorem lifted (os : Os) (started : os.Started) (H : Type) (enc : TypeId × Value → H) (F : Stop.Interp) :
    ReturnsInHanded {} Try.checked os 6 .any ((Rows.OpenSpec.upto Rows.recListsSpec).pre6 enc Try.prog Try.f6 Rows.recListsUptoRow.domain false) (((Rows.OpenSpec.upto Rows.recListsSpec).at F).post enc Try.prog Try.f6 false true false false) := by
  refine returnsInHanded_of_cond (C := Try.checked) (s := Rows.OpenSpec.upto Rows.recListsSpec) (k := Rows.uptoSmall) rfl own started (by kernel_rfl) Try.func6
    (OpenSpec.witness (enc := enc) (C := Try.checked) (s := Rows.OpenSpec.upto Rows.recListsSpec) (k := Rows.uptoSmall) rfl false ⟨#[], #[.slice none 0 0, .int .u64 0, .int .u64 0], []⟩ 8 (by kernel_rfl) (by kernel_rfl) (by kernel_rfl)
      (x := ([.nil, .lit (.int .u64 0), .lit (.int .u64 0)], [], [])) (by kernel_rfl) rfl (by kernel_rfl)) ?_
  intro W base args ds gs before hval hW _ hk _
  exact contract H enc W base args ds gs before hval hW hk

theorem over : Rows.recListsUptoRow.holds Try.pinned (Rows.OpenSpec.upto Rows.recListsSpec) :=
  OpenClaim.holds_of_cond 6 Try.f6 rfl rfl rfl rfl rfl rfl rfl ⟨rfl, rfl, rfl, rfl, rfl⟩ rfl rfl rfl rfl rfl (by kernel_rfl) Try.func6 (by kernel_rfl)
    (of_decide_eq_true (by kernel_rfl)) (by unfold Func.isWrapper; first | (rw [if_pos (by decide +kernel)]; kernel_rfl) | (rw [if_neg (by decide +kernel)]; exact ⟨rfl, rfl⟩))
    (fun os started H enc _ F => lifted os started H enc F)

theorem proved : Rows.RecListsUptoSaid := over
end Go.Proofs.Ytpbgjldjipgfeaa.recLists
