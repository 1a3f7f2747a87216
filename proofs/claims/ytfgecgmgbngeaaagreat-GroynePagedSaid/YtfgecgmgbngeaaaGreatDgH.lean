/- The walk of drive's Crash. -/
import Derived.Test.YtfgecgmgbngeaaaGreatDgG
import Derived.Lib.MinMax
set_option linter.unusedSimpArgs false
set_option maxRecDepth 100000
namespace Go.Proofs.YtfgecgmgbngeaaaGreat
open Go.RowKit Go.Maps
set_option linter.unusedVariables false

theorem methUnitsRm (s : ByteArray) (w : World) : (method 336 169 (.agg #[.string s]) "groyne/drive.units").run Tryz.prog w = .ok (185, .agg #[.string s]) w := by kernel_rfl
theorem aheadDoRm (s : ByteArray) (w : World) : (nilAhead 336 169 (.agg #[.string s]) "groyne/drive.do").run Tryz.prog w = .ok (some false) w := by kernel_rfl
theorem methDoRm (s : ByteArray) (w : World) : (method 336 169 (.agg #[.string s]) "groyne/drive.do").run Tryz.prog w = .ok (184, .agg #[.string s]) w := by kernel_rfl
/-- no file is longer than this -/
def BndF (f : Fls) : Prop := ∀ k, ((f k).getD []).length ≤ 67109376
/-- a deed that may be done -/
def DeedB (sup : List Nm) : Deed → Prop
  | .wr n a d => n ∈ sup ∧ a + d.length ≤ 67109376
  | .mv _ b => b ∈ sup
  | _ => True
theorem BndF.app {sup : List Nm} {f : Fls} (h : BndF f) {x : Deed} (hx : DeedB sup x) (n : Nat) : BndF (x.app f n) := fun k => by
  have st : ∀ (f : Fls) (m : Nm) (v : Option (List UInt8)), BndF f → (v.getD []).length ≤ 67109376 → ((setF f m v k).getD []).length ≤ 67109376 := fun f m v hf hv => by
    unfold setF; split
    · exact hv
    · exact hf k
  cases x with
  | wr nm a d =>
    refine st _ _ _ h ?_
    rw [Option.getD_some, wrL_length, List.length_take]
    have := h nm
    have := hx.2
    omega
  | mv a b =>
    refine st _ _ _ (fun j => ?_) (h a)
    unfold setF; split
    · simp
    · exact h j
  | rm nm => exact st _ _ _ h (by simp)
  | tr nm s =>
    refine st _ _ _ h ?_
    rw [Option.getD_some, List.length_take]
    have := h nm
    omega
theorem unitsQ_take (q : List Deed) (i : Nat) (h : i < q.length) : unitsQ (q.take (i + 1)) = unitsQ (q.take i) + q[i].units := by
  rw [unitsQ, unitsQ, List.take_succ_eq_append_getElem h, List.map_append, List.sum_append]; simp only [List.map_cons, List.map_nil, List.sum_cons, List.sum_nil, Nat.add_zero]
theorem unitsQ_le (q : List Deed) (i : Nat) : unitsQ (q.take i) ≤ unitsQ q := by
  have h : q = q.take i ++ q.drop i := by simp
  have e : unitsQ q = unitsQ (q.take i) + unitsQ (q.drop i) := by
    conv => lhs; rw [h]
    simp only [unitsQ, List.map_append, List.sum_append]
  omega
theorem crash_go {f : Fls} {q : List Deed} {i K : Nat} (h : i < q.length) (hK : K ≠ 0) : crashF f (q.drop i) K = crashF (q[i].app f (min K q[i].units)) (q.drop (i + 1)) (K - min K q[i].units) := by
  rw [List.drop_eq_getElem_cons h, crashF, if_neg hK]
theorem DrvM.crashed {w wx : World} {sup : List Nm} {T F F' : Nat → Prop} {g : Nat} {S : DSt} {sv nv qv : Value} {lv : Int} {Bf B2 : Nat} {f : Fls} (h : DrvM w sup T g S sv nv qv lv F) (hc : Chg Non w wx)
    (hs : FsAt wx sup F' (.map (some Bf)) f) (hn : FsAt wx sup F' (.map (some B2)) f) (hne : Bf ≠ B2) (h1 : w.heap.size ≤ Bf) (h2 : w.heap.size ≤ B2) (hF : ∀ b, F' b → (T b ∨ (w.heap.size ≤ b ∧ b < wx.heap.size)) ∧ b ≠ g ∧ b ≠ Bf ∧ b ≠ B2) :
    ∃ w', w' = ((((((wx.setCell ⟨g, 0, none⟩ (.map (some Bf))).setCell ⟨g, 1, none⟩ (.map (some B2))).setCell ⟨g, 2, none⟩ nilS).setCell ⟨g, 6, none⟩ (.bool false)).setCell ⟨g, 4, none⟩ (.bool false)).setCell ⟨g, 5, none⟩ (.int .i64 0)) ∧
      DrvAt w' sup (Ext T w w') g ⟨f, f, [], none, false⟩ ∧ Chg (fun k => k = g) w w' := by
  have hb := ((((((h.blk.c0 hc).set_ 0 (.map (some Bf))).set_ 1 (.map (some B2))).set_ 2 nilS).set_ 6 (.bool false)).set_ 4 (.bool false)).set_ 5 (.int .i64 0)
  simp at hb
  have st : ∀ {a b : World} (i : Nat) (v : Value), Chg (fun k => k = g) a b → Chg (fun k => k = g) a (b.setCell ⟨g, i, none⟩ v) := fun i v h => Chg.setCell (p := ⟨g, i, none⟩) h (fun _ => rfl) v
  have hc2 := st 5 (.int .i64 0) (st 4 (.bool false) (st 6 (.bool false) (st 2 nilS (st 1 (.map (some B2)) (st 0 (.map (some Bf)) (Chg.refl (fun k => k = g) wx))))))
  have hgl := h.blk.lt
  have hF2 : ∀ b, F' b → ¬ b = g := fun b hb => (hF b hb).2.1
  have n1 := hc.size
  have n2 := hc2.size
  have hBl : ∀ B, FsAt wx sup F' (.map (some B)) f → B < wx.heap.size := fun B hB => by
    obtain ⟨l, hl, _⟩ := hB
    exact hl.lt rfl
  have l1 := hBl _ hs
  have l2 := hBl _ hn
  refine ⟨_, rfl, ⟨.map (some Bf), .map (some B2), nilS, 0, F', hb, fun n e => (by cases e), hs.chg hc2 hF2 (fun B e e2 => by injection e with e; injection e with e; omega), hn.chg hc2 hF2 (fun B e e2 => by injection e with e; injection e with e; omega), QAt.nil_ _ _, .inl h.tg, fun B e => ?_, fun B e => ?_, fun B e e2 => ?_, fun b hb => ?_, fun b hb => ?_⟩, (hc.mono fun _ _ h => h.elim).trans hc2 fun _ _ h => h⟩
  · injection e with e; injection e with e
    exact .inr ⟨by omega, by omega⟩
  · injection e with e; injection e with e
    exact .inr ⟨by omega, by omega⟩
  · injection e with e; injection e with e
    injection e2 with e2; injection e2 with e2
    omega
  · obtain ⟨h3, h4, h5, h6⟩ := hF b hb
    refine ⟨?_, h4, fun e => ?_, fun e => ?_⟩
    · rcases h3 with h | h
      · exact .inl h
      · exact .inr ⟨h.1, by omega⟩
    · injection e with e; injection e with e; omega
    · injection e with e; injection e with e; omega
  · rcases hb with hb | hb
    · have := h.lt b hb; omega
    · exact hb.2

set_option maxHeartbeats 16000000 in
theorem dgCrash {w : World} {sup : List Nm} {T : Nat → Prop} {g : Nat} {S : DSt} {keep : Int} (h : DrvAt w sup T g S) (hsl : sup.length ≤ 1000000) (hbs : BndF S.safe) (hbq : ∀ x ∈ S.queue, DeedB sup x) (hun : unitsQ S.queue ≤ 1000000000) :
    Calls Tryz.prog 13 #[.pointer (some ⟨g, 0, none⟩), .int .i64 keep] w fun e w' => e = .returned (.tuple #[]) ∧ ∃ k, DrvAt w' sup (Ext T w w') g ⟨crashF S.safe S.queue k, crashF S.safe S.queue k, [], none, false⟩ ∧ Chg (fun k => k = g) w w' := by
  obtain ⟨sv, nv, qv, lv, F, h⟩ := h
  obtain ⟨Q, cq, rfl, hcq, hmq⟩ := h.qu.shape
  obtain ⟨q, hq⟩ : ∃ q, q = S.queue := ⟨_, rfl⟩
  obtain ⟨n, hn⟩ : ∃ n, n = q.length := ⟨_, rfl⟩
  have hQU := h.qu
  have hBLK := h.blk
  have hSAFE := h.s
  rw [← hq] at hbq hun hQU hcq hBLK ⊢
  rw [← hn] at hQU hcq hBLK
  have k2 : w.cell? ⟨g, 2, none⟩ = some (.slice Q n cq) := hBLK.cell 2
  have k0 : w.cell? ⟨g, 0, none⟩ = some sv := hBLK.cell 0
  unfold maxLen at hmq
  have hFF : ∀ b, F b → T b ∧ b ≠ g := fun b hb => ⟨(h.f b hb).1, (h.f b hb).2.1⟩
  have HFF := hide hFF
  have HTL := hide h.lt
  have HD := hide h
  have HQ := hide hQU
  have HN := hide hn
  have HBQ := hide hbq
  have HBS := hide hbs
  have HSL := hide hsl
  obtain ⟨sf, hsf⟩ : ∃ sf, sf = S.safe := ⟨_, rfl⟩
  rw [← hsf] at hSAFE HBS ⊢
  have HSF := hide hSAFE
  have hgl := hBLK.lt
  have HBLK := hide hBLK
  have hmuw := methUnitsWr
  have hmdw := methDoWr
  have hadw := aheadDoWr
  have hmum := methUnitsMv
  have hmdm := methDoMv
  have hadm := aheadDoMv
  have hmur := methUnitsRm
  have hmdr := methDoRm
  have hadr := aheadDoRm
  have hnU : n ≤ 1000000000 := by
    have h1 : ∀ l : List Deed, l.length ≤ unitsQ l := fun l => by
      induction l with
      | nil => simp [unitsQ]
      | cons x r ih => have := x.units_pos; simp only [unitsQ, List.length_cons, List.map_cons, List.sum_cons] at ih ⊢; omega
    have := h1 q
    omega
  have HUN := hide hun
  clear h hq hn hQU hBLK hSAFE hFF hbq hbs hsl hsf hun
  go_enter Tryz.func13, Tryz.ntmps13
  go_wp2_with fail
  go_loopw [4, 16] (fun av iv wr => ∃ (i U : Nat), i ≤ n ∧ iv = .int .i64 i ∧ av = .int .i64 ((1 + U : Nat) : Int) ∧ Hid (U = unitsQ (q.take i)) ∧ Chg Non w wr) (fun _ iv _ => n - (intOf iv).toNat)
  case atStart => exact ⟨0, 0, Nat.zero_le _, rfl, rfl, hide rfl, Chg.refl _ _⟩
  case round =>
    obtain ⟨i, U, hi, rfl, rfl, hU, hcw⟩ := hrel
    by_cases h1 : i < n
    · have hiq : i < q.length := by rw [← HN.out]; exact h1
      obtain ⟨ad, x, hQ, hcell, hd⟩ := (HQ.out.chg hcw (fun _ _ h => h)).at_ hiq
      subst hQ
      have hB := HBQ.out q[i] (List.getElem_mem hiq)
      have hut := unitsQ_take q i hiq
      have hul := unitsQ_le q (i + 1)
      have hU1 : U + q[i].units ≤ 1000000000 := by have := hU.out; have := HUN.out; omega
      have HUT := hide (show U + q[i].units = unitsQ (q.take (i + 1)) by rw [hut, ← hU.out])
      clear hut hul
      cases hqi : q[i] with
      | wr nm a dt =>
        rw [hqi] at hd hB hU1
        have HUT' := hide (show U + (dt.length + 1) = unitsQ (q.take (i + 1)) by have := HUT.out; rw [hqi] at this; exact this)
        obtain ⟨s, dv, rfl, hnm, hsz, hr⟩ := hd
        obtain ⟨D1, nd, cd, rfl⟩ : ∃ A n c, dv = .slice A n c := by obtain ⟨A, c, e, _⟩ := hr.shape; exact ⟨A, _, c, e⟩
        have hB2 : dt.length ≤ 500000000 := by have := hB.2; omega
        have hun := dgWrUnits (s := s) (a := a) hr (by omega)
        unfold wrV at hun
        have hU2 : U + (dt.length + 1) ≤ 1000000000 := hU1
        clear hqi hB HUT hU1 hU hr
        go_wp2_with fail
        refine hun.mono ?_
        rintro e w1 ⟨rfl, hc1⟩
        have hw1 : IntKind.i64.wrap (1 + (U : Int) + ((dt.length : Int) + 1)) = 1 + (U : Int) + ((dt.length : Int) + 1) := IntWalk.i64_in _ (by omega)
        have hcw1 := hcw.trans0 hc1
        clear hun hcell hc1 hcw
        go_wp2_with fail
        go_round
        case rel => exact ⟨i + 1, _, by omega, by go_num, by rw [show ((1 + (U + (dt.length + 1)) : Nat) : Int) = 1 + (U : Int) + ((dt.length : Int) + 1) by omega], hide HUT'.out, hcw1⟩
        case measure => simp [intOf]; omega
      | mv na nb =>
        rw [hqi] at hd hB hU1
        have HUT' := hide (show U + (1) = unitsQ (q.take (i + 1)) by have := HUT.out; rw [hqi] at this; exact this)
        obtain ⟨s, t, rfl, hna, hnb, hsz, htz⟩ := hd
        skip
        have hun := fun w => dgMvUnits w s t
        unfold mvV at hun
        have hU2 : U + 1 ≤ 1000000000 := hU1
        clear hqi hB HUT hU1 hU 
        go_wp2_with fail
        refine (hun _).mono ?_
        rintro e w1 ⟨rfl, hc1⟩
        have hw1 : IntKind.i64.wrap (1 + (U : Int) + 1) = 1 + (U : Int) + 1 := IntWalk.i64_in _ (by omega)
        have hcw1 := hcw.trans0 hc1
        clear hun hcell hc1 hcw
        go_wp2_with fail
        go_round
        case rel => exact ⟨i + 1, _, by omega, by go_num, by rw [show ((1 + (U + (1)) : Nat) : Int) = 1 + (U : Int) + 1 by omega], hide HUT'.out, hcw1⟩
        case measure => simp [intOf]; omega
      | rm nm =>
        rw [hqi] at hd hB hU1
        have HUT' := hide (show U + (1) = unitsQ (q.take (i + 1)) by have := HUT.out; rw [hqi] at this; exact this)
        obtain ⟨s, rfl, hnm, hsz⟩ := hd
        skip
        have hun := fun w => dgRmUnits w s
        unfold rmV at hun
        have hU2 : U + 1 ≤ 1000000000 := hU1
        clear hqi hB HUT hU1 hU 
        go_wp2_with fail
        refine (hun _).mono ?_
        rintro e w1 ⟨rfl, hc1⟩
        have hw1 : IntKind.i64.wrap (1 + (U : Int) + 1) = 1 + (U : Int) + 1 := IntWalk.i64_in _ (by omega)
        have hcw1 := hcw.trans0 hc1
        clear hun hcell hc1 hcw
        go_wp2_with fail
        go_round
        case rel => exact ⟨i + 1, _, by omega, by go_num, by rw [show ((1 + (U + (1)) : Nat) : Int) = 1 + (U : Int) + 1 by omega], hide HUT'.out, hcw1⟩
        case measure => simp [intOf]; omega
      | tr nm sz =>
        rw [hqi] at hd
        exact hd.elim
    · have hin : i = n := by omega
      rw [hin]
      have hUq : U = unitsQ q := by rw [hU.out, List.take_of_length_le (by rw [← HN.out]; omega)]
      have hUb : U ≤ 1000000000 := by rw [hUq]; exact HUN.out
      obtain ⟨A, hA⟩ : ∃ A, A = 1 + U := ⟨_, rfl⟩
      rw [← hA]
      have hA0 : 0 < A := by omega
      have hA1 : A ≤ 1000000001 := by omega
      clear hA hUq hUb hU hin h1 hi
      obtain ⟨K0, hK, hKT⟩ : ∃ K : Nat, (if keep.tmod (A : Int) < 0 then keep.tmod (A : Int) + (A : Int) else keep.tmod (A : Int)) = (K : Int) ∧ K < A := by
        have hT0 : (0 : Int) < (A : Int) := by omega
        have h1 := Int.tmod_lt_of_pos keep hT0
        have h2 : -(A : Int) < keep.tmod (A : Int) := by
          have := Int.lt_tmod_of_pos keep hT0
          omega
        split
        · exact ⟨(keep.tmod (A : Int) + (A : Int)).toNat, by omega, by omega⟩
        · exact ⟨(keep.tmod (A : Int)).toNat, by omega, by omega⟩
      have hbig : -9223372036854775808 ≤ keep.tmod (A : Int) ∧ keep.tmod (A : Int) ≤ 9223372036854775807 := by
        have h0 : (0 : Int) < (A : Int) := by omega
        have h1 := Int.tmod_lt_of_pos keep h0
        have h2 : -(A : Int) < keep.tmod (A : Int) := by
          have := Int.lt_tmod_of_pos keep h0
          omega
        omega
      have hrem : IntKind.i64.wrap (keep.tmod (A : Int)) = keep.tmod (A : Int) := IntWalk.i64_in _ hbig
      have hTne : ¬ ((A : Int) = 0) := by omega
      have HK := hide hK
      clear hK
      go_upto_if 29 with fail
      obtain ⟨w1, rfl⟩ : ∃ w', w' = wr := ⟨_, rfl⟩
      go_cut [1] from 25 (fun v wx => v = .int .i64 (K0 : Int) ∧ wx = w1)
      case first =>
        by_cases hn : keep.tmod (A : Int) < 0
        · have hKe := hide (show keep.tmod (A : Int) + (A : Int) = (K0 : Int) by have := HK.out; rw [if_pos hn] at this; exact this)
          have hw2 : IntKind.i64.wrap (keep.tmod (A : Int) + (A : Int)) = keep.tmod (A : Int) + (A : Int) := IntWalk.i64_in _ (by omega)
          go_wp2_with fail
          go_meet
          case rel => rw [hKe.out]; exact ⟨rfl, rfl⟩
        · have hKe := hide (show keep.tmod (A : Int) = (K0 : Int) by have := HK.out; rw [if_neg hn] at this; exact this)
          go_wp2_with fail
          go_meet
          case rel => rw [hKe.out]; exact ⟨rfl, rfl⟩
      case rest =>
        obtain ⟨rfl, hq2⟩ := hcut
        subst wc
        have hK01 : K0 ≤ 1000000001 := by omega
        clear hbig hrem hTne HK hA0 hA1 hKT
        have hs1 := HSF.out.chg hcw (fun _ _ h => h) (fun _ _ h => h)
        have k0' := hcw.cell k0 (fun h => h)
        have hw01 := hcw.size
        have hcl := hs1.clone
        clear hs1
        go_wp2_with fail
        refine hcl.mono ?_
        rintro e w2 ⟨v', rfl, hs2, hc2, hv⟩
        clear hcl
        have hcw2 := hcw.trans0 hc2
        have hq1 := nilm_eq
        have hmm := @run_makeMap Tryz.prog
        obtain ⟨r', hr'⟩ : ∃ r', v' = .map r' := by
          obtain ⟨l, hl, _⟩ := hs2
          exact hl.form
        subst hr'
        go_upto_if 39 with fail
        go_cut [7] from 40 (fun v7 wx => ∃ Bf, v7 = .map (some Bf) ∧ w.heap.size ≤ Bf ∧ FsAt wx sup F (.map (some Bf)) sf ∧ Chg Non w wx)
        case first =>
          cases r' with
          | none =>
            have hno : sf = noF := by
              obtain ⟨l, hl, e⟩ := hs2
              rcases hl.map with ⟨_, rfl⟩ | ⟨B, e2, _⟩
              · exact e
              · cases e2
            have HNO := hide hno
            have hal := (Chg.refl Non w2).alloc (.map #[] 0)
            have hw02 := hcw2.size
            clear hno
            go_wp2_with fail
            go_meet
            case rel => exact ⟨w2.heap.size, rfl, hw02, ⟨[], FsL.new w2 sup F, HNO.out⟩, hcw2.trans0 hal⟩
          | some B =>
            go_wp2_with fail
            go_meet
            case rel =>
              refine ⟨B, rfl, ?_, hs2, hcw2⟩
              rcases hv with ⟨_, h2⟩ | ⟨h2, _⟩
              · cases h2
              · injection h2 with h2; injection h2 with h2
                omega
        case rest =>
          obtain ⟨Bf, rfl, hBf, hmf, hcw3⟩ := hcut
          obtain ⟨w3, rfl⟩ : ∃ w', w' = wc := ⟨_, rfl⟩
          clear hcw hcw2 hc2 hs2 hv hq1 hmm k0' hw01
          have k2' := hcw3.cell k2 (fun h => h)
          go_wp2_with fail
          go_loopw [1, 46] (fun kv iv wr => ∃ (i K : Nat) (fi : Fls), i ≤ n ∧ iv = .int .i64 i ∧ kv = .int .i64 K ∧ K ≤ 1000000001 ∧ FsAt wr sup (fun b => F b ∨ (w.heap.size ≤ b ∧ b < wr.heap.size ∧ b ≠ Bf)) (.map (some Bf)) fi ∧ Hid (BndF fi) ∧ Hid (crashF sf q K0 = crashF fi (q.drop i) K) ∧ Chg Non w wr) (fun _ iv _ => n - (intOf iv).toNat)
          case atStart => exact ⟨0, K0, sf, Nat.zero_le _, rfl, rfl, hK01, hmf.mono fun b hb => .inl hb, hide HBS.out, hide (by rw [List.drop_zero]), hcw3⟩
          case round =>
            clear hmf hcw3 k2'
            obtain ⟨i, K, fi, hi, rfl, rfl, hK1, hmf, hbd, hcr, hcw⟩ := hrel
            by_cases h1 : i < n
            · have hiq : i < q.length := by rw [← HN.out]; exact h1
              obtain ⟨ad, x, hQ, hcell, hd⟩ := (HQ.out.chg hcw (fun _ _ h => h)).at_ hiq
              subst hQ
              have hB := HBQ.out q[i] (List.getElem_mem hiq)
              have hgo : K ≠ 0 → crashF fi (q.drop i) K = crashF (q[i].app fi (min K q[i].units)) (q.drop (i + 1)) (K - min K q[i].units) := fun h => crash_go hiq h
              have hbn : BndF (q[i].app fi (min K q[i].units)) := hbd.out.app hB _
              have hFw : ∀ b, (F b ∨ (w.heap.size ≤ b ∧ b < wr.heap.size ∧ b ≠ Bf)) → b ≠ Bf := fun b hb => by
                rcases hb with h | h
                · have := HTL.out b (HFF.out b h).1; omega
                · exact h.2.2
              have hBw : Bf < wr.heap.size := by
                obtain ⟨l, hl, _⟩ := hmf
                exact hl.lt rfl
              have HGO := hide hgo
              have HBN := hide hbn
              clear hgo hbn
              cases hqi : q[i] with
              | wr nm a dt =>
                rw [hqi] at hd hB HGO HBN
                obtain ⟨s, dv, rfl, hnm, hsz, hr⟩ := hd
                obtain ⟨D1, nd, cd, rfl⟩ : ∃ A n c, dv = .slice A n c := by obtain ⟨A, c, e, _⟩ := hr.shape; exact ⟨A, _, c, e⟩
                have hB2 : dt.length ≤ 500000000 := by have := hB.2; omega
                have hun := dgWrUnits (s := s) (a := a) hr (by omega)
                unfold wrV at hun
                clear hqi
                by_cases hK0 : K = 0
                · subst hK0
                  have hmin : min (0 : Int) ((dt.length : Int) + 1) = 0 := by omega
                  clear HGO HBN
                  go_wp2_with fail
                  refine hun.mono ?_
                  rintro e w4 ⟨rfl, hc4⟩
                  clear hun hcell
                  have hfs : FsAt w4 sup (fun b => F b ∨ (w.heap.size ≤ b ∧ b < wr.heap.size ∧ b ≠ Bf)) (.map (some Bf)) fi := hmf.chg hc4 (fun _ _ h => h) (fun _ _ h => h)
                  have n4 := hc4.size
                  replace hfs := hfs.mono (F' := fun b => F b ∨ (w.heap.size ≤ b ∧ b < w4.heap.size ∧ b ≠ Bf)) fun b hb => by
                    rcases hb with h | h
                    · exact .inl h
                    · exact .inr ⟨h.1, by omega, h.2.2⟩
                  replace hcw := hcw.trans0 hc4
                  clear hmf hc4 hr
                  have hfin := hide (by rw [hcr.out]; exact crashF_zero _ _ : crashF sf q K0 = fi)
                  have hwE := hcw.size
                  have hBl : Bf < w4.heap.size := by
                    obtain ⟨l, hl, _⟩ := hfs
                    exact hl.lt rfl
                  have hcl := hfs.clone
                  go_wp2_with fail
                  refine hcl.mono ?_
                  rintro e w5 ⟨v5, rfl, hs5, hc5, hv5⟩
                  obtain ⟨hv5, hl5⟩ : v5 = .map (some w4.heap.size) ∧ w4.heap.size < w5.heap.size := by
                    rcases hv5 with ⟨h1, _⟩ | h1
                    · cases h1
                    · exact h1
                  subst hv5
                  have hf5 := hfs.chg hc5 (fun _ _ h => h) (fun _ _ h => h)
                  have hcw5 := hcw.trans0 hc5
                  have hb5 := HBLK.out.c0 hcw5
                  obtain ⟨w6, hw6, hD6, hc6⟩ := HD.out.crashed hcw5 hf5 hs5 (by omega) hBf hwE (fun b hb => by
                    rcases hb with h | h
                    · have h1 := HFF.out b h
                      have h2 := HTL.out b h1.1
                      exact ⟨.inl h1.1, h1.2, by omega, by omega⟩
                    · exact ⟨.inr ⟨h.1, by omega⟩, by omega, h.2.2, by omega⟩)
                  have j0 : w5.cell? ⟨g, 0, none⟩ = some sv := hb5.cell 0
                  have j1 : w5.cell? ⟨g, 1, none⟩ = some nv := hb5.cell 1
                  have j2 : w5.cell? ⟨g, 2, none⟩ = some (.slice (some ad) n cq) := hb5.cell 2
                  have j4 : w5.cell? ⟨g, 4, none⟩ = some (.bool S.arm.isSome) := hb5.cell 4
                  have j5 : w5.cell? ⟨g, 5, none⟩ = some (.int .i64 lv) := hb5.cell 5
                  have j6 : w5.cell? ⟨g, 6, none⟩ = some (.bool S.dead) := hb5.cell 6
                  have f0 := hb5.frozen 0
                  have f1 := hb5.frozen 1
                  have f2 := hb5.frozen 2
                  have f4 := hb5.frozen 4
                  have f5 := hb5.frozen 5
                  have f6 := hb5.frozen 6
                  subst hw6
                  have HD6 := hide hD6
                  have HC6 := hide hc6
                  clear hcl hfs hs5 hf5 hb5 hD6 hc6 hc5
                  go_wp2_with fail
                  exact bodyPost_end (results_none rfl _ _ _) rfl ⟨rfl, K0, by rw [hfin.out]; exact HD6.out, HC6.out⟩
                · obtain ⟨m, hnL, hnK, hnN, hnM⟩ : ∃ m : Nat, m ≤ dt.length ∧ m + 1 ≤ K ∧ min (K : Int) ((dt.length : Int) + 1) = (m : Int) + 1 ∧ min K (dt.length + 1) = m + 1 := by
                    by_cases h : K ≤ dt.length + 1
                    · exact ⟨K - 1, by omega, by omega, by omega, by omega⟩
                    · exact ⟨dt.length, by omega, by omega, by omega, by omega⟩
                  have HG := hide (show crashF sf q K0 = crashF ((Deed.wr nm a dt).app fi (m + 1)) (q.drop (i + 1)) (K - (m + 1)) by rw [hcr.out, HGO.out hK0]; show crashF ((Deed.wr nm a dt).app fi (min K (dt.length + 1))) _ (K - min K (dt.length + 1)) = _; rw [hnM])
                  have HB2 := hide (show BndF ((Deed.wr nm a dt).app fi (m + 1)) by have := HBN.out; rw [show (Deed.wr nm a dt).units = dt.length + 1 from rfl, hnM] at this; exact this)
                  have hdo := fun {wx : World} (hc : Chg Non wr wx) => dgWrDo (n := m) (a := a) (data := dt) hsz (by rw [hnm]; exact hB.1) (hmf.chg hc (fun _ _ h => h) (fun _ _ h => h)) HSL.out hFw ((hr.mono (F' := fun b => F b ∨ (w.heap.size ≤ b ∧ b < wr.heap.size ∧ b ≠ Bf)) fun b hb => .inl hb).c0 hc) hFw hnL (by have := hB.2; omega) (Nat.le_trans (hbd.out _) (by decide))
                  unfold wrV at hdo
                  have hne0 : ((m : Int) + 1 == 0) = false := beq_eq_false_iff_ne.2 (by omega)
                  have hwk : IntKind.i64.wrap ((K : Int) - ((m : Int) + 1)) = (K : Int) - ((m : Int) + 1) := IntWalk.i64_in _ (by omega)
                  have hkk : ((K - (m + 1) : Nat) : Int) = (K : Int) - ((m : Int) + 1) := by omega
                  have HKK := hide hkk
                  have HNM := hide hnm
                  clear HGO HBN hnM hkk hcr hnm
                  go_wp2_with fail
                  refine hun.mono ?_
                  rintro e w4 ⟨rfl, hc4⟩
                  have hdo4 := hdo hc4
                  have n4 := hc4.size
                  clear hun hcell hdo
                  go_wp2_with fail
                  refine hdo4.mono ?_
                  rintro e w5 ⟨rfl, hm5, hc5⟩
                  clear hdo4
                  have n5 := hc5.size
                  have hcw5 : Chg Non w w5 := (hcw.trans0 hc4).trans hc5 fun b hb e => by
                    have e : b = Bf := e
                    omega
                  rw [HNM.out] at hm5
                  replace hm5 := hm5.mono (F' := fun b => F b ∨ (w.heap.size ≤ b ∧ b < w5.heap.size ∧ b ≠ Bf)) fun b hb => by
                    rcases hb with (h | h) | h
                    · exact .inl h
                    · exact .inr ⟨h.1, by omega, h.2.2⟩
                    · exact .inr ⟨by have := hcw.size; omega, h.2, by omega⟩
                  have HM5 := hide hm5
                  clear hc5 hc4 hcw hmf hr hm5
                  go_wp2_with fail
                  go_round
                  case rel => exact ⟨i + 1, K - (m + 1), _, by omega, by go_num, by rw [HKK.out], by omega, HM5.out, HB2, HG, hcw5⟩
                  case measure => simp [intOf]; omega
              | mv na nb =>
                rw [hqi] at hd hB HGO HBN
                obtain ⟨s, t, rfl, hna, hnb, hsz, htz⟩ := hd
                skip
                have hun := fun w => dgMvUnits w s t
                unfold mvV at hun
                clear hqi
                by_cases hK0 : K = 0
                · subst hK0
                  have hmin : min (0 : Int) 1 = 0 := by omega
                  clear HGO HBN
                  go_wp2_with fail
                  refine (hun _).mono ?_
                  rintro e w4 ⟨rfl, hc4⟩
                  clear hun hcell
                  have hfs : FsAt w4 sup (fun b => F b ∨ (w.heap.size ≤ b ∧ b < wr.heap.size ∧ b ≠ Bf)) (.map (some Bf)) fi := hmf.chg hc4 (fun _ _ h => h) (fun _ _ h => h)
                  have n4 := hc4.size
                  replace hfs := hfs.mono (F' := fun b => F b ∨ (w.heap.size ≤ b ∧ b < w4.heap.size ∧ b ≠ Bf)) fun b hb => by
                    rcases hb with h | h
                    · exact .inl h
                    · exact .inr ⟨h.1, by omega, h.2.2⟩
                  replace hcw := hcw.trans0 hc4
                  clear hmf hc4 
                  have hfin := hide (by rw [hcr.out]; exact crashF_zero _ _ : crashF sf q K0 = fi)
                  have hwE := hcw.size
                  have hBl : Bf < w4.heap.size := by
                    obtain ⟨l, hl, _⟩ := hfs
                    exact hl.lt rfl
                  have hcl := hfs.clone
                  go_wp2_with fail
                  refine hcl.mono ?_
                  rintro e w5 ⟨v5, rfl, hs5, hc5, hv5⟩
                  obtain ⟨hv5, hl5⟩ : v5 = .map (some w4.heap.size) ∧ w4.heap.size < w5.heap.size := by
                    rcases hv5 with ⟨h1, _⟩ | h1
                    · cases h1
                    · exact h1
                  subst hv5
                  have hf5 := hfs.chg hc5 (fun _ _ h => h) (fun _ _ h => h)
                  have hcw5 := hcw.trans0 hc5
                  have hb5 := HBLK.out.c0 hcw5
                  obtain ⟨w6, hw6, hD6, hc6⟩ := HD.out.crashed hcw5 hf5 hs5 (by omega) hBf hwE (fun b hb => by
                    rcases hb with h | h
                    · have h1 := HFF.out b h
                      have h2 := HTL.out b h1.1
                      exact ⟨.inl h1.1, h1.2, by omega, by omega⟩
                    · exact ⟨.inr ⟨h.1, by omega⟩, by omega, h.2.2, by omega⟩)
                  have j0 : w5.cell? ⟨g, 0, none⟩ = some sv := hb5.cell 0
                  have j1 : w5.cell? ⟨g, 1, none⟩ = some nv := hb5.cell 1
                  have j2 : w5.cell? ⟨g, 2, none⟩ = some (.slice (some ad) n cq) := hb5.cell 2
                  have j4 : w5.cell? ⟨g, 4, none⟩ = some (.bool S.arm.isSome) := hb5.cell 4
                  have j5 : w5.cell? ⟨g, 5, none⟩ = some (.int .i64 lv) := hb5.cell 5
                  have j6 : w5.cell? ⟨g, 6, none⟩ = some (.bool S.dead) := hb5.cell 6
                  have f0 := hb5.frozen 0
                  have f1 := hb5.frozen 1
                  have f2 := hb5.frozen 2
                  have f4 := hb5.frozen 4
                  have f5 := hb5.frozen 5
                  have f6 := hb5.frozen 6
                  subst hw6
                  have HD6 := hide hD6
                  have HC6 := hide hc6
                  clear hcl hfs hs5 hf5 hb5 hD6 hc6 hc5
                  go_wp2_with fail
                  exact bodyPost_end (results_none rfl _ _ _) rfl ⟨rfl, K0, by rw [hfin.out]; exact HD6.out, HC6.out⟩
                · have hmin : min (K : Int) 1 = 1 := by omega
                  have hnM : min K 1 = 1 := by omega
                  have HG := hide (show crashF sf q K0 = crashF ((Deed.mv na nb).app fi 1) (q.drop (i + 1)) (K - 1) by rw [hcr.out, HGO.out hK0]; show crashF ((Deed.mv na nb).app fi (min K 1)) _ (K - min K 1) = _; rw [hnM])
                  have HB2 := hide (show BndF ((Deed.mv na nb).app fi 1) by have := HBN.out; rw [show (Deed.mv na nb).units = 1 from rfl, hnM] at this; exact this)
                  have hdo := fun {wx : World} (hc : Chg Non wr wx) (nn : Value) => dgMvDo hsz htz (by rw [hnb]; exact hB) HSL.out (hmf.chg hc (fun _ _ h => h) (fun _ _ h => h)) hFw (n := nn) 1
                  unfold mvV at hdo
                  have hwk : IntKind.i64.wrap ((K : Int) - 1) = (K : Int) - 1 := IntWalk.i64_in _ (by omega)
                  have hkk : ((K - 1 : Nat) : Int) = (K : Int) - 1 := by omega
                  have HKK := hide hkk
                  have HNM := hide (And.intro hna hnb)
                  clear HGO HBN hnM hkk hcr hna hnb
                  go_wp2_with fail
                  refine (hun _).mono ?_
                  rintro e w4 ⟨rfl, hc4⟩
                  have hdo4 := fun nn => hdo hc4 nn
                  have n4 := hc4.size
                  clear hun hcell hdo
                  go_wp2_with fail
                  refine (hdo4 _).mono ?_
                  rintro e w5 ⟨rfl, hm5, hc5⟩
                  clear hdo4
                  have n5 := hc5.size
                  have hcw5 : Chg Non w w5 := (hcw.trans0 hc4).trans hc5 fun b hb e => by
                    have e : b = Bf := e
                    omega
                  rw [HNM.out.1, HNM.out.2] at hm5
                  replace hm5 := hm5.mono (F' := fun b => F b ∨ (w.heap.size ≤ b ∧ b < w5.heap.size ∧ b ≠ Bf)) fun b hb => by
                    rcases hb with h | h
                    · exact .inl h
                    · exact .inr ⟨h.1, by omega, h.2.2⟩

                  have HM5 := hide hm5
                  clear hc5 hc4 hcw hmf  hm5
                  go_wp2_with fail
                  go_round
                  case rel => exact ⟨i + 1, K - (1), _, by omega, by go_num, by rw [HKK.out], by omega, HM5.out, HB2, HG, hcw5⟩
                  case measure => simp [intOf]; omega
              | rm nm =>
                rw [hqi] at hd hB HGO HBN
                obtain ⟨s, rfl, hnm, hsz⟩ := hd
                skip
                have hun := fun w => dgRmUnits w s
                unfold rmV at hun
                clear hqi
                by_cases hK0 : K = 0
                · subst hK0
                  have hmin : min (0 : Int) 1 = 0 := by omega
                  clear HGO HBN
                  go_wp2_with fail
                  refine (hun _).mono ?_
                  rintro e w4 ⟨rfl, hc4⟩
                  clear hun hcell
                  have hfs : FsAt w4 sup (fun b => F b ∨ (w.heap.size ≤ b ∧ b < wr.heap.size ∧ b ≠ Bf)) (.map (some Bf)) fi := hmf.chg hc4 (fun _ _ h => h) (fun _ _ h => h)
                  have n4 := hc4.size
                  replace hfs := hfs.mono (F' := fun b => F b ∨ (w.heap.size ≤ b ∧ b < w4.heap.size ∧ b ≠ Bf)) fun b hb => by
                    rcases hb with h | h
                    · exact .inl h
                    · exact .inr ⟨h.1, by omega, h.2.2⟩
                  replace hcw := hcw.trans0 hc4
                  clear hmf hc4 
                  have hfin := hide (by rw [hcr.out]; exact crashF_zero _ _ : crashF sf q K0 = fi)
                  have hwE := hcw.size
                  have hBl : Bf < w4.heap.size := by
                    obtain ⟨l, hl, _⟩ := hfs
                    exact hl.lt rfl
                  have hcl := hfs.clone
                  go_wp2_with fail
                  refine hcl.mono ?_
                  rintro e w5 ⟨v5, rfl, hs5, hc5, hv5⟩
                  obtain ⟨hv5, hl5⟩ : v5 = .map (some w4.heap.size) ∧ w4.heap.size < w5.heap.size := by
                    rcases hv5 with ⟨h1, _⟩ | h1
                    · cases h1
                    · exact h1
                  subst hv5
                  have hf5 := hfs.chg hc5 (fun _ _ h => h) (fun _ _ h => h)
                  have hcw5 := hcw.trans0 hc5
                  have hb5 := HBLK.out.c0 hcw5
                  obtain ⟨w6, hw6, hD6, hc6⟩ := HD.out.crashed hcw5 hf5 hs5 (by omega) hBf hwE (fun b hb => by
                    rcases hb with h | h
                    · have h1 := HFF.out b h
                      have h2 := HTL.out b h1.1
                      exact ⟨.inl h1.1, h1.2, by omega, by omega⟩
                    · exact ⟨.inr ⟨h.1, by omega⟩, by omega, h.2.2, by omega⟩)
                  have j0 : w5.cell? ⟨g, 0, none⟩ = some sv := hb5.cell 0
                  have j1 : w5.cell? ⟨g, 1, none⟩ = some nv := hb5.cell 1
                  have j2 : w5.cell? ⟨g, 2, none⟩ = some (.slice (some ad) n cq) := hb5.cell 2
                  have j4 : w5.cell? ⟨g, 4, none⟩ = some (.bool S.arm.isSome) := hb5.cell 4
                  have j5 : w5.cell? ⟨g, 5, none⟩ = some (.int .i64 lv) := hb5.cell 5
                  have j6 : w5.cell? ⟨g, 6, none⟩ = some (.bool S.dead) := hb5.cell 6
                  have f0 := hb5.frozen 0
                  have f1 := hb5.frozen 1
                  have f2 := hb5.frozen 2
                  have f4 := hb5.frozen 4
                  have f5 := hb5.frozen 5
                  have f6 := hb5.frozen 6
                  subst hw6
                  have HD6 := hide hD6
                  have HC6 := hide hc6
                  clear hcl hfs hs5 hf5 hb5 hD6 hc6 hc5
                  go_wp2_with fail
                  exact bodyPost_end (results_none rfl _ _ _) rfl ⟨rfl, K0, by rw [hfin.out]; exact HD6.out, HC6.out⟩
                · have hmin : min (K : Int) 1 = 1 := by omega
                  have hnM : min K 1 = 1 := by omega
                  have HG := hide (show crashF sf q K0 = crashF ((Deed.rm nm).app fi 1) (q.drop (i + 1)) (K - 1) by rw [hcr.out, HGO.out hK0]; show crashF ((Deed.rm nm).app fi (min K 1)) _ (K - min K 1) = _; rw [hnM])
                  have HB2 := hide (show BndF ((Deed.rm nm).app fi 1) by have := HBN.out; rw [show (Deed.rm nm).units = 1 from rfl, hnM] at this; exact this)
                  have hdo := fun {wx : World} (hc : Chg Non wr wx) (nn : Value) => dgRmDo hsz (hmf.chg hc (fun _ _ h => h) (fun _ _ h => h)) hFw (n := nn) 1
                  unfold rmV at hdo
                  have hwk : IntKind.i64.wrap ((K : Int) - 1) = (K : Int) - 1 := IntWalk.i64_in _ (by omega)
                  have hkk : ((K - 1 : Nat) : Int) = (K : Int) - 1 := by omega
                  have HKK := hide hkk
                  have HNM := hide hnm
                  clear HGO HBN hnM hkk hcr hnm
                  go_wp2_with fail
                  refine (hun _).mono ?_
                  rintro e w4 ⟨rfl, hc4⟩
                  have hdo4 := fun nn => hdo hc4 nn
                  have n4 := hc4.size
                  clear hun hcell hdo
                  go_wp2_with fail
                  refine (hdo4 _).mono ?_
                  rintro e w5 ⟨rfl, hm5, hc5⟩
                  clear hdo4
                  have n5 := hc5.size
                  have hcw5 : Chg Non w w5 := (hcw.trans0 hc4).trans hc5 fun b hb e => by
                    have e : b = Bf := e
                    omega
                  rw [HNM.out] at hm5
                  replace hm5 := hm5.mono (F' := fun b => F b ∨ (w.heap.size ≤ b ∧ b < w5.heap.size ∧ b ≠ Bf)) fun b hb => by
                    rcases hb with h | h
                    · exact .inl h
                    · exact .inr ⟨h.1, by omega, h.2.2⟩

                  have HM5 := hide hm5
                  clear hc5 hc4 hcw hmf  hm5
                  go_wp2_with fail
                  go_round
                  case rel => exact ⟨i + 1, K - (1), _, by omega, by go_num, by rw [HKK.out], by omega, HM5.out, HB2, HG, hcw5⟩
                  case measure => simp [intOf]; omega
              | tr nm sz =>
                rw [hqi] at hd
                exact hd.elim
            · have hfs := hmf
              clear hmf
              have hfin := hide (by rw [hcr.out, List.drop_of_length_le (by rw [← HN.out]; omega)]; cases K <;> rfl : crashF sf q K0 = fi)
              have hwE := hcw.size
              have hBl : Bf < wr.heap.size := by
                obtain ⟨l, hl, _⟩ := hfs
                exact hl.lt rfl
              have hcl := hfs.clone
              go_wp2_with fail
              refine hcl.mono ?_
              rintro e w5 ⟨v5, rfl, hs5, hc5, hv5⟩
              obtain ⟨hv5, hl5⟩ : v5 = .map (some wr.heap.size) ∧ wr.heap.size < w5.heap.size := by
                rcases hv5 with ⟨h1, _⟩ | h1
                · cases h1
                · exact h1
              subst hv5
              have hf5 := hfs.chg hc5 (fun _ _ h => h) (fun _ _ h => h)
              have hcw5 := hcw.trans0 hc5
              have hb5 := HBLK.out.c0 hcw5
              obtain ⟨w6, hw6, hD6, hc6⟩ := HD.out.crashed hcw5 hf5 hs5 (by omega) hBf hwE (fun b hb => by
                rcases hb with h | h
                · have h1 := HFF.out b h
                  have h2 := HTL.out b h1.1
                  exact ⟨.inl h1.1, h1.2, by omega, by omega⟩
                · exact ⟨.inr ⟨h.1, by omega⟩, by omega, h.2.2, by omega⟩)
              have j0 : w5.cell? ⟨g, 0, none⟩ = some sv := hb5.cell 0
              have j1 : w5.cell? ⟨g, 1, none⟩ = some nv := hb5.cell 1
              have j2 : w5.cell? ⟨g, 2, none⟩ = some (.slice Q n cq) := hb5.cell 2
              have j4 : w5.cell? ⟨g, 4, none⟩ = some (.bool S.arm.isSome) := hb5.cell 4
              have j5 : w5.cell? ⟨g, 5, none⟩ = some (.int .i64 lv) := hb5.cell 5
              have j6 : w5.cell? ⟨g, 6, none⟩ = some (.bool S.dead) := hb5.cell 6
              have f0 := hb5.frozen 0
              have f1 := hb5.frozen 1
              have f2 := hb5.frozen 2
              have f4 := hb5.frozen 4
              have f5 := hb5.frozen 5
              have f6 := hb5.frozen 6
              subst hw6
              have HD6 := hide hD6
              have HC6 := hide hc6
              clear hcl hfs hs5 hf5 hb5 hD6 hc6 hc5
              go_wp2_with fail
              exact bodyPost_end (results_none rfl _ _ _) rfl ⟨rfl, K0, by rw [hfin.out]; exact HD6.out, HC6.out⟩

end Go.Proofs.YtfgecgmgbngeaaaGreat
