/- The walk of drive's Crash. -/
import Derived.Test.YtjagiahfndcbhaaDrvE
import Derived.Lib.MinMax
namespace Go.Proofs.Ytjagiahfndcbhaa
open Go.RowKit Go.Maps

def unitsB (q : List (List UInt8)) : Nat := (q.map fun l => l.length + 1).sum
theorem unitsB_take (q : List (List UInt8)) (i : Nat) (h : i < q.length) : unitsB (q.take (i + 1)) = unitsB (q.take i) + (q[i].length + 1) := by
  rw [unitsB, unitsB, List.take_succ_eq_append_getElem h, List.map_append, List.sum_append]; simp only [List.map_cons, List.map_nil, List.sum_cons, List.sum_nil, Nat.add_zero]
theorem unitsB_le (q : List (List UInt8)) (i : Nat) : unitsB (q.take i) ≤ unitsB q := by
  have h : q = q.take i ++ q.drop i := by simp
  have e : unitsB q = unitsB (q.take i) + unitsB (q.drop i) := by
    conv => lhs; rw [h]
    simp only [unitsB, List.map_append, List.sum_append]
  omega
theorem len_units (q : List (List UInt8)) (i : Nat) (h : i < q.length) : q[i].length + 1 ≤ unitsB q := by
  have h1 := unitsB_take q i h
  have h2 := unitsB_le q (i + 1)
  omega
theorem flatten_take_len (q : List (List UInt8)) (i : Nat) : (q.take i).flatten = q.flatten.take (q.take i).flatten.length := by
  have h : q.flatten = (q.take i).flatten ++ (q.drop i).flatten := by rw [← List.flatten_append, List.take_append_drop]
  conv => rhs; rw [h]
  rw [List.take_left]
theorem flatten_take_part (q : List (List UInt8)) (i n : Nat) (h : i < q.length) (hn : n ≤ q[i].length) : (q.take i).flatten ++ q[i].take n = q.flatten.take ((q.take i).flatten.length + n) := by
  have h2 : q.flatten = (q.take i).flatten ++ (q[i] ++ (q.drop (i + 1)).flatten) := by
    rw [← List.flatten_cons, ← List.flatten_append]
    simp
  conv => rhs; rw [h2]
  rw [List.take_length_add_append, List.take_append_of_le_length hn]
theorem unitsB_eq (q : List (List UInt8)) : unitsB q = q.flatten.length + q.length := by
  induction q with
  | nil => simp [unitsB]
  | cons l q ih => simp only [unitsB, List.flatten_cons, List.length_append, List.map_cons, List.sum_cons, List.length_cons] at ih ⊢; omega
theorem flatten_le (q : List (List UInt8)) : q.flatten.length ≤ unitsB q := by
  induction q with
  | nil => simp [unitsB]
  | cons l q ih => simp only [unitsB, List.flatten_cons, List.length_append, List.map_cons, List.sum_cons] at ih ⊢; omega

theorem QS.at_ {w : World} {F : Nat → Prop} {Q : Option Addr} {n c p : Nat} {q : List (List UInt8)} (h : QS w F (.slice Q n c) p q) {i : Nat} (hi : i < q.length) :
    ∃ ad d, Q = some ad ∧ w.cell? (ad.add i) = some (wI (p + (q.take i).flatten.length) d) ∧ RdB w F d q[i] := by
  obtain ⟨xs, h1, h2, h3⟩ := h
  obtain ⟨A', c', e, _, _⟩ := h2.shape
  injection e with e1 e2 e3
  subst e1; subst e2; subst e3
  obtain ⟨ad, u, hA, hf, hu, hc⟩ := RdV.at_ h2 hi (i := 0) (by omega)
  simp only [Nat.mul_one, Nat.add_zero] at hu hc
  obtain ⟨d, e, hd⟩ := h3 i u q[i] hu (List.getElem?_eq_getElem hi)
  subst e
  exact ⟨ad, d, hA, hc, hd⟩
theorem QS.shape {w : World} {F : Nat → Prop} {v : Value} {p : Nat} {q : List (List UInt8)} (h : QS w F v p q) : ∃ Q c, v = .slice Q q.length c ∧ q.length ≤ c ∧ c ≤ maxLen := by
  obtain ⟨xs, h1, h2, h3⟩ := h
  exact h2.shape

theorem Drv.crashed {w wx : World} {base g Bf B2 : Nat} {F F' : Nat → Prop} {sv nv qv : Value} {so no o : Option (List UInt8)} {q : List (List UInt8)} (h : Drv w base g F sv nv qv so no q) (hc : Chg Non w wx)
    (hs : FS wx base F' (.map (some Bf)) o) (hn : FS wx base F' (.map (some B2)) o) (hne : Bf ≠ B2) (hF : ∀ b, F' b → base ≤ b ∧ b < wx.heap.size ∧ b ≠ g) :
    ∃ w', w' = ((((((wx.setCell ⟨g, 0, none⟩ (.map (some Bf))).setCell ⟨g, 1, none⟩ (.map (some B2))).setCell ⟨g, 2, none⟩ nilS).setCell ⟨g, 6, none⟩ (.bool false)).setCell ⟨g, 4, none⟩ (.bool false)).setCell ⟨g, 5, none⟩ (.int .i64 0)) ∧
      Drv w' base g F' (.map (some Bf)) (.map (some B2)) nilS o o [] ∧ Chg (fun k => k = g) w w' := by
  have hb := ((((((h.blk.c0 hc).set_ 0 (.map (some Bf))).set_ 1 (.map (some B2))).set_ 2 nilS).set_ 6 (.bool false)).set_ 4 (.bool false)).set_ 5 (.int .i64 0)
  simp at hb
  have st : ∀ {a b : World} (i : Nat) (v : Value), Chg (fun k => k = g) a b → Chg (fun k => k = g) a (b.setCell ⟨g, i, none⟩ v) := fun i v h => Chg.setCell (p := ⟨g, i, none⟩) h (fun _ => rfl) v
  have h2 := st 5 (.int .i64 0) (st 4 (.bool false) (st 6 (.bool false) (st 2 nilS (st 1 (.map (some B2)) (st 0 (.map (some Bf)) (Chg.refl (fun k => k = g) wx))))))
  have hmap : ∀ v, FS wx base F' v o → ∀ B, v = .map (some B) → ¬ B = g := fun v hf B e e2 => by
    obtain ⟨u, hu⟩ := hf.map e
    exact hu.no_cells (e2 ▸ h.blk.c0 hc)
  have hF2 : ∀ b, F' b → ¬ b = g := fun b hb => (hF b hb).2.2
  refine ⟨_, rfl, ⟨hb, h.le, hs.chg h2 hF2 (hmap _ hs), hn.chg h2 hF2 (hmap _ hn), QS.nil_ _ _ _, by simp, fun B e e2 => ?_, fun b hb => ⟨(hF b hb).1, Nat.lt_of_lt_of_le (hF b hb).2.1 h2.size, (hF b hb).2.2⟩⟩, (hc.mono fun _ _ h => h.elim).trans h2 fun _ _ h => h⟩
  injection e with e; injection e with e
  injection e2 with e2; injection e2 with e2
  exact hne (e.trans e2.symm)
theorem wrDo3 {w : World} {B n : Nat} {o : Option Value} {old data : List UInt8} {F G : Nat → Prop} {dv : Value} (hm : FMap w B o) (ho : RdB w F (o.getD nilS) old) (hd : RdB w G dv data) (hn : n ≤ data.length) (hsz : old.length + data.length ≤ 1000000000) :
    Calls Try.prog 60 #[wV old.length dv, .map (some B), .int .i64 ((n : Int) + 1)] w fun e w' =>
      e = .returned (.tuple #[]) ∧ ∃ u, FMap w' B (some u) ∧ RdB w' (fun k => w.heap.size ≤ k) u (old ++ data.take n) ∧ Chg (fun k => k = B) w w' := wrDo hm ho hd hn hsz

set_option maxHeartbeats 4000000 in
theorem drvCrash {w : World} {base g : Nat} {F : Nat → Prop} {sv nv qv : Value} {so no : Option (List UInt8)} {q : List (List UInt8)} {keep : Int} (h : Drv w base g F sv nv qv so no q)
    (hsz : (so.getD []).length + unitsB q ≤ 100000000) (hbw : base ≤ w.heap.size) :
    Calls Try.prog 11 #[.pointer (some ⟨g, 0, none⟩), .int .i64 keep] w fun e w' => e = .returned (.tuple #[]) ∧ ∃ F' sv' nv' so' m, Drv w' base g F' sv' nv' nilS so' so' [] ∧ so'.getD [] = so.getD [] ++ q.flatten.take m ∧ Chg (fun k => k = g) w w' ∧
      ∀ b, F' b → F b ∨ w.heap.size ≤ b := by
  have k2 := h.blk.cell 2
  have k0 := h.blk.cell 0
  simp at k0 k2
  obtain ⟨Q, cq, rfl, hcq, hmq⟩ := h.qu.shape
  unfold maxLen at hmq
  have hmu := methUnits
  have hmd := methDo
  have had := aheadDo
  have HD := hide h
  clear h
  go_enter Try.func11, Try.ntmps11
  go_wp2_with fail
  go_loopw [4, 16] (fun av iv wr => ∃ (i : Nat), i ≤ q.length ∧ iv = .int .i64 i ∧ av = .int .i64 ((1 + unitsB (q.take i) : Nat) : Int) ∧ Chg Non w wr) (fun _ iv _ => q.length - (intOf iv).toNat)
  case atStart => exact ⟨0, Nat.zero_le _, rfl, rfl, Chg.refl _ _⟩
  case round =>
    obtain ⟨i, hi, rfl, rfl, hcw⟩ := hrel
    by_cases h1 : i < q.length
    · obtain ⟨ad, d, rfl, hcell, hd⟩ := (HD.out.qu.chg hcw (fun _ _ h => h)).at_ h1
      have hut := unitsB_take q i h1
      have hul := unitsB_le q (i + 1)
      have hun := wrUnits (a := (so.getD []).length + (q.take i).flatten.length) hd (by omega)
      obtain ⟨L, hL⟩ : ∃ L, L = q[i].length := ⟨_, rfl⟩
      obtain ⟨pos, hpos⟩ : ∃ pos, pos = (so.getD []).length + (q.take i).flatten.length := ⟨_, rfl⟩
      rw [← hL] at hun hut
      rw [← hpos] at hcell hun
      obtain ⟨D1, nd, cd, rfl⟩ : ∃ A n c, d = .slice A n c := by obtain ⟨A, c, e, _⟩ := hd.shape; exact ⟨A, _, c, e⟩
      obtain ⟨U, hU⟩ : ∃ U, U = unitsB (q.take i) := ⟨_, rfl⟩
      rw [← hU] at hut ⊢
      have HUT := hide hut
      unfold wI wV at hcell
      unfold wV at hun
      clear hL hpos hU hut hd
      go_wp2_with fail
      refine hun.mono ?_
      rintro e w1 ⟨rfl, hc1⟩
      have hw1 : IntKind.i64.wrap (1 + (U : Int) + ((L : Int) + 1)) = 1 + (U : Int) + ((L : Int) + 1) := IntWalk.i64_in _ (by have := HUT.out; omega)
      have hcw1 := hcw.trans0 hc1
      clear hun hcell hc1 hcw
      go_wp2_with fail
      go_round
      case rel => exact ⟨i + 1, by omega, by go_num, by rw [HUT.out]; congr 1; omega, hcw1⟩
      case measure => simp [intOf]; omega
    · obtain rfl : i = q.length := by omega
      rw [List.take_of_length_le (Nat.le_refl _)]
      obtain ⟨T, hT⟩ : ∃ T, T = 1 + unitsB q := ⟨_, rfl⟩
      rw [← hT]
      have HT := hide hT
      obtain ⟨K, hK, hKT⟩ : ∃ K : Nat, (if keep.tmod (T : Int) < 0 then keep.tmod (T : Int) + (T : Int) else keep.tmod (T : Int)) = (K : Int) ∧ K < T := by
        have hT0 : (0 : Int) < (T : Int) := by omega
        have h1 := Int.tmod_lt_of_pos keep hT0
        have h2 : -(T : Int) < keep.tmod (T : Int) := by
          have := Int.lt_tmod_of_pos keep hT0
          omega
        split
        · exact ⟨(keep.tmod (T : Int) + (T : Int)).toNat, by omega, by omega⟩
        · exact ⟨(keep.tmod (T : Int)).toNat, by omega, by omega⟩
      have hT0 : 0 < T := by omega
      have hT1 : T ≤ 100000001 := by omega
      clear hT h1
      have hbig : -9223372036854775808 ≤ keep.tmod (T : Int) ∧ keep.tmod (T : Int) ≤ 9223372036854775807 := by
        have h0 : (0 : Int) < (T : Int) := by omega
        have h1 := Int.tmod_lt_of_pos keep h0
        have h2 : -(T : Int) < keep.tmod (T : Int) := by
          have := Int.lt_tmod_of_pos keep h0
          omega
        omega
      have hrem : IntKind.i64.wrap (keep.tmod (T : Int)) = keep.tmod (T : Int) := IntWalk.i64_in _ hbig
      have hTne : ¬ ((T : Int) = 0) := by omega
      have HK := hide hK
      clear hK
      go_upto_if 29 with fail
      obtain ⟨w1, rfl⟩ : ∃ w', w' = wr := ⟨_, rfl⟩
      go_cut [1] from 25 (fun v wx => v = .int .i64 (K : Int) ∧ wx = w1)
      case first =>
        by_cases hn : keep.tmod (T : Int) < 0
        · have hKe := hide (show keep.tmod (T : Int) + (T : Int) = (K : Int) by have := HK.out; rw [if_pos hn] at this; exact this)
          have hw2 : IntKind.i64.wrap (keep.tmod (T : Int) + (T : Int)) = keep.tmod (T : Int) + (T : Int) := IntWalk.i64_in _ (by omega)
          go_wp2_with fail
          go_meet
          case rel => rw [hKe.out]; exact ⟨rfl, rfl⟩
        · have hKe := hide (show keep.tmod (T : Int) = (K : Int) by have := HK.out; rw [if_neg hn] at this; exact this)
          go_wp2_with fail
          go_meet
          case rel => rw [hKe.out]; exact ⟨rfl, rfl⟩
      case rest =>
        obtain ⟨rfl, hq2⟩ := hcut
        subst wc
        clear hbig hrem hTne HK
        have hs1 := HD.out.s.chg hcw (fun _ _ h => h) (fun _ _ h => h)
        have k0' := hcw.cell k0 (fun h => h)
        have hw01 := hcw.size
        have hcl := hs1.clone (by omega)
        clear hs1
        go_wp2_with fail
        refine hcl.mono ?_
        rintro e w2 ⟨v', rfl, hs2, hc2, hv⟩
        clear hcl
        have hcw2 := hcw.trans0 hc2
        have hq1 := nilm_eq
        have hmm := @run_makeMap Try.prog
        obtain ⟨r', hr'⟩ : ∃ r', v' = .map r' := by
          rcases hv with ⟨_, h2⟩ | h2
          · exact ⟨_, h2⟩
          · exact ⟨_, h2⟩
        subst hr'
        go_upto_if 39 with fail
        go_cut [7] from 40 (fun v7 wx => ∃ Bf u, v7 = .map (some Bf) ∧ w.heap.size ≤ Bf ∧ FMap wx Bf u ∧ RdB wx F (u.getD nilS) (so.getD []) ∧ Chg Non w wx)
        case first =>
          rcases hs2 with ⟨e1, e2⟩ | ⟨B, u, e1, e2, hm2, h3⟩
          · injection e1 with e1
            subst e1
            have hal := (Chg.refl Non w2).alloc (.map #[] 0)
            have hw02 := hcw2.size
            go_wp2_with fail
            go_meet
            case rel => exact ⟨w2.heap.size, none, rfl, hw02, FMap.new w2, by rw [e2]; exact RdB.nil_ _ _, hcw2.trans0 hal⟩
          · injection e1 with e1
            subst e1
            go_wp2_with fail
            go_meet
            case rel =>
              refine ⟨B, u, rfl, ?_, hm2, ?_, hcw2⟩
              · rcases hv with ⟨_, h2⟩ | h2
                · cases h2
                · injection h2 with h2; injection h2 with h2
                  omega
              · rcases h3 with ⟨rfl, rfl⟩ | ⟨x, l, rfl, rfl, h6⟩
                · exact RdB.nil_ _ _
                · exact h6
        case rest =>
          obtain ⟨Bf, u, rfl, hBf, hmf, hrf, hcw3⟩ := hcut
          obtain ⟨w3, rfl⟩ : ∃ w', w' = wc := ⟨_, rfl⟩
          clear hcw hcw2 hc2 hs2 hv hq1 hmm k0' hw01
          have k2' := hcw3.cell k2 (fun h => h)
          have hw03 := hcw3.size
          go_wp2_with fail
          have hgl := HD.out.blk.lt
          go_loopw [1, 46] (fun kv iv wr => ∃ (i K m : Nat) (u : Option Value) (ct : List UInt8), i ≤ q.length ∧ iv = .int .i64 i ∧ kv = .int .i64 K ∧ K ≤ 100000001 ∧ FMap wr Bf u ∧ RdB wr (fun b => F b ∨ w.heap.size ≤ b) (u.getD nilS) (so.getD [] ++ ct) ∧ Hid (ct = q.flatten.take m) ∧ Hid (K = 0 ∨ ct = (q.take i).flatten) ∧ Chg Non w wr) (fun _ iv _ => q.length - (intOf iv).toNat)
          case atStart => exact ⟨0, K, 0, u, [], Nat.zero_le _, rfl, rfl, by omega, hmf, by rw [List.append_nil]; exact hrf.mono fun b hb => .inl hb, hide rfl, hide (.inr rfl), hcw3⟩
          case round =>
            clear hmf hrf hcw3 hw03
            obtain ⟨i, K, m, u, ct, hi, rfl, rfl, hK1, hmf, hrf, hct, hKc, hcw⟩ := hrel
            by_cases h1 : i < q.length
            · obtain ⟨ad, d, rfl, hcell, hd⟩ := (HD.out.qu.chg hcw (fun _ _ h => h)).at_ h1
              have hlu := len_units q i h1
              have hun := wrUnits (a := (so.getD []).length + (q.take i).flatten.length) hd (by omega)
              obtain ⟨D1, nd, cd, rfl⟩ : ∃ A n c, d = .slice A n c := by obtain ⟨A, c, e, _⟩ := hd.shape; exact ⟨A, _, c, e⟩
              obtain ⟨L, hL⟩ : ∃ L, L = q[i].length := ⟨_, rfl⟩
              obtain ⟨pos, hpos⟩ : ∃ pos, pos = (so.getD []).length + (q.take i).flatten.length := ⟨_, rfl⟩
              rw [← hL] at hun hlu
              rw [← hpos] at hcell hun
              have HPOS := hide hpos
              have HLQ := hide hL
              unfold wI wV at hcell
              unfold wV at hun
              clear hL hpos
              by_cases hK0 : K = 0
              · subst hK0
                have hmin : min (0 : Int) ((L : Int) + 1) = 0 := by omega
                go_wp2_with fail
                refine hun.mono ?_
                rintro e w4 ⟨rfl, hc4⟩
                clear hun hcell hd
                replace hmf := hmf.chg hc4 (fun h => h)
                replace hrf := hrf.c0 hc4
                replace hcw := hcw.trans0 hc4
                have hfs : FS w4 base (fun b => (F b ∨ w.heap.size ≤ b) ∧ b < w4.heap.size ∧ b ≠ g) (.map (some Bf)) (u.map fun _ => so.getD [] ++ ct) := by
                  refine .inr ⟨Bf, u, rfl, by omega, hmf, ?_⟩
                  cases u with
                  | none => exact .inl ⟨rfl, rfl⟩
                  | some x =>
                    refine .inr ⟨x, _, rfl, rfl, (hrf.lt).mono fun b hb => ⟨hb.1, hb.2, fun e => ?_⟩⟩
                    rcases hb.1 with h | h
                    · exact (HD.out.f b h).2.2 e
                    · omega
                have hso : (u.map fun _ => so.getD [] ++ ct).getD [] = so.getD [] ++ q.flatten.take m := by
                  rw [← hct.out]
                  cases u with
                  | none =>
                    have h2 : (Value.slice none 0 0) = nilS := rfl
                    exact (hrf.is_nil).symm
                  | some x => rfl
                have hwr := hcw.size
                have hcl := hfs.clone (by omega)
                go_wp2_with fail
                refine hcl.mono ?_
                rintro e w5 ⟨v5, rfl, hs5, hc5, hv5⟩
                obtain rfl : v5 = .map (some w4.heap.size) := by
                  rcases hv5 with ⟨h1, _⟩ | h1
                  · cases h1
                  · exact h1
                have hf5 := hfs.chg hc5 (fun _ _ h => h) (fun _ _ h => h)
                have hcw5 := hcw.trans0 hc5
                have hb5 := HD.out.blk.c0 hcw5
                have hBl := (hfs.lt rfl).2
                obtain ⟨w6, hw6, hD6, hc6⟩ := HD.out.crashed hcw5 hf5 hs5 (by omega) (fun b hb => ⟨by
                  rcases hb.1 with h | h
                  · exact (HD.out.f b h).1
                  · omega, Nat.lt_of_lt_of_le hb.2.1 hc5.size, hb.2.2⟩)
                have j0 := hb5.cell 0
                have j1 := hb5.cell 1
                have j2 := hb5.cell 2
                have j4 := hb5.cell 4
                have j5 := hb5.cell 5
                have j6 := hb5.cell 6
                have f0 := hb5.frozen 0
                have f1 := hb5.frozen 1
                have f2 := hb5.frozen 2
                have f4 := hb5.frozen 4
                have f5 := hb5.frozen 5
                have f6 := hb5.frozen 6
                simp at j0 j1 j2 j4 j5 j6
                subst hw6
                clear hcl hfs hs5 hf5 hmf hrf hb5
                go_wp2_with fail
                exact bodyPost_end (results_none rfl _ _ _) rfl ⟨rfl, _, _, _, _, m, hD6, hso, hc6, fun b hb => hb.1⟩
              · obtain ⟨n, hnL, hnK, hnN, hnor⟩ : ∃ n : Nat, n ≤ L ∧ n + 1 ≤ K ∧ min (K : Int) ((L : Int) + 1) = (n : Int) + 1 ∧ (n = L ∨ n + 1 = K) := by
                  by_cases h : K ≤ L + 1
                  · exact ⟨K - 1, by omega, by omega, by omega, .inr (by omega)⟩
                  · exact ⟨L, by omega, by omega, by omega, .inl rfl⟩
                have hctq : ct = (q.take i).flatten := by
                  rcases hKc.out with h | h
                  · exact absurd h hK0
                  · exact h
                have hpl : pos = (so.getD [] ++ ct).length := by rw [HPOS.out, hctq, List.length_append]
                have hpu : (q.take i).flatten.length ≤ unitsB q := Nat.le_trans (flatten_le _) (unitsB_le q i)
                have hdo := fun {wx : World} (hc : Chg Non wr wx) => wrDo3 (n := n) (hmf.chg hc (fun h => h)) (hrf.c0 hc) (hd.c0 hc) (by rw [← HLQ.out]; exact hnL) (by rw [← hpl, HPOS.out, ← HLQ.out]; have := HT.out; omega)
                rw [← hpl] at hdo
                unfold wV at hdo
                have hne0 : ((n : Int) + 1 == 0) = false := beq_eq_false_iff_ne.2 (by omega)
                have hwk : IntKind.i64.wrap ((K : Int) - ((n : Int) + 1)) = (K : Int) - ((n : Int) + 1) := IntWalk.i64_in _ (by omega)
                clear hpl
                go_wp2_with fail
                refine hun.mono ?_
                rintro e w4 ⟨rfl, hc4⟩
                have hdo4 := hdo hc4
                clear hun hcell hdo
                have HQ := hide (show ct ++ q[i].take n = q.flatten.take ((q.take i).flatten.length + n) by rw [hctq]; exact flatten_take_part q i n h1 (by rw [← HLQ.out]; exact hnL))
                have HK2 := hide (show K - (n + 1) = 0 ∨ ct ++ q[i].take n = (q.take (i + 1)).flatten by
                  rcases hnor with h | h
                  · right
                    rw [hctq, List.take_succ_eq_append_getElem h1, List.flatten_append, h, HLQ.out, List.take_of_length_le (Nat.le_refl _)]
                    simp
                  · left
                    omega)
                clear hctq hnor
                go_wp2_with fail
                refine hdo4.mono ?_
                rintro e w5 ⟨rfl, u2, hm5, hr5, hc5⟩
                have hw4 := (hcw.trans0 hc4).size
                have hcw5 : Chg Non w w5 := (hcw.trans0 hc4).trans hc5 fun b hb e => by omega
                clear hdo4 hc5 hc4 hcw hmf hrf hd
                go_wp2_with fail
                go_round
                case rel => exact ⟨i + 1, K - (n + 1), _, some u2, ct ++ q[i].take n, by omega, by go_num, by congr 1; omega, by omega, hm5, by rw [← List.append_assoc]; exact hr5.mono fun b hb => .inr (by omega), HQ, HK2, hcw5⟩
                case measure => simp [intOf]; omega
            · obtain rfl : i = q.length := by omega
              have hfs : FS wr base (fun b => (F b ∨ w.heap.size ≤ b) ∧ b < wr.heap.size ∧ b ≠ g) (.map (some Bf)) (u.map fun _ => so.getD [] ++ ct) := by
                refine .inr ⟨Bf, u, rfl, by omega, hmf, ?_⟩
                cases u with
                | none => exact .inl ⟨rfl, rfl⟩
                | some x =>
                  refine .inr ⟨x, _, rfl, rfl, (hrf.lt).mono fun b hb => ⟨hb.1, hb.2, fun e => ?_⟩⟩
                  rcases hb.1 with h | h
                  · exact (HD.out.f b h).2.2 e
                  · omega
              have hso : (u.map fun _ => so.getD [] ++ ct).getD [] = so.getD [] ++ q.flatten.take m := by
                rw [← hct.out]
                cases u with
                | none =>
                  have h2 : (Value.slice none 0 0) = nilS := rfl
                  exact (hrf.is_nil).symm
                | some x => rfl
              have hwr := hcw.size
              have hcl := hfs.clone (by omega)
              go_wp2_with fail
              refine hcl.mono ?_
              rintro e w5 ⟨v5, rfl, hs5, hc5, hv5⟩
              obtain rfl : v5 = .map (some wr.heap.size) := by
                rcases hv5 with ⟨h1, _⟩ | h1
                · cases h1
                · exact h1
              have hf5 := hfs.chg hc5 (fun _ _ h => h) (fun _ _ h => h)
              have hcw5 := hcw.trans0 hc5
              have hb5 := HD.out.blk.c0 hcw5
              have hBl := (hfs.lt rfl).2
              obtain ⟨w6, hw6, hD6, hc6⟩ := HD.out.crashed hcw5 hf5 hs5 (by omega) (fun b hb => ⟨by
                rcases hb.1 with h | h
                · exact (HD.out.f b h).1
                · omega, Nat.lt_of_lt_of_le hb.2.1 hc5.size, hb.2.2⟩)
              have j0 := hb5.cell 0
              have j1 := hb5.cell 1
              have j2 := hb5.cell 2
              have j4 := hb5.cell 4
              have j5 := hb5.cell 5
              have j6 := hb5.cell 6
              have f0 := hb5.frozen 0
              have f1 := hb5.frozen 1
              have f2 := hb5.frozen 2
              have f4 := hb5.frozen 4
              have f5 := hb5.frozen 5
              have f6 := hb5.frozen 6
              simp at j0 j1 j2 j4 j5 j6
              subst hw6
              clear hcl hfs hs5 hf5 hmf hrf hb5
              go_wp2_with fail
              exact bodyPost_end (results_none rfl _ _ _) rfl ⟨rfl, _, _, _, _, m, hD6, hso, hc6, fun b hb => hb.1⟩
end Go.Proofs.Ytjagiahfndcbhaa
