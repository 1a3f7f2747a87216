/- GroynePacked: any table of names is packed row by row into one text and taken back; the names that match are the same whether they are looked for in the rows or in all of them together. -/
import Derived.Test.YtnoimmhdoaeeiaaDoorOpenSS
import Derived.Test.YtnoimmhdoaeeiaaDoorPackedL
import Derived.Test.YtnoimmhdoaeeiaaDoorWtr
import Derived.Test.YtnoimmhdoaeeiaaDoorPkSplit
import Derived.Test.YtnoimmhdoaeeiaaDoorBB
import Derived.BigQuiet
import Derived.Deep.Cut
import Derived.Deep.CutRange
namespace Go.Proofs.YtnoimmhdoaeeiaaDoor.groynePacked
open Go.ChangeShapes Go.WideShapes Go.ChangeAt Go.RowKit Go.Deep
open Go.ChangeMaps (open_string shut_string)
set_option linter.unusedVariables false

set_option maxRecDepth 100000 in
set_option maxHeartbeats 4000000 in
theorem walk {W : World} {v0 : Value} {pat : ByteArray} {ll : List (List ByteArray)} (h0 : RdSS W (fun k => k < W.heap.size) v0 ll ∧ ∀ l ∈ ll, ∀ s ∈ l, s.size ≤ maxLen) (hp : pat.size ≤ maxLen) (hz : ll.length ≤ reachBytes) :
    Calls Tryd.prog 3 #[v0, .string pat] W fun e W' => e = .returned (.bool true) ∧ Chg Non W W' := by
  obtain ⟨h0, hszs⟩ := h0
  obtain ⟨A1, c1, rfl, hc1, hm1⟩ := h0.shape
  unfold maxLen at hm1 hp
  unfold reachBytes at hz
  have H0 := hide h0
  have HSZ := hide hszs
  clear h0 hszs
  go_enter Tryd.func3, Tryd.ntmps3
  go_upto_if 27 with fail
  go_cut [1] from 25 (fun v wx => v = .string (cutS pat) ∧ wx = W)
  case first =>
    by_cases hn : 40 < pat.size
    · have hM := hide (show cutS pat = pat.extract 0 40 by rw [cutS, if_pos hn])
      have hi : (40 : Int) < (pat.size : Int) := by omega
      have hi2 : (40 : Int) ≤ (pat.size : Int) := by omega
      have hi3 : 40 ≤ pat.size := by omega
      go_wp2_with fail
      go_meet
      case rel => rw [hM.out]; exact ⟨rfl, rfl⟩
    · have hM := hide (show cutS pat = pat by rw [cutS, if_neg hn])
      have hi : ¬ (40 : Int) < (pat.size : Int) := by omega
      go_wp2_with fail
      go_meet
      case rel => rw [hM.out]; exact ⟨rfl, rfl⟩
  case rest =>
    obtain ⟨rfl, hq⟩ := hcut
    replace hq := hq.symm
    subst hq
    go_upto_if 32 with fail
    obtain ⟨R, hR⟩ : ∃ R, R = (ll.take 12).length := ⟨_, rfl⟩
    have HRL := hide hR
    have hR12 : R ≤ 12 := by rw [hR, List.length_take]; omega
    have hRle : R ≤ ll.length := by rw [hR, List.length_take]; omega
    have hRR := hide (show R = 12 ∧ 12 < ll.length ∨ R = ll.length ∧ ¬ 12 < ll.length by rw [hR, List.length_take]; omega)
    clear hR
    go_cut [0] from 33 (fun v wx => v = .slice A1 R c1 ∧ wx = W)
    case first =>
      rcases hRR.out with ⟨hR1, hn⟩ | ⟨hR1, hn⟩
      · have hM := hide hR1
        have hi : (12 : Int) < (ll.length : Int) := by omega
        have hi2 : (12 : Int) ≤ (ll.length : Int) := by omega
        have hi3 : (12 : Int) ≤ (c1 : Int) := by omega
        have hi4 : 12 ≤ c1 := by omega
        clear hR1
        go_wp2_with fail
        go_meet
        case rel => rw [hM.out]; exact ⟨rfl, rfl⟩
      · have hM := hide hR1
        have hi : ¬ (12 : Int) < (ll.length : Int) := by omega
        clear hR1
        go_wp2_with fail
        go_meet
        case rel => rw [hM.out]; exact ⟨rfl, rfl⟩
    case rest =>
      obtain ⟨rfl, hq⟩ := hcut
      replace hq := hq.symm
      subst hq
      have hrows := H0.out.front (j := R) hRle
      have HRW := hide hrows
      clear hrows
      go_wp2_with fail
      go_loopw [5, 6, 7, 37] (fun v5 v6 v7 iv wr => ∃ (k : Nat) (F : Nat → Prop), k ≤ R ∧ iv = .int .i64 k ∧ L1 W wr F v5 v6 v7 ((rowsK ll k).map rowB) (rowsK ll k).flatten (fndL (rowsK ll k) (cutS pat))) (fun _ _ _ iv _ => R - (intOf iv).toNat)
      case atStart => exact ⟨0, Non, Nat.zero_le _, rfl, by simpa [rowsK, fndL] using L1.nil_ _⟩
      case round =>
        obtain ⟨k, F, hk, rfl, hL0⟩ := hrel
        obtain ⟨w0, rfl⟩ : ∃ w, w = wr := ⟨_, rfl⟩
        have HL := hide hL0
        clear hL0
        by_cases h1 : k < R
        · have hkl : k < ll.length := by omega
          have hrs := (HRW.out.c0 HL.out.g).at_ (k := k) (by rw [List.length_take]; omega)
          obtain ⟨ad, x, rfl, _, hcx, hx⟩ := hrs
          rw [List.getElem_take] at hx
          obtain ⟨row, hrow⟩ : ∃ row, row = ll[k] := ⟨_, rfl⟩
          rw [← hrow] at hx
          have HRO := hide hrow
          have HZ := hide (show ∀ s ∈ row, s.size ≤ maxLen from HSZ.out row (by rw [hrow]; exact List.getElem_mem _))
          obtain ⟨X, cx, rfl, hcc, hmm⟩ := hx.shape
          unfold maxLen at hmm
          obtain ⟨m, hm⟩ : ∃ m, m = (row.take 12).length := ⟨_, rfl⟩
          have hm12 : m ≤ 12 := by rw [hm, List.length_take]; omega
          have hmle : m ≤ row.length := by rw [hm, List.length_take]; omega
          have HMM := hide hm
          have hMM := hide (show m = 12 ∧ 12 < row.length ∨ m = row.length ∧ ¬ 12 < row.length by rw [hm, List.length_take]; omega)
          have hxm := hx.front hmle
          have htk : row.take m = row.take 12 := by
            rcases hMM.out with ⟨e, _⟩ | ⟨e, _⟩
            · rw [e]
            · rw [e, List.take_of_length_le (Nat.le_refl _), List.take_of_length_le (by omega)]
          rw [htk] at hxm
          have HX := hide hxm
          clear hrow hm hxm hx htk
          go_upto_if 43 with fail
          obtain ⟨gW, hgW⟩ : ∃ gW, gW = w0.heap.size := ⟨_, rfl⟩
          have hWn := Wtr.new w0
          rw [← hgW] at hWn ⊢
          have HG := hide hgW
          clear hgW
          go_cut [9, 37] from 37 to 83 (fun v9 v37 wx => v9 = .slice X m cx ∧ v37 = .int .i64 k ∧ Wtr wx gW gW (.slice none 0 0) [] ∧ Chg Non w0 wx)
          case first =>
            have hcn := (Chg.refl Non w0).alloc (.cells #[.slice none 0 0] 27)
            rcases hMM.out with ⟨hR1, hn⟩ | ⟨hR1, hn⟩
            · have hM := hide hR1
              have hi : (12 : Int) < (row.length : Int) := by omega
              have hi2 : (12 : Int) ≤ (row.length : Int) := by omega
              have hi3 : (12 : Int) ≤ (cx : Int) := by omega
              have hi4 : 12 ≤ cx := by omega
              clear hR1
              go_wp2_with fail
              go_meet
              case rel => rw [hM.out]; exact ⟨rfl, rfl, hWn, hcn⟩
            · have hM := hide hR1
              have hi : ¬ (12 : Int) < (row.length : Int) := by omega
              clear hR1
              go_wp2_with fail
              go_meet
              case rel => rw [hM.out]; exact ⟨rfl, rfl, hWn, hcn⟩
          case rest =>
            obtain ⟨rfl, rfl, hW1, hcw1⟩ := hcut
            clear hWn hcx
            have hwrap : IntKind.u64.wrap (m : Int) = (m : Int) := wrap_u64n (by unfold U64; omega)
            have hu := RdU.lit wc 29 (0, 0) #[.int .u64 (m : Int)] [m] 1 rfl rfl (by simp [maxLen]) (by intro y hy; simp at hy; subst hy; unfold U64; omega)
            have hnum := wtrNum (hW1.al (.cells #[.int .u64 (m : Int)] 29)) hu (by simp)
            rw [show numsB [m] = numB m by simp [numsB], List.nil_append] at hnum
            go_wp2_with fail
            refine hnum.mono ?_
            rintro e w2 ⟨rfl, wv, hW2, hc2, hG2⟩
            have hcw2 : Chg Non w0 w2 := (hcw1.alloc (.cells #[.int .u64 (m : Int)] 29)).trans hc2 fun b hb hw => by
              have := HG.out
              rcases hw with h | h
              · omega
              · simp [Value.ownBlock] at h
            clear hnum hu hc2 hG2 hW1 hcw1 hwrap
            go_wp2_with fail
            go_loopw [11, 53] (fun v11 iv w3 => ∃ (j : Nat) (wv : Value), j ≤ m ∧ iv = .int .i64 j ∧ OwnS w3 gW v11 ((cutR row).take j) ∧ Wtr w3 gW gW wv (numB m ++ flatB (((cutR row).take j).map byS)) ∧ (∀ b, v11.ownBlock = some b → ¬ WB gW wv b) ∧ Chg Non w0 w3) (fun _ iv _ => m - (intOf iv).toNat)
            case atStart => exact ⟨0, wv, Nat.zero_le _, rfl, OwnS.nil_ _ _, by simpa [flatB] using hW2, by simp [Value.ownBlock], hcw2⟩
            case round =>
              clear hW2 hcw2 wv
              obtain ⟨j, wv, hj, rfl, hown, hW, hap, hcw⟩ := hrel
              by_cases h2 : j < m
              · have hj12 : j < (row.take 12).length := by rw [← HMM.out]; exact h2
                obtain ⟨ad2, rfl, _, hcs⟩ := (HX.out.c0 hcw).at_ hj12
                obtain ⟨s, hs⟩ : ∃ s, s = (row.take 12)[j] := ⟨_, rfl⟩
                rw [← hs] at hcs
                have hsucc := hide (show (cutR row).take (j + 1) = (cutR row).take j ++ [cutS s] by
                  rw [hs, cutR, List.take_succ_eq_append_getElem (by rw [List.length_map]; exact hj12), List.getElem_map])
                have hsz := HZ.out s (by rw [hs]; exact List.mem_of_mem_take (List.getElem_mem _))
                unfold maxLen at hsz
                clear hs
                go_upto_if 59 with fail
                go_cut [13, 53] from 53 to 70 (fun v13 v53 wx => v13 = .string (cutS s) ∧ v53 = .int .i64 j ∧ wx = wr)
                case first =>
                  by_cases hn : 40 < s.size
                  · have hM := hide (show cutS s = s.extract 0 40 by rw [cutS, if_pos hn])
                    have hi : (40 : Int) < (s.size : Int) := by omega
                    have hi2 : (40 : Int) ≤ (s.size : Int) := by omega
                    have hi3 : 40 ≤ s.size := by omega
                    go_wp2_with fail
                    go_meet
                    case rel => rw [hM.out]; exact ⟨rfl, rfl, rfl⟩
                  · have hM := hide (show cutS s = s by rw [cutS, if_neg hn])
                    have hi : ¬ (40 : Int) < (s.size : Int) := by omega
                    go_wp2_with fail
                    go_meet
                    case rel => rw [hM.out]; exact ⟨rfl, rfl, rfl⟩
                case rest =>
                  obtain ⟨rfl, rfl, hq⟩ := hcut
                  replace hq := hq.symm
                  subst hq
                  have ht40 := cutS_size s
                  obtain ⟨t, ht⟩ : ∃ t, t = cutS s := ⟨_, rfl⟩
                  rw [← ht] at hsucc ht40 ⊢
                  clear ht hcs hsz
                  have hone := RdS.one wr 9 t
                  have hal := (Chg.refl Non wr).alloc (.cells #[.string t] 9)
                  have hgl := hW.lt gW (.inl rfl)
                  have hbase : gW ≤ (wr.alloc (.cells #[.string t] 9)).heap.size := by simp; omega
                  have hlen : ((cutR row).take j).length + [t].length ≤ 1000000000000 := by simp only [List.length_take, List.length_cons, List.length_nil]; omega
                  have hownA := hown.c0 hal
                  have hcv := fun w => conv_bytes w t
                  go_wp2_with (at_builtin; refine append_S rfl _ _ rfl hownA rfl hone rfl hlen hbase ?_; intro v4 w4 hown4 hg4 hat4)
                  have hA := (Chg.refl Non wr).alloc (.cells #[.string t] 9)
                  have hW4 := (hW.c0 hA).chg (Chg.of_grown hg4) fun b hb e => hap b e.symm hb
                  have hg4s := hg4.size
                  have hall := hal.size
                  have hvlt := hown4.lt
                  have hap4 : ∀ b, v4.ownBlock = some b → ¬ WB gW wv b := fun b hb hw => by
                    rcases hat4 with e | e
                    · exact hap b (e ▸ hb) hw
                    · have h1 := hW.lt b hw
                      rw [e] at hb
                      injection hb with hb
                      omega
                  have hcw4 : Chg Non w0 w4 := (hcw.trans0 hal).grown hg4 fun b hb hlt => by
                    have h1 := (hownA.lt b hb).1
                    have := HG.out
                    omega
                  have hrd := bytesWorld_rd w4 5 t (by omega)
                  have hbc := bytesWorld_chg w4 5 t
                  obtain ⟨wb, hwb⟩ : ∃ wb, wb = Lib.bytesWorld w4 5 t := ⟨_, rfl⟩
                  rw [← hwb] at hrd hbc ⊢
                  obtain ⟨bx, hbx⟩ : ∃ bx, bx = w4.heap.size := ⟨_, rfl⟩
                  rw [← hbx] at hrd ⊢
                  have hbb := RdBB.one hrd 25
                  obtain ⟨cx2, hcx2⟩ : ∃ c, c = grownCap w4 t.size 0 5 := ⟨_, rfl⟩
                  rw [← hcx2] at hbb ⊢
                  have hbcs := hbc.size
                  have hwl := hW4.lt
                  have hW5 := (hW4.c0 hbc).al (.cells #[.slice (some ⟨bx, 0, none⟩) t.size cx2] 25)
                  have hbl := flatB_len ((cutR row).take j) (fun x hx => cutR_size row x (List.mem_of_mem_take hx))
                  have hjl : ((cutR row).take j).length ≤ 12 := by rw [List.length_take]; have := cutR_le row; omega
                  have hnl := numB_length m
                  have hbyl := byS_length t
                  have hpl : (flatB [byS t]).length ≤ 49 := by
                    have := numB_length (byS t).length
                    have h : flatB [byS t] = partB (byS t) := by simp [flatB]
                    rw [h, partB, List.length_append]
                    omega
                  have htxt := wtrText hW5 hbb (fun b hb hw => by
                    have h1 := hwl b hw
                    rcases hb with h | h <;> omega) (by simp only [List.length_append]; unfold byS at *; omega)
                  refine htxt.mono ?_
                  rintro e w5 ⟨rfl, wv5, hW6, hc6, hG6⟩
                  have hown6 := ((hown4.c0 hbc).c0 ((Chg.refl Non wb).alloc (.cells #[.slice (some ⟨bx, 0, none⟩) t.size cx2] 25))).chg hc6 hap4
                  have hcw6 : Chg Non w0 w5 := ((hcw4.trans0 hbc).alloc (.cells #[.slice (some ⟨bx, 0, none⟩) t.size cx2] 25)).trans hc6 fun b hb hw => by
                    have h1 := (hwl b hw).1
                    have := HG.out
                    omega
                  have hap6 : ∀ b, v4.ownBlock = some b → ¬ WB gW wv5 b := fun b hb hw => hap4 b hb (hG6.wb (by
                    have h1 := (hvlt b hb).2
                    have h2 : w4.heap.size ≤ (wb.alloc (.cells #[.slice (some ⟨bx, 0, none⟩) t.size cx2] 25)).heap.size := by simp; omega
                    omega) hw)
                  clear htxt hbb hrd hW5 hW4 hcw4 hown4 hownA hone hcv hc6 hG6 hW hown hcw hap hap4 hg4 hat4 hwl hvlt hwb hbx hcx2 hal hbase hlen
                  go_wp2_with fail
                  go_roundw
                  case rel => exact ⟨j + 1, wv5, by omega, by go_num, by rw [hsucc.out]; exact hown6, by rw [hsucc.out, List.map_append, flatB, List.flatMap_append, ← List.append_assoc]; exact hW6, hap6, hcw6⟩
                  case measure => simp [intOf]; omega
              · have hjm : (cutR row).take j = cutR row := List.take_of_length_le (by rw [cutR_length, ← HMM.out]; omega)
                have hcl : (cutR row).length = m := by rw [cutR_length, ← HMM.out]
                rw [hjm] at hown hW
                rw [← hcl] at hW
                clear hjm
                obtain ⟨lr, hlr⟩ : ∃ lr, lr = cutR row := ⟨_, rfl⟩
                rw [← hlr] at hown hW hcl
                have HLR := hide hlr
                have hlr40 : ∀ s ∈ lr, s.size ≤ 40 := by rw [hlr]; exact cutR_size row
                clear hlr
                have HW2 := hide (show Wtr wr gW gW wv (rowB lr) from hW)
                have hL := HL.out.c0 hcw
                have hfl := flat_len (rowsK ll k) (rowsK_le ll k)
                rw [rowsK_length ll k (by omega)] at hfl
                have hlen6 : (rowsK ll k).flatten.length + lr.length ≤ 1000000000000 := by omega
                have hW0 : W.heap.size ≤ wr.heap.size := hL.g.size
                have hla := hL.a
                go_wp2_with (at_builtin; refine append_S rfl _ _ rfl hla rfl hown.rd rfl hlen6 hW0 ?_; intro v6 w6 hown6 hg6 hat6)
                have hL6 := hL.put6 hown6 hg6 hat6
                have h6lt := HL.out.a.lt
                have h7lt := HL.out.f.lt
                have h5lt := HL.out.o.lt
                have hFlt := HL.out.lt
                have hwlt := hW.lt
                have holt := hown.lt
                rw [← HG.out] at h6lt h7lt h5lt
                have H5 := hide h5lt
                have H6 := hide h6lt
                have H7 := hide h7lt
                have hown6s := hown.chg (Chg.of_grown hg6) fun b hb e => by
                  have h1 := (holt b hb).1
                  have h2 := (h6lt b e.symm).2
                  omega
                have hW6 := HW2.out.chg (Chg.of_grown hg6) fun b hb e => by
                  have h1 := (hwlt b hb).1
                  have h2 := (h6lt b e.symm).2
                  omega
                have hcw6 := hcw.size
                have hg6s := hg6.size
                have hpk := labPick (pat := cutS pat) hown6s.rd (by omega) (by have := cutS_size pat; omega) (fun s hs => by have := hlr40 s hs; omega)
                have HWL := hide hwlt
                clear h5lt h6lt h7lt hFlt hL hla hown6 hg6 hat6 hown hW HW2 holt hwlt hown6s
                refine hpk.mono ?_
                rintro e w7 ⟨pk, rfl, hpr, hc7⟩
                have hL7 := hL6.c0 hc7
                have hW7 := hW6.c0 hc7
                have hlen7 : (fndL (rowsK ll k) (cutS pat)).length + ((pickL lr (cutS pat)).map mkS).length ≤ 1000000000000 := by
                  have h1 := fndL_len (rowsK ll k) (cutS pat) (rowsK_le ll k)
                  rw [rowsK_length ll k (by omega)] at h1
                  have h2 := pickL_len lr (cutS pat)
                  rw [List.length_map]
                  omega
                have hpr2 : RdS w7 (fun b => w6.heap.size ≤ b) pk ((pickL lr (cutS pat)).map mkS) := hpr
                have hW0 : W.heap.size ≤ w7.heap.size := hL7.g.size
                have hlf := hL7.f
                have hc7s := hc7.size
                clear hpk hL6 hW6 hpr
                go_wp2_with (at_builtin; refine append_S rfl _ _ rfl hlf rfl hpr2 rfl hlen7 hW0 ?_; intro v8 w8 hown8 hg8 hat8)
                have hL8 := hL7.put7 hown8 hg8 hat8
                have hW8 := hW7.chg (Chg.of_grown hg8) fun b hb e => by
                  have h1 := (hW7.lt b hb).1
                  have h2 := (H7.out b e.symm).2
                  omega
                have hg8s := hg8.size
                have hby := wtrBytes hW8 (by have := rowB_length lr (by omega) hlr40; omega)
                clear hL7 hW7 hpr2 hlf hown8 hg8 hat8
                refine hby.mono ?_
                rintro e w9 ⟨bu, rfl, hbu, hc9⟩
                obtain ⟨B1, n1, c9, rfl⟩ := hbu.shapeH
                obtain ⟨bu, hbue⟩ : ∃ bu, bu = Value.slice B1 n1 c9 := ⟨_, rfl⟩
                rw [← hbue] at hbu
                have hL9 := (hL8.c0 hc9).c0 ((Chg.refl Non w9).alloc (.cells #[bu] 25))
                have hblk := Blk.new w9 25 #[bu]
                have hc9s := hc9.size
                have hbul := hbu.lt
                have hFlt := HL.out.lt
                rw [← HG.out] at hFlt
                have hub := (hbu.rd.al (.cells #[bu] 25)).mono (F' := fun b => (F b ∨ bu.ownBlock = some b) ∧ b < (w9.alloc (.cells #[bu] 25)).heap.size ∧ u5.ownBlock ≠ some b) fun b hb => ⟨.inr hb, by have := (hbul b hb).2; simp; omega, fun e => by
                  have h1 := (hbul b hb).1
                  have h2 := (H5.out b e).2
                  have h3 := HG.out
                  omega⟩
                have ho9 := hL9.o.mono (F' := fun b => F b ∨ bu.ownBlock = some b) fun b hb => .inl hb
                have hF9 : ∀ b, (F b ∨ bu.ownBlock = some b) → b < (w9.alloc (.cells #[bu] 25)).heap.size ∧ u5.ownBlock ≠ some b ∧ v6.ownBlock ≠ some b ∧ v8.ownBlock ≠ some b := by
                  rintro b (hb | hb)
                  · exact hL9.lt b hb
                  · have h1 := hbul b hb
                    have hla := hL8.a.lt
                    have hlf := hL8.f.lt
                    refine ⟨by simp; omega, fun e => ?_, fun e => ?_, fun e => ?_⟩
                    · have h2 := (H5.out b e).2
                      have h3 := HG.out
                      omega
                    · have h2 := (hla b e).2
                      omega
                    · have h2 := (hlf b e).2
                      omega
                have hlen9 : ((rowsK ll k).map rowB).length + 1 ≤ 1000000000000 := by rw [List.length_map, rowsK_length ll k (by omega)]; omega
                have hW9 : W.heap.size ≤ (w9.alloc (.cells #[bu] 25)).heap.size := hL9.g.size
                subst hbue
                clear hby hL8 hW8 hbu hbul hFlt
                go_wp2_with (at_builtin; refine append_BB rfl _ _ rfl ho9 rfl hub hblk rfl hlen9 hW9 ?_; intro va wa howna hga hata)
                have hLa := hL9.put5 howna hga hata hF9
                clear hL9 hub ho9 hF9 hblk howna hga hata
                go_roundw
                case rel => exact ⟨k + 1, _, by omega, by go_num, by rw [rowsK_succ ll k hkl, map_snoc, flatten_snoc, fndL_snoc, ← HRO.out, ← HLR.out]; exact hLa⟩
                case measure => simp [intOf]; omega
        · obtain rfl : k = R := by omega
          obtain ⟨rs, hrs⟩ : ∃ rs, rs = rowsK ll k := ⟨_, rfl⟩
          have hrl : rs.length = k := by rw [hrs, rowsK_length ll k hRle]
          have hr12 : ∀ r ∈ rs, r.length ≤ 12 := by rw [hrs]; exact rowsK_le ll k
          have hr40 : ∀ r ∈ rs, ∀ s ∈ r, s.size ≤ 40 := by rw [hrs]; exact rowsK_size ll k
          obtain ⟨P, hP⟩ : ∃ P, P = cutS pat := ⟨_, rfl⟩
          have hP40 : P.size ≤ 40 := by rw [hP]; exact cutS_size pat
          rw [← hrs, ← hP] at HL
          rw [← hP]
          clear hrs hP HRW H0 HSZ HRL hRR
          have hjl := joinRows_len rs hr12 hr40
          have hsp := splitRows rs (by omega) hr12 hr40
          have HR12 := hide hr12
          have HR40 := hide hr40
          have hjoin := packJoin HL.out.o.rd (by omega)
          clear hr12 hr40
          go_wp2_with fail
          refine hjoin.mono ?_
          rintro e wA ⟨uj, rfl, huj, hcA⟩
          have hsplit := packSplit huj.rd (by omega)
          rw [hsp] at hsplit
          simp only at hsplit
          clear hjoin hsp
          go_wp2_with fail
          refine hsplit.mono ?_
          rintro e wB ⟨bk, rfl, hbk, hcB⟩
          obtain ⟨B1, cb, rfl, hcb, hmb⟩ := hbk.shape
          rw [List.length_map, hrl] at hcb hbk ⊢
          unfold maxLen at hmb
          have HBK := hide hbk.rd
          have HL2 := hide ((HL.out.c0 hcA).c0 hcB)
          have hB0 : W.heap.size ≤ wB.heap.size := HL2.out.g.size
          clear hsplit hbk huj hcA hcB
          go_wp2_with fail
          clear h1 hk HL
          go_loopw [16, 101] (fun v16 iv wr => ∃ (i : Nat), i ≤ k ∧ iv = .int .i64 i ∧ OwnS wr wB.heap.size v16 (rs.take i).flatten ∧ Chg Non wB wr) (fun _ iv _ => k - (intOf iv).toNat)
          case atStart => exact ⟨0, Nat.zero_le _, rfl, by simpa using OwnS.nil_ _ _, Chg.refl _ _⟩
          case round =>
            obtain ⟨i, hik, rfl, hag, hcw⟩ := hrel
            obtain ⟨w3, rfl⟩ : ∃ w, w = wr := ⟨_, rfl⟩
            by_cases h3 : i < k
            · have hib : i < (rs.map rowB).length := by rw [List.length_map]; omega
              obtain ⟨adb, x, rfl, _, hcx, hrx⟩ := (HBK.out.c0 hcw).at_ hib
              have hir : i < rs.length := by omega
              rw [List.getElem_map] at hrx
              obtain ⟨r, hr⟩ : ∃ r, r = rs[i] := ⟨_, rfl⟩
              rw [← hr] at hrx
              have hmem : r ∈ rs := by rw [hr]; exact List.getElem_mem _
              have hr12 := HR12.out r hmem
              have hr40 := HR40.out r hmem
              have HRI := hide (show (rs.take (i + 1)).flatten = (rs.take i).flatten ++ r by rw [List.take_succ_eq_append_getElem hir, ← hr]; simp)
              have hfl : (rs.take i).flatten.length ≤ 144 := by
                have h1 := flat_len (rs.take i) fun x hx => HR12.out x (List.mem_of_mem_take hx)
                rw [List.length_take] at h1
                omega
              have hrb := rowB_length r hr12 hr40
              have hrnum := row_num r hr12
              have hread := packRead hrx (by omega)
              obtain ⟨XB, cxb, rfl, hcxb, hmxb⟩ := hrx.shape
              unfold maxLen at hmxb
              clear hr hmem hib hrx
              go_wp2_with fail
              refine hread.mono ?_
              rintro e w4 ⟨g, rfl, hg, hR0, hc4⟩
              have hR := hR0.fix
              have hgl := hR.lt
              have hag4 := hag.c0 hc4
              have haglt := hag.lt
              have hs4 := hc4.size
              have hB4 := hcw.size
              have hcw4 := hcw.trans0 hc4
              obtain ⟨b0, hb0⟩ : ∃ b, b = w3.heap.size := ⟨_, rfl⟩
              obtain ⟨b1, hb1⟩ : ∃ b, b = w4.heap.size := ⟨_, rfl⟩
              rw [← hb0] at hg haglt hs4 hB4 hR
              rw [← hb1] at hgl hs4 hR
              have hnum := rdrNum hR
              rw [hrnum] at hnum
              simp only at hnum
              clear hread hR0 hag hcw hc4 hR
              go_wp2_with fail
              refine hnum.mono ?_
              rintro e w5 ⟨rfl, hR5, hc5⟩
              have hag5 := hag4.chg hc5 fun b hb e => by have := (haglt b hb).2; omega
              have hcw5 : Chg Non wB w5 := hcw4.trans hc5 fun b hb e => by omega
              have hap5 : ∀ b, u16.ownBlock = some b → b < b0 ∨ b1 ≤ b := fun b hb => .inl (haglt b hb).2
              have hb5 : b1 ≤ w5.heap.size := by rw [hb1]; exact hc5.size
              have HB0 := hide hb0
              clear hnum hag4 haglt hcw4 hc5 hb1 hb0
              go_wp2_with fail
              go_loopw [16, 20] (fun v16 nv wr => ∃ (j : Nat), j ≤ r.length ∧ nv = .int .u64 ((r.length - j : Nat) : Int) ∧ OwnS wr wB.heap.size v16 ((rs.take i).flatten ++ r.take j) ∧ Rdr wr (fun b => b0 ≤ b ∧ b < b1) g (rowB r) (rowPos r j) 0 ∧ (∀ b, v16.ownBlock = some b → b < b0 ∨ b1 ≤ b) ∧ Chg Non wB wr ∧ b1 ≤ wr.heap.size) (fun _ nv _ => (intOf nv).toNat)
              case atStart => exact ⟨0, Nat.zero_le _, rfl, by simpa using hag5, hR5.chg (Chg.refl Non _) (fun h => h) (fun _ _ _ h => h), hap5, hcw5, hb5⟩
              case round =>
                clear hag5 hR5 hap5 hcw5 hb5 hcx hrnum
                obtain ⟨j, hj, rfl, hag, hR, hap, hcw, hbs⟩ := hrel
                by_cases h4 : j < r.length
                · have hrtx := row_text r j h4 (hr40 _ (List.getElem_mem _))
                  obtain ⟨a, ha⟩ : ∃ a, a = r.length - j := ⟨_, rfl⟩
                  rw [← ha]
                  have ha0 : (0 : Int) < (a : Int) := by omega
                  have hd : decide ((0 : Int) < (a : Int)) = true := decide_eq_true (by omega)
                  have hwl := wrap_less a (by omega) (by omega)
                  have HA := hide ha
                  have herr := rdrErr hR
                  clear ha
                  obtain ⟨s, hs⟩ : ∃ s, s = r[j] := ⟨_, rfl⟩
                  rw [← hs] at hrtx
                  have HS := hide (show r.take (j + 1) = r.take j ++ [s] by rw [List.take_succ_eq_append_getElem h4, hs])
                  clear hs
                  have htxt := rdrText hR (by omega)
                  rw [hrtx] at htxt
                  simp only at htxt
                  clear hrtx
                  go_wp2_with fail
                  refine herr.mono ?_
                  rintro e w6 ⟨rfl, hq⟩
                  subst w6
                  clear herr
                  go_wp2_with fail
                  refine htxt.mono ?_
                  rintro e w7 ⟨u, rfl, hu, hR7, hc7⟩
                  have hcv := conv_own hu
                  rw [mkS_byS] at hcv
                  obtain ⟨U1, nu, cu, rfl⟩ := hu.shapeH
                  have hal := (Chg.refl Non w7).alloc (.cells #[.string s] 9)
                  have hone := RdS.one w7 9 s
                  have hag7 := (hag.chg hc7 fun b hb e => by have := hap b hb; omega).c0 hal
                  have hR7a := hR7.c0 hal
                  have hc7s := hc7.size
                  have hals := hal.size
                  have hcw7 : Chg Non wB (w7.alloc (.cells #[.string s] 9)) := (hcw.trans hc7 fun b hb e => by omega).trans0 hal
                  have hlen : ((rs.take i).flatten ++ r.take j).length + [s].length ≤ 1000000000000 := by simp only [List.length_append, List.length_take, List.length_cons, List.length_nil]; omega
                  have hbase : wB.heap.size ≤ (w7.alloc (.cells #[.string s] 9)).heap.size := hcw7.size
                  have haglt := hag.lt
                  clear htxt hR hu hc7 hag hcw hR7 hal
                  go_wp2_with (at_builtin; refine append_S rfl _ _ rfl hag7 rfl hone rfl hlen hbase ?_; intro v8 w8 hag8 hg8 hat8)
                  have hR8 := hR7a.chg (Chg.of_grown hg8) (fun e => by have := hap g e.symm; omega) (fun b hb _ e => by have := hap b e.symm; omega)
                  have hg8s := hg8.size
                  have hap8 : ∀ b, v8.ownBlock = some b → b < b0 ∨ b1 ≤ b := fun b hb => by
                    rcases hat8 with e | e
                    · exact hap b (e ▸ hb)
                    · rw [e] at hb
                      injection hb with hb
                      right
                      omega
                  have hcw8 : Chg Non wB w8 := hcw7.grown hg8 fun b hb hlt => by have := (haglt b hb).1; omega
                  clear hag7 hR7a hcw7 hone hg8 hat8 hcv
                  go_round
                  case rel => exact ⟨j + 1, by omega, by rw [HA.out]; congr 2, by rw [HS.out, ← List.append_assoc]; exact hag8, hR8, hap8, hcw8, by omega⟩
                  case measure => simp [intOf]; omega
                · obtain rfl : j = r.length := by omega
                  rw [Nat.sub_self]
                  have hd : decide ((0 : Int) < 0) = false := decide_eq_false (by omega)
                  have hclose := rdrClose hR
                  rw [row_close] at hclose
                  rw [List.take_of_length_le (Nat.le_refl _), ← HRI.out] at hag
                  go_wp2_with fail
                  refine hclose.mono ?_
                  rintro e w6 ⟨rfl, q, rfl⟩
                  clear hclose
                  have hag6 := hag.c0 ((Chg.refl Non _).drewN q)
                  have hcw6 := hcw.drewN q
                  clear hag hR hap hcw hbs HB0
                  go_wp2_with fail
                  go_round
                  case rel => exact ⟨i + 1, by omega, by go_num, hag6, hcw6⟩
                  case measure => simp [intOf]; omega
            · obtain rfl : i = k := by omega
              rw [List.take_of_length_le (by omega)] at hag
              obtain ⟨al, hal⟩ : ∃ al, al = rs.flatten := ⟨_, rfl⟩
              have hall : al.length ≤ 144 := by
                have h1 := flat_len rs HR12.out
                rw [hal]
                omega
              have hal40 : ∀ s ∈ al, s.size ≤ 40 := by rw [hal]; exact flat_size rs HR40.out
              obtain ⟨fd, hfd⟩ : ∃ fd, fd = fndL rs P := ⟨_, rfl⟩
              have hfdl : fd.length ≤ 144 := by
                have h1 := fndL_len rs P HR12.out
                rw [hfd]
                omega
              have hfd40 : ∀ s ∈ fd, s.size ≤ 40 := by rw [hfd]; exact fndL_size rs P HR40.out
              have hfe : pickL fd starS = pickL al P := by rw [hfd, hal]; exact found_eq rs P
              rw [← hal] at hag HL2
              rw [← hfd] at HL2
              clear hal hfd hjl hrl HBK h3 hik
              have hL := HL2.out.c0 hcw
              have hall6 := hL.a.rd
              have hfnd := hL.f.rd
              have hagr := hag.rd
              have hgw := hL.g
              obtain ⟨A6, c6, rfl, hc6, hm6⟩ := hall6.shape
              obtain ⟨A16, c16, rfl, hc16, hm16⟩ := hagr.shape
              obtain ⟨A7, c7, rfl, hc7, hm7⟩ := hfnd.shape
              unfold maxLen at hm6 hm16 hm7
              clear hL hag hcw HL2 HR12 HR40
              have HFE := hide hfe
              clear hfe
              go_wp2_with fail
              go_loopw [135] (fun iv wr => ∃ (j : Nat), j ≤ al.length ∧ iv = .int .i64 j ∧ Chg Non w3 wr) (fun iv _ => al.length - (intOf iv).toNat)
              case atStart => exact ⟨0, Nat.zero_le _, rfl, Chg.refl _ _⟩
              case round =>
                obtain ⟨j, hj, rfl, hcw⟩ := hrel
                by_cases h5 : j < al.length
                · obtain ⟨a1, rfl, _, hx1⟩ := (hall6.c0 hcw).at_ h5
                  obtain ⟨a2, rfl, _, hx2⟩ := (hagr.c0 hcw).at_ h5
                  obtain ⟨s, hs⟩ : ∃ s, s = al[j] := ⟨_, rfl⟩
                  rw [← hs] at hx1 hx2
                  clear hs
                  go_wp2_with fail
                  have hwr : IntKind.i64.wrap (j : Int) = (j : Int) := by rw [IntKind.wrap_i64]; omega
                  have hc1 : (j : Int) < (c16 : Int) := by omega
                  have hc2 : (j : Int) < (c6 : Int) := by omega
                  go_quiet (fail)
                  go_wp2_with fail
                  go_round
                  case rel => exact ⟨j + 1, by omega, by go_num, hcw.drewN nq⟩
                  case measure => simp [intOf]; omega
                · have hcw5 := hcw
                  obtain ⟨w5, rfl⟩ : ∃ w, w = wr := ⟨_, rfl⟩
                  have hg5 := hgw.trans0 hcw
                  have hfn5 := hfnd.c0 hcw
                  have hag5 := hagr.c0 hcw
                  clear hall6 hagr hfnd hcw hgw
                  have hpk := labPick (pat := starS) hfn5 (by omega) (by decide) (fun s hs => by have := hfd40 s hs; omega)
                  go_wp2_with fail
                  refine hpk.mono ?_
                  rintro e w6 ⟨pa, rfl, hpa, hc6'⟩
                  have hag6 := hag5.c0 hc6'
                  have hg6 := hg5.trans0 hc6'
                  have hpk2 := labPick (pat := P) hag6 (by omega) (by omega) (fun s hs => by have := hal40 s hs; omega)
                  clear hpk hfn5 hag5 hag6 hg5 hc6'
                  go_wp2_with fail
                  refine hpk2.mono ?_
                  rintro e w7 ⟨pb, rfl, hpb, hc7'⟩
                  have hpa7 := hpa.c0 hc7'
                  have hg7 := hg6.trans0 hc7'
                  rw [HFE.out] at hpa7
                  obtain ⟨lf, hlf⟩ : ∃ lf, lf = (pickL al P).map fun l => (⟨l.toArray⟩ : ByteArray) := ⟨_, rfl⟩
                  rw [← hlf] at hpa7 hpb
                  have hlfl : lf.length ≤ 144 := by
                    have := pickL_len al P
                    rw [hlf, List.length_map]
                    omega
                  obtain ⟨Aa, ca, rfl, hca, hma⟩ := hpa7.shape
                  obtain ⟨Ab, cb', rfl, hcb', hmb'⟩ := hpb.shape
                  unfold maxLen at hma hmb'
                  clear hpk2 hpa hg6 hc7' hlf
                  go_wp2_with fail
                  go_loopw [160] (fun iv wr => ∃ (q : Nat), q ≤ lf.length ∧ iv = .int .i64 q ∧ Chg Non w7 wr) (fun iv _ => lf.length - (intOf iv).toNat)
                  case atStart => exact ⟨0, Nat.zero_le _, rfl, Chg.refl _ _⟩
                  case round =>
                    obtain ⟨q, hq, rfl, hcw⟩ := hrel
                    by_cases h6 : q < lf.length
                    · obtain ⟨a1, rfl, _, hx1⟩ := (hpa7.c0 hcw).at_ h6
                      obtain ⟨a2, rfl, _, hx2⟩ := (hpb.c0 hcw).at_ h6
                      obtain ⟨s, hs⟩ : ∃ s, s = lf[q] := ⟨_, rfl⟩
                      rw [← hs] at hx1 hx2
                      clear hs
                      go_wp2_with fail
                      have hwr : IntKind.i64.wrap (q : Int) = (q : Int) := by rw [IntKind.wrap_i64]; omega
                      have hc1 : (q : Int) < (ca : Int) := by omega
                      have hc2 : (q : Int) < (cb' : Int) := by omega
                      go_quiet (fail)
                      go_wp2_with fail
                      go_round
                      case rel => exact ⟨q + 1, by omega, by go_num, hcw.drewN nq⟩
                      case measure => simp [intOf]; omega
                    · go_wp2_with fail
                      go_ret
                      exact ⟨rfl, hg7.trans0 hcw⟩
end Go.Proofs.YtnoimmhdoaeeiaaDoor.groynePacked
