/- The walk of leaf.Split, of a leaf of two keys at the least: it is cut somewhere. -/
import Derived.Test.YtfgecgmgbngeaaaGreatLfH
import Derived.Test.YtfgecgmgbngeaaaGreatOrdX
import Derived.Lib.MinMax
import Derived.Deep.CutRange
set_option maxRecDepth 100000
namespace Go.Proofs.YtfgecgmgbngeaaaGreat
open Go.RowKit
set_option linter.unusedVariables false
set_option linter.unusedSimpArgs false

theorem sK_piece (ks : List (List UInt8)) (i m : Nat) : sK ((ks.drop i).take m) ≤ sK ks := by
  refine Nat.le_trans (sK_le _ _) ?_
  conv => rhs; rw [← List.take_append_drop i ks]
  rw [sK, sK, List.map_append, List.sum_append]; omega
theorem sV_piece (vs : List (List UInt8)) (i m : Nat) : sV ((vs.drop i).take m) ≤ sV vs := by
  refine Nat.le_trans (sV_le _ _) ?_
  conv => rhs; rw [← List.take_append_drop i vs]
  rw [sV, sV, List.map_append, List.sum_append]; omega
set_option maxHeartbeats 16000000 in
theorem lfSplit {w : World} {F : Nat → Prop} {KA VA : Option Addr} {kn kc vn vc : Nat} {ks vs : List (List UInt8)} (hk : RdBB w F (.slice KA kn kc) ks) (hv : RdBB w F (.slice VA vn vc) vs) (hL : Lim ks vs) (hF : ∀ b, F b → b < w.heap.size) (h2 : 2 ≤ ks.length) (hS : 3 + sK ks + sV vs ≤ 1000000000) :
    Calls Tryz.prog 22 #[.agg #[.bool true, .slice KA kn kc, .slice VA vn vc, .slice none 0 0]] w fun e w' => ∃ (k : Nat) (kA : Option Addr) (kn' kc' : Nat) (vA : Option Addr) (vn' vc' : Nat) (x y : Value), 1 ≤ k ∧ k < ks.length ∧ e = .returned (.tuple #[.agg #[.bool true, .slice kA kn' kc', .slice vA vn' vc', .slice none 0 0], x, y]) ∧ RdBB w' (fun b => (F b ∨ w.heap.size ≤ b) ∧ b < w'.heap.size) (.slice kA kn' kc') (ks.take k) ∧ RdBB w' (fun b => (F b ∨ w.heap.size ≤ b) ∧ b < w'.heap.size) (.slice vA vn' vc') (vs.take k) ∧ Chg Non w w' := by
  obtain ⟨_, _, ek, hkc, hkm⟩ := hk.shape
  injection ek with e1 e2 e3
  subst e1; subst e2; subst e3
  obtain ⟨_, _, ev, hvc, hvm⟩ := hv.shape
  injection ev with e1 e2 e3
  subst e1; subst e2; subst e3
  obtain ⟨kn, hkn⟩ : ∃ kn, kn = ks.length := ⟨_, rfl⟩
  have hvn : kn = vs.length := by rw [hkn, hL.e]
  rw [← hkn] at hk h2 hkc ⊢
  rw [← hvn] at hv hvc ⊢
  obtain ⟨mo, hmo⟩ : ∃ mo, kn = mo + 1 := ⟨kn - 1, by omega⟩
  have hw1 : IntKind.i64.wrap ((kn : Int) - 1) = (mo : Int) := by rw [IntWalk.i64_in _ (by have := hL.n; omega)]; omega
  have hd1 : decide ((mo : Int) < 1) = false := decide_eq_false (by omega)
  have hd1' : ¬ mo < 1 := by omega
  have hd2 : decide ((kn : Int) < (kn : Int)) = false := decide_eq_false (by omega)
  have hd2' : ¬ kn < kn := by omega
  have hlk : ∀ w' ty, (Builtin.len_ #[22] ty #[.slice KA kn kc]).run Tryz.prog w' = .ok (.int .i64 (kn : Int)) w' := fun w' ty => rfl
  have hb := Blk.new w 65 #[.bool true, .slice KA kn kc, .slice VA kn vc, .slice none 0 0]
  have hc1 := (Chg.refl Non w).alloc (.cells #[.bool true, .slice KA kn kc, .slice VA kn vc, .slice none 0 0] 65)
  have hn1 : (w.alloc (.cells #[.bool true, .slice KA kn kc, .slice VA kn vc, .slice none 0 0] 65)).heap.size = w.heap.size + 1 := Array.size_push ..
  have hr := Blk.new (w.alloc (.cells #[.bool true, .slice KA kn kc, .slice VA kn vc, .slice none 0 0] 65)) 65 #[.bool false, .slice none 0 0, .slice none 0 0, .slice none 0 0]
  rw [hn1] at hr
  have hc2 := (Chg.refl Non (w.alloc (.cells #[.bool true, .slice KA kn kc, .slice VA kn vc, .slice none 0 0] 65))).alloc (.cells #[.bool false, .slice none 0 0, .slice none 0 0, .slice none 0 0] 65)
  have hn2 := sizeAl' (w.alloc (.cells #[.bool true, .slice KA kn kc, .slice VA kn vc, .slice none 0 0] 65)) (.cells #[.bool false, .slice none 0 0, .slice none 0 0, .slice none 0 0] 65)
  have hr2 := Blk.new ((w.alloc (.cells #[.bool true, .slice KA kn kc, .slice VA kn vc, .slice none 0 0] 65)).alloc (.cells #[.bool false, .slice none 0 0, .slice none 0 0, .slice none 0 0] 65)) 65 #[.bool false, .slice none 0 0, .slice none 0 0, .slice none 0 0]
  rw [hn2, hn1] at hr2
  have hc3 := (Chg.refl Non ((w.alloc (.cells #[.bool true, .slice KA kn kc, .slice VA kn vc, .slice none 0 0] 65)).alloc (.cells #[.bool false, .slice none 0 0, .slice none 0 0, .slice none 0 0] 65))).alloc (.cells #[.bool false, .slice none 0 0, .slice none 0 0, .slice none 0 0] 65)
  have hn3 := sizeAl' ((w.alloc (.cells #[.bool true, .slice KA kn kc, .slice VA kn vc, .slice none 0 0] 65)).alloc (.cells #[.bool false, .slice none 0 0, .slice none 0 0, .slice none 0 0] 65)) (.cells #[.bool false, .slice none 0 0, .slice none 0 0, .slice none 0 0] 65)
  rw [hn2, hn1] at hn3
  have HKN := hide (And.intro hkn hvn)
  have HMO := hide hmo
  clear hkn hvn hmo
  go_enter Tryz.func22, Tryz.ntmps22
  go_upto_region 1 with fail
  obtain ⟨N, hN⟩ : ∃ N, N = w.heap.size := ⟨_, rfl⟩
  have hc03 := (hc1.trans0 hc2).trans0 hc3
  have hb3 := hb.c0 (hc2.trans0 hc3)
  have hr3 := hr.c0 hc3
  have hk3 := hk.c0 hc03
  have hv3 := hv.c0 hc03
  rw [← hN] at hb3 hr3 hr2 hn3 ⊢
  have HNN := hide hN
  have hHF : ∀ b, F b → b < N := fun b hb => by rw [hN]; exact hF b hb
  clear hb hc1 hc2 hc3 hr hn1 hn2 hN hk hv hF
  generalize World.alloc (World.alloc (World.alloc w _) _) _ = w2 at hb3 hr3 hr2 hn3 hc03 hk3 hv3 ⊢
  have HC02 := hide hc03
  have HR := hide (And.intro hr3 hr2)
  have HB := hide hb3
  have HK := hide (And.intro hk3 hv3)
  have HN3 := hide hn3
  have HLM := hide hL
  have b0 : w2.cell? ⟨N, 0, none⟩ = some (.bool true) := hb3.cell 0
  have b1 : w2.cell? ⟨N, 1, none⟩ = some (.slice KA kn kc) := hb3.cell 1
  have b2 : w2.cell? ⟨N, 2, none⟩ = some (.slice VA kn vc) := hb3.cell 2
  have b3 : w2.cell? ⟨N, 3, none⟩ = some (.slice none 0 0) := hb3.cell 3
  have hSb := hS
  have HS9 := hide hS
  clear hb3 hr3 hr2 hn3 hc03 hk3 hv3 hL hS hSb
  go_wp2_with fail
  clear b0 b1 b2 b3
  go_loopw [7, 8, 9] (fun kv bv iv wr => ∃ (k i : Nat) (bs : Int), kv = .int .i64 (k : Int) ∧ bv = .int .i64 bs ∧ iv = .int .i64 (i : Int) ∧ 1 ≤ i ∧ i ≤ mo + 1 ∧ 1 ≤ k ∧ k ≤ mo ∧ Chg Non w2 wr) (fun _ _ iv _ => mo + 1 - (intOf iv).toNat)
  case atStart => exact ⟨1, 1, 0, rfl, rfl, rfl, by omega, by omega, by omega, by omega, Chg.refl _ _⟩
  case round =>
    obtain ⟨k, i, bs, rfl, rfl, rfl, hi1, hi2, hk1, hk2, hcw⟩ := hrel
    by_cases him : i ≤ mo
    · have HW := hide hcw
      have HI := hide (And.intro hi1 (And.intro him (And.intro hk1 hk2)))
      have hwi0 : IntKind.i64.wrap (i : Int) = (i : Int) := by exact IntWalk.i64_in _ (by have := HLM.out.n; have := HKN.out.1; have := HMO.out; have := HI.out; omega)
      clear hcw hi1 hi2 hk1 hk2
      go_upto_region 11 with fail
      go_cut [10] from 59 to 72 (fun v wx => ∃ mx : Int, v = .int .i64 mx ∧ Chg Non w2 wx)
      case first =>
        refine wp_region_T (Chg Non w2) 99 (by kernel_rfl) ?_
        have HW0 := hide HW.out.drew
        generalize World.drew wr = x0 at HW0 ⊢
        clear HW
        refine AnyT.take (i := 0) (v := ?_) rfl (by kernel_rfl) (by kernel_rfl) (fun _ _ _ h => h) (by kernel_rfl) (by kernel_rfl) (Or.inl ⟨by rfl, ?_⟩) HW0.out ?_
        rotate_left
        · (intro w9 h9; have hbb := HB.out.c0 h9; have y0 : w9.cell? ⟨N, 0, none⟩ = some (.bool true) := hbb.cell 0; have y1 : w9.cell? ⟨N, 1, none⟩ = some (.slice KA kn kc) := hbb.cell 1; have y2 : w9.cell? ⟨N, 2, none⟩ = some (.slice VA kn vc) := hbb.cell 2; have y3 : w9.cell? ⟨N, 3, none⟩ = some (.slice none 0 0) := hbb.cell 3; go_simp; try with_reducible rfl)
        try simp only [List.getElem_toArray, List.getElem_cons_succ, List.getElem_cons_zero, Act.put, List.setIfInBounds_toArray, List.set_cons_zero, List.set_cons_succ]
        refine AnyT.take (i := 1) (v := ?_) rfl (by kernel_rfl) (by kernel_rfl) (fun _ _ _ h => h) (by kernel_rfl) (by kernel_rfl) (Or.inl ⟨by rfl, ?_⟩) HW0.out ?_
        rotate_left
        · (intro w9 h9; go_simp; try with_reducible rfl)
        try simp only [List.getElem_toArray, List.getElem_cons_succ, List.getElem_cons_zero, Act.put, List.setIfInBounds_toArray, List.set_cons_zero, List.set_cons_succ]
        refine AnyT.take (i := 4) (v := ?_) rfl (by kernel_rfl) (by kernel_rfl) (fun _ _ _ h => h) (by kernel_rfl) (by kernel_rfl) (Or.inl ⟨by rfl, ?_⟩) HW0.out ?_
        rotate_left
        · (intro w9 h9; have hbb := HB.out.c0 h9; have y0 : w9.cell? ⟨N, 0, none⟩ = some (.bool true) := hbb.cell 0; have y1 : w9.cell? ⟨N, 1, none⟩ = some (.slice KA kn kc) := hbb.cell 1; have y2 : w9.cell? ⟨N, 2, none⟩ = some (.slice VA kn vc) := hbb.cell 2; have y3 : w9.cell? ⟨N, 3, none⟩ = some (.slice none 0 0) := hbb.cell 3; go_simp; try with_reducible rfl)
        try simp only [List.getElem_toArray, List.getElem_cons_succ, List.getElem_cons_zero, Act.put, List.setIfInBounds_toArray, List.set_cons_zero, List.set_cons_succ]
        refine AnyT.take (i := 5) (v := ?_) rfl (by kernel_rfl) (by kernel_rfl) (fun _ _ _ h => h) (by kernel_rfl) (by kernel_rfl) (Or.inl ⟨by rfl, ?_⟩) HW0.out ?_
        rotate_left
        · (intro w9 h9; go_simp; try with_reducible rfl)
        try simp only [List.getElem_toArray, List.getElem_cons_succ, List.getElem_cons_zero, Act.put, List.setIfInBounds_toArray, List.set_cons_zero, List.set_cons_succ]
        refine AnyT.take (i := 6) (v := ?_) rfl (by kernel_rfl) (by kernel_rfl) (fun _ _ _ h => h) (by kernel_rfl) (by kernel_rfl) (Or.inl ⟨by rfl, ?_⟩) HW0.out ?_
        rotate_left
        · (intro w9 h9; go_simp; try with_reducible rfl)
        try simp only [List.getElem_toArray, List.getElem_cons_succ, List.getElem_cons_zero, Act.put, List.setIfInBounds_toArray, List.set_cons_zero, List.set_cons_succ]
        refine AnyT.take (i := 7) (v := ?_) rfl (by kernel_rfl) (by kernel_rfl) (fun _ _ _ h => h) (by kernel_rfl) (by kernel_rfl) (Or.inl ⟨by rfl, ?_⟩) HW0.out ?_
        rotate_left
        · (intro w9 h9; have y1 := hwi0; go_simp; try with_reducible rfl)
        try simp only [List.getElem_toArray, List.getElem_cons_succ, List.getElem_cons_zero, Act.put, List.setIfInBounds_toArray, List.set_cons_zero, List.set_cons_succ]
        refine AnyT.take (i := 8) (v := ?_) rfl (by kernel_rfl) (by kernel_rfl) (fun _ _ _ h => h) (by kernel_rfl) (by kernel_rfl) (Or.inl ⟨by rfl, ?_⟩) HW0.out ?_
        rotate_left
        · (intro w9 h9; go_simp; try with_reducible rfl)
        try simp only [List.getElem_toArray, List.getElem_cons_succ, List.getElem_cons_zero, Act.put, List.setIfInBounds_toArray, List.set_cons_zero, List.set_cons_succ]
        refine AnyT.take (i := 9) (v := ?_) rfl (by kernel_rfl) (by kernel_rfl) (fun _ _ _ h => h) (by kernel_rfl) (by kernel_rfl) (Or.inl ⟨by rfl, ?_⟩) HW0.out ?_
        rotate_left
        · (intro w9 h9; have y1 : w9.cell? ⟨N, 1, none⟩ = some (.slice KA kn kc) := (HB.out.c0 h9).cell 1; go_simp; try with_reducible rfl)
        try simp only [List.getElem_toArray, List.getElem_cons_succ, List.getElem_cons_zero, Act.put, List.setIfInBounds_toArray, List.set_cons_zero, List.set_cons_succ]
        refine AnyT.take (i := 10) (v := ?_) rfl (by kernel_rfl) (by kernel_rfl) (fun _ _ _ h => h) (by kernel_rfl) (by kernel_rfl) (Or.inl ⟨by rfl, ?_⟩) HW0.out ?_
        rotate_left
        · (intro w9 h9; have y1 := hlk; go_simp; try with_reducible rfl)
        try simp only [List.getElem_toArray, List.getElem_cons_succ, List.getElem_cons_zero, Act.put, List.setIfInBounds_toArray, List.set_cons_zero, List.set_cons_succ]
        refine AnyT.one (i := 2) (by kernel_rfl) rfl (fun K hK => ?_)
        rw [if_pos (by rfl)]
        try simp only [List.getElem_toArray, List.getElem_cons_succ, List.getElem_cons_zero, Act.put, List.setIfInBounds_toArray, List.set_cons_zero, List.set_cons_succ]
        have hcc := lfPart (i := 0) (j := i) (HK.out.1.c0 HW0.out) (HK.out.2.c0 HW0.out) HLM.out (fun b hb => by have := hHF b hb; have := HN3.out; have := HW0.out.size; omega) (Nat.zero_le _) (by have := HKN.out.1; have := HI.out; have := HMO.out; omega)
        go_wp2_with (go_at_call 48; refine hcc.mono ?_; rintro e x1 ⟨A1, m1, k1, B1, n1, l1, rfl, hA1, hB1, hd1⟩)
        have HP1 := hide (And.intro hA1 hB1)
        have HW1 := hide (HW0.out.trans0 hd1)
        have nx1 := hd1.size
        have nw0 := HW0.out.size
        have HD1 := hide hd1
        refine hK.out _ _ (fun _ => HW1.out) ?_
        clear hcc hA1 hB1 hd1
        clear hK K
        try simp only [List.getElem_toArray, List.getElem_cons_succ, List.getElem_cons_zero, Act.put, List.setIfInBounds_toArray, List.set_cons_zero, List.set_cons_succ]
        refine AnyT.one (i := 3) (by kernel_rfl) rfl (fun K hK => ?_)
        rw [if_pos (by rfl)]
        try simp only [List.getElem_toArray, List.getElem_cons_succ, List.getElem_cons_zero, Act.put, List.setIfInBounds_toArray, List.set_cons_zero, List.set_cons_succ]
        have hcc := lfSize (NA := none) (nc := 0) HP1.out.1 HP1.out.2 (by have h1 := HS9.out; have h3 := sK_piece ks; have h4 := sV_piece vs; first | (have h5 := h3 0 (i - 0); have h6 := h4 0 (i - 0); omega) | (have h5 := h3 i (kn - i); have h6 := h4 i (kn - i); omega))
        obtain ⟨s1, hs1⟩ : ∃ s, s = 3 + sK ((ks.drop 0).take (i - 0)) + sV ((vs.drop 0).take (i - 0)) := ⟨_, rfl⟩
        rw [← hs1] at hcc
        clear hs1
        go_wp2_with (go_at_call 21; refine hcc.mono ?_; rintro e x2 ⟨rfl, hd2⟩)
        have HW2 := hide (HW1.out.trans0 hd2)
        refine hK.out _ _ (fun _ => HW2.out) ?_
        clear hcc hd2
        clear hK K
        try simp only [List.getElem_toArray, List.getElem_cons_succ, List.getElem_cons_zero, Act.put, List.setIfInBounds_toArray, List.set_cons_zero, List.set_cons_succ]
        refine AnyT.one (i := 11) (by kernel_rfl) rfl (fun K hK => ?_)
        rw [if_pos (by rfl)]
        try simp only [List.getElem_toArray, List.getElem_cons_succ, List.getElem_cons_zero, Act.put, List.setIfInBounds_toArray, List.set_cons_zero, List.set_cons_succ]
        have hcc := lfPart (i := i) (j := kn) (HK.out.1.c0 HW2.out) (HK.out.2.c0 HW2.out) HLM.out (fun b hb => by have := hHF b hb; have := HN3.out; have := HW2.out.size; omega) (by have := HI.out; have := HMO.out; omega) (by have := HKN.out.1; omega)
        go_wp2_with (go_at_call 48; refine hcc.mono ?_; rintro e x3 ⟨A2, m2, k2, B2, n2, l2, rfl, hA2, hB2, hd3⟩)
        have HP2 := hide (And.intro hA2 hB2)
        have HW3 := hide (HW2.out.trans0 hd3)
        have nx3 := hd3.size
        have nw2 := HW2.out.size
        have HD2 := hide hd3
        refine hK.out _ _ (fun _ => HW3.out) ?_
        clear hcc hA2 hB2 hd3
        clear hK K
        try simp only [List.getElem_toArray, List.getElem_cons_succ, List.getElem_cons_zero, Act.put, List.setIfInBounds_toArray, List.set_cons_zero, List.set_cons_succ]
        refine AnyT.one (i := 12) (by kernel_rfl) rfl (fun K hK => ?_)
        rw [if_pos (by rfl)]
        try simp only [List.getElem_toArray, List.getElem_cons_succ, List.getElem_cons_zero, Act.put, List.setIfInBounds_toArray, List.set_cons_zero, List.set_cons_succ]
        have hcc := lfSize (NA := none) (nc := 0) HP2.out.1 HP2.out.2 (by have h1 := HS9.out; have h3 := sK_piece ks; have h4 := sV_piece vs; first | (have h5 := h3 0 (i - 0); have h6 := h4 0 (i - 0); omega) | (have h5 := h3 i (kn - i); have h6 := h4 i (kn - i); omega))
        obtain ⟨s2, hs2⟩ : ∃ s, s = 3 + sK ((ks.drop i).take (kn - i)) + sV ((vs.drop i).take (kn - i)) := ⟨_, rfl⟩
        rw [← hs2] at hcc
        clear hs2
        go_wp2_with (go_at_call 21; refine hcc.mono ?_; rintro e x4 ⟨rfl, hd4⟩)
        have HW4 := hide (HW3.out.trans0 hd4)
        refine hK.out _ _ (fun _ => HW4.out) ?_
        clear hcc hd4
        clear hK K
        try simp only [List.getElem_toArray, List.getElem_cons_succ, List.getElem_cons_zero, Act.put, List.setIfInBounds_toArray, List.set_cons_zero, List.set_cons_succ]
        refine AnyT.take (i := 13) (v := ?_) rfl (by kernel_rfl) (by kernel_rfl) (fun _ _ _ h => h) (by kernel_rfl) (by kernel_rfl) (Or.inl ⟨by rfl, ?_⟩) HW4.out ?_
        rotate_left
        · (intro w9 h9; go_simp; try with_reducible rfl)
        try simp only [List.getElem_toArray, List.getElem_cons_succ, List.getElem_cons_zero, Act.put, List.setIfInBounds_toArray, List.set_cons_zero, List.set_cons_succ]
        refine AnyT.take (i := 14) (v := ?_) rfl (by kernel_rfl) (by kernel_rfl) (fun _ _ _ h => h) (by kernel_rfl) (by kernel_rfl) (Or.inl ⟨by rfl, ?_⟩) HW4.out ?_
        rotate_left
        · (intro w9 h9; go_simp; try with_reducible rfl)
        try simp only [List.getElem_toArray, List.getElem_cons_succ, List.getElem_cons_zero, Act.put, List.setIfInBounds_toArray, List.set_cons_zero, List.set_cons_succ]
        refine AnyT.nil (by kernel_rfl) ?_
        go_wp2_with fail
        go_meet
        exact ⟨max (s1 : Int) (s2 : Int), rfl, HW4.out⟩
      case rest =>
        obtain ⟨mx, rfl, hcx⟩ := hcut
        have hI := HI.out
        have hw1i : IntKind.i64.wrap ((i : Int) + 1) = ((i + 1 : Nat) : Int) := by rw [IntWalk.i64_in _ (by have := HLM.out.n; have := HKN.out.1; have := HMO.out; omega)]; omega
        by_cases hi1 : i = 1
        · have he : ((i : Int) == 1) = true := by rw [hi1]; rfl
          have he2 : i = 1 := hi1
          clear hi1 hwi0
          go_wp2_with fail
          go_roundw
          case rel => exact ⟨i, i + 1, mx, rfl, rfl, by go_num, by omega, by omega, by omega, by omega, hcx⟩
          case measure => (simp [intOf]; omega)
        · have he : ((i : Int) == 1) = false := beq_eq_false_iff_ne.2 (by omega)
          by_cases hlt : mx < bs
          · have hd9 : decide (mx < bs) = true := decide_eq_true hlt
            clear hwi0
            go_wp2_with fail
            go_roundw
            case rel => exact ⟨i, i + 1, mx, rfl, rfl, by go_num, by omega, by omega, by omega, by omega, hcx⟩
            case measure => (simp [intOf]; omega)
          · have hd9 : decide (mx < bs) = false := decide_eq_false hlt
            clear hwi0
            go_wp2_with fail
            go_roundw
            case rel => exact ⟨k, i + 1, bs, rfl, rfl, by go_num, by omega, by omega, by omega, by omega, hcx⟩
            case measure => (simp [intOf]; omega)
    · have hgt : ¬ i ≤ mo := him
      have HW := hide hcw
      have HI := hide (And.intro hk1 hk2)
      have hwk0 : IntKind.i64.wrap (k : Int) = (k : Int) := by exact IntWalk.i64_in _ (by have := HLM.out.n; have := HKN.out.1; have := HMO.out; have := HI.out; omega)
      have hd9 : decide ((i : Int) ≤ (mo : Int)) = false := decide_eq_false (by omega)
      clear hcw hi1 hi2 hk1 hk2
      go_upto_region 14 with fail
      refine wp_region_T (Chg Non w2) 17 (by kernel_rfl) ?_
      have HW0 := hide HW.out.drew
      generalize World.drew wr = x0 at HW0 ⊢
      clear HW
      have hklt : k < kn := by have := HI.out; have := HMO.out; omega
      have HKL := hide hklt
      obtain ⟨ade, xe, eA, _, hxe, hre⟩ := HK.out.1.at_ (k := k) (by have := HKN.out.1; omega)
      subst eA
      obtain ⟨eA, en, ec, rfl⟩ : ∃ A n c, xe = .slice A n c := by obtain ⟨A, c, e, _, _⟩ := hre.shape; exact ⟨A, _, c, e⟩
      obtain ⟨ke, hke⟩ : ∃ ke, ke = ks[k]'(by have := HKN.out.1; omega) := ⟨_, rfl⟩
      rw [← hke] at hre
      have hkel : ke.length ≤ 140737488355328 := Nat.le_trans (HLM.out.k _ (by rw [hke]; exact List.getElem_mem _)) (by decide)
      have HEL := hide (And.intro hxe (And.intro hre hkel))
      clear hxe hre hklt hke hkel
      refine AnyT.takeM (i := 0) (v := ?_) rfl (by kernel_rfl) (by kernel_rfl) (fun _ _ _ h => h) (by kernel_rfl) (by kernel_rfl) (Or.inl ⟨by rfl, ?_⟩) HW0.out ?_
      rotate_left
      · (intro w9 h9; have hbb := HB.out.c0 h9; have y0 : w9.cell? ⟨N, 0, none⟩ = some (.bool true) := hbb.cell 0; have y1 : w9.cell? ⟨N, 1, none⟩ = some (.slice (some ade) kn kc) := hbb.cell 1; have y2 : w9.cell? ⟨N, 2, none⟩ = some (.slice VA kn vc) := hbb.cell 2; have y3 : w9.cell? ⟨N, 3, none⟩ = some (.slice none 0 0) := hbb.cell 3; go_simp; try with_reducible rfl)
      try simp only [List.getElem_toArray, List.getElem_cons_succ, List.getElem_cons_zero, Act.put, List.setIfInBounds_toArray, List.set_cons_zero, List.set_cons_succ]
      refine AnyT.takeM (i := 1) (v := ?_) rfl (by kernel_rfl) (by kernel_rfl) (fun _ _ _ h => h) (by kernel_rfl) (by kernel_rfl) (Or.inl ⟨by rfl, ?_⟩) HW0.out ?_
      rotate_left
      · (intro w9 h9; go_simp; try with_reducible rfl)
      try simp only [List.getElem_toArray, List.getElem_cons_succ, List.getElem_cons_zero, Act.put, List.setIfInBounds_toArray, List.set_cons_zero, List.set_cons_succ]
      refine AnyT.takeM (i := 3) (v := ?_) rfl (by kernel_rfl) (by kernel_rfl) (fun _ _ _ h => h) (by kernel_rfl) (by kernel_rfl) (Or.inl ⟨by rfl, ?_⟩) HW0.out ?_
      rotate_left
      · (intro w9 h9; go_simp; try with_reducible rfl)
      try simp only [List.getElem_toArray, List.getElem_cons_succ, List.getElem_cons_zero, Act.put, List.setIfInBounds_toArray, List.set_cons_zero, List.set_cons_succ]
      refine AnyT.takeM (i := 4) (v := ?_) rfl (by kernel_rfl) (by kernel_rfl) (fun _ _ _ h => h) (by kernel_rfl) (by kernel_rfl) (Or.inl ⟨by rfl, ?_⟩) HW0.out ?_
      rotate_left
      · (intro w9 h9; have y1 : w9.cell? ⟨N, 1, none⟩ = some (.slice (some ade) kn kc) := (HB.out.c0 h9).cell 1; go_simp; try with_reducible rfl)
      try simp only [List.getElem_toArray, List.getElem_cons_succ, List.getElem_cons_zero, Act.put, List.setIfInBounds_toArray, List.set_cons_zero, List.set_cons_succ]
      refine AnyT.takeM (i := 5) (v := ?_) rfl (by kernel_rfl) (by kernel_rfl) (fun _ _ _ h => h) (by kernel_rfl) (by kernel_rfl) (Or.inl ⟨by rfl, ?_⟩) HW0.out ?_
      rotate_left
      · (intro w9 h9; go_simp; try with_reducible rfl)
      try simp only [List.getElem_toArray, List.getElem_cons_succ, List.getElem_cons_zero, Act.put, List.setIfInBounds_toArray, List.set_cons_zero, List.set_cons_succ]
      refine AnyT.takeM (i := 6) (v := ?_) rfl (by kernel_rfl) (by kernel_rfl) (fun _ _ _ h => h) (by kernel_rfl) (by kernel_rfl) (Or.inl ⟨by rfl, ?_⟩) HW0.out ?_
      rotate_left
      · (intro w9 h9; have y1 := HKL.out; go_simp; try with_reducible rfl)
      try simp only [List.getElem_toArray, List.getElem_cons_succ, List.getElem_cons_zero, Act.put, List.setIfInBounds_toArray, List.set_cons_zero, List.set_cons_succ]
      refine AnyT.takeM (i := 7) (v := ?_) rfl (by kernel_rfl) (by kernel_rfl) (fun _ _ _ h => h) (by kernel_rfl) (by kernel_rfl) (Or.inl ⟨by rfl, ?_⟩) HW0.out ?_
      rotate_left
      · (intro w9 h9; have y1 := h9.cell HEL.out.1 (fun h => h); go_simp; try with_reducible rfl)
      try simp only [List.getElem_toArray, List.getElem_cons_succ, List.getElem_cons_zero, Act.put, List.setIfInBounds_toArray, List.set_cons_zero, List.set_cons_succ]
      refine AnyT.takeM (i := 9) (v := ?_) rfl (by kernel_rfl) (by kernel_rfl) (fun _ _ _ h => h) (by kernel_rfl) (by kernel_rfl) (Or.inl ⟨by rfl, ?_⟩) HW0.out ?_
      rotate_left
      · (intro w9 h9; have hbb := HB.out.c0 h9; have y0 : w9.cell? ⟨N, 0, none⟩ = some (.bool true) := hbb.cell 0; have y1 : w9.cell? ⟨N, 1, none⟩ = some (.slice (some ade) kn kc) := hbb.cell 1; have y2 : w9.cell? ⟨N, 2, none⟩ = some (.slice VA kn vc) := hbb.cell 2; have y3 : w9.cell? ⟨N, 3, none⟩ = some (.slice none 0 0) := hbb.cell 3; go_simp; try with_reducible rfl)
      try simp only [List.getElem_toArray, List.getElem_cons_succ, List.getElem_cons_zero, Act.put, List.setIfInBounds_toArray, List.set_cons_zero, List.set_cons_succ]
      refine AnyT.takeM (i := 10) (v := ?_) rfl (by kernel_rfl) (by kernel_rfl) (fun _ _ _ h => h) (by kernel_rfl) (by kernel_rfl) (Or.inl ⟨by rfl, ?_⟩) HW0.out ?_
      rotate_left
      · (intro w9 h9; go_simp; try with_reducible rfl)
      try simp only [List.getElem_toArray, List.getElem_cons_succ, List.getElem_cons_zero, Act.put, List.setIfInBounds_toArray, List.set_cons_zero, List.set_cons_succ]
      refine AnyT.takeM (i := 11) (v := ?_) rfl (by kernel_rfl) (by kernel_rfl) (fun _ _ _ h => h) (by kernel_rfl) (by kernel_rfl) (Or.inl ⟨by rfl, ?_⟩) HW0.out ?_
      rotate_left
      · (intro w9 h9; go_simp; try with_reducible rfl)
      try simp only [List.getElem_toArray, List.getElem_cons_succ, List.getElem_cons_zero, Act.put, List.setIfInBounds_toArray, List.set_cons_zero, List.set_cons_succ]
      refine AnyT.takeM (i := 12) (v := ?_) rfl (by kernel_rfl) (by kernel_rfl) (fun _ _ _ h => h) (by kernel_rfl) (by kernel_rfl) (Or.inl ⟨by rfl, ?_⟩) HW0.out ?_
      rotate_left
      · (intro w9 h9; have y1 := hwk0; go_simp; try with_reducible rfl)
      try simp only [List.getElem_toArray, List.getElem_cons_succ, List.getElem_cons_zero, Act.put, List.setIfInBounds_toArray, List.set_cons_zero, List.set_cons_succ]
      refine AnyT.takeM (i := 13) (v := ?_) rfl (by kernel_rfl) (by kernel_rfl) (fun _ _ _ h => h) (by kernel_rfl) (by kernel_rfl) (Or.inl ⟨by rfl, ?_⟩) HW0.out ?_
      rotate_left
      · (intro w9 h9; go_simp; try with_reducible rfl)
      try simp only [List.getElem_toArray, List.getElem_cons_succ, List.getElem_cons_zero, Act.put, List.setIfInBounds_toArray, List.set_cons_zero, List.set_cons_succ]
      refine AnyT.takeM (i := 14) (v := ?_) rfl (by kernel_rfl) (by kernel_rfl) (fun _ _ _ h => h) (by kernel_rfl) (by kernel_rfl) (Or.inl ⟨by rfl, ?_⟩) HW0.out ?_
      rotate_left
      · (intro w9 h9; have y1 : w9.cell? ⟨N, 1, none⟩ = some (.slice (some ade) kn kc) := (HB.out.c0 h9).cell 1; go_simp; try with_reducible rfl)
      try simp only [List.getElem_toArray, List.getElem_cons_succ, List.getElem_cons_zero, Act.put, List.setIfInBounds_toArray, List.set_cons_zero, List.set_cons_succ]
      refine AnyT.takeM (i := 15) (v := ?_) rfl (by kernel_rfl) (by kernel_rfl) (fun _ _ _ h => h) (by kernel_rfl) (by kernel_rfl) (Or.inl ⟨by rfl, ?_⟩) HW0.out ?_
      rotate_left
      · (intro w9 h9; have y1 := hlk; go_simp; try with_reducible rfl)
      try simp only [List.getElem_toArray, List.getElem_cons_succ, List.getElem_cons_zero, Act.put, List.setIfInBounds_toArray, List.set_cons_zero, List.set_cons_succ]
      refine AnyT.one (i := 2) (by kernel_rfl) rfl (fun K hK => ?_)
      rw [if_pos (by rfl)]
      try simp only [List.getElem_toArray, List.getElem_cons_succ, List.getElem_cons_zero, Act.put, List.setIfInBounds_toArray, List.set_cons_zero, List.set_cons_succ]
      have hcc := lfPart (i := 0) (j := k) (HK.out.1.c0 HW0.out) (HK.out.2.c0 HW0.out) HLM.out (fun b hb => by have := hHF b hb; have := HN3.out; have := HW0.out.size; omega) (Nat.zero_le _) (by have := HKN.out.1; have := HI.out; have := HMO.out; omega)
      go_wp2_with (go_at_call 48; refine hcc.mono ?_; rintro e x1 ⟨A1, m1, k1, B1, n1, l1, rfl, hA1, hB1, hd1⟩)
      have HP1 := hide (And.intro hA1 hB1)
      have HW1 := hide (HW0.out.trans0 hd1)
      have nx1 := hd1.size
      have nw0 := HW0.out.size
      have HD1 := hide hd1
      refine hK.out _ _ (fun _ => HW1.out) ?_
      clear hcc hA1 hB1 hd1
      clear hK K
      try simp only [List.getElem_toArray, List.getElem_cons_succ, List.getElem_cons_zero, Act.put, List.setIfInBounds_toArray, List.set_cons_zero, List.set_cons_succ]
      refine AnyT.one (i := 8) (by kernel_rfl) rfl (fun K hK => ?_)
      rw [if_pos (by rfl)]
      try simp only [List.getElem_toArray, List.getElem_cons_succ, List.getElem_cons_zero, Act.put, List.setIfInBounds_toArray, List.set_cons_zero, List.set_cons_succ]
      have hcc := bytesClone (HEL.out.2.1.c0 HW1.out) HEL.out.2.2
      go_wp2_with (go_at_call 40; refine hcc.mono ?_; rintro e x2 ⟨u, rfl, hu, hd2⟩)
      obtain ⟨UA, un, uc, rfl⟩ := hu.shapeH
      have HW2 := hide (HW1.out.trans0 hd2)
      replace HP1 := hide (And.intro (HP1.out.1.c0 hd2) (HP1.out.2.c0 hd2))
      have nx2 := hd2.size
      refine hK.out _ _ (fun _ => HW2.out) ?_
      clear hcc hd2 hu
      clear hK K
      try simp only [List.getElem_toArray, List.getElem_cons_succ, List.getElem_cons_zero, Act.put, List.setIfInBounds_toArray, List.set_cons_zero, List.set_cons_succ]
      refine AnyT.one (i := 16) (by kernel_rfl) rfl (fun K hK => ?_)
      rw [if_pos (by rfl)]
      try simp only [List.getElem_toArray, List.getElem_cons_succ, List.getElem_cons_zero, Act.put, List.setIfInBounds_toArray, List.set_cons_zero, List.set_cons_succ]
      have hcc := lfPart (i := k) (j := kn) (HK.out.1.c0 HW2.out) (HK.out.2.c0 HW2.out) HLM.out (fun b hb => by have := hHF b hb; have := HN3.out; have := HW2.out.size; omega) (by have := HI.out; have := HMO.out; omega) (by have := HKN.out.1; omega)
      go_wp2_with (go_at_call 48; refine hcc.mono ?_; rintro e x3 ⟨A2, m2, k2, B2, n2, l2, rfl, hA2, hB2, hd3⟩)
      have HP2 := hide (And.intro hA2 hB2)
      have HW3 := hide (HW2.out.trans0 hd3)
      have nx3 := hd3.size
      have nw2 := HW2.out.size
      have HD2 := hide hd3
      refine hK.out _ _ (fun _ => HW3.out) ?_
      clear hcc hA2 hB2 hd3
      clear hK K
      try simp only [List.getElem_toArray, List.getElem_cons_succ, List.getElem_cons_zero, Act.put, List.setIfInBounds_toArray, List.set_cons_zero, List.set_cons_succ]
      refine AnyT.one (i := 17) (by kernel_rfl) rfl (fun K hK => ?_)
      rw [if_pos (by rfl)]
      try simp only [List.getElem_toArray, List.getElem_cons_succ, List.getElem_cons_zero, Act.put, List.setIfInBounds_toArray, List.set_cons_zero, List.set_cons_succ]
      have hRx := And.intro (HR.out.1.c0 HW3.out) (HR.out.2.c0 HW3.out)
      replace HP1 := hide (And.intro (HP1.out.1.c0 HD2.out) (HP1.out.2.c0 HD2.out))
      have y0 : x3.cell? ⟨N + 1, 0, none⟩ = some (.bool false) := hRx.1.cell 0
      have f0 := hRx.1.frozen 0
      have y1 : x3.cell? ⟨N + 1, 1, none⟩ = some (.slice none 0 0) := hRx.1.cell 1
      have f1 := hRx.1.frozen 1
      have y2 : x3.cell? ⟨N + 1, 2, none⟩ = some (.slice none 0 0) := hRx.1.cell 2
      have f2 := hRx.1.frozen 2
      have y3 : x3.cell? ⟨N + 1, 3, none⟩ = some (.slice none 0 0) := hRx.1.cell 3
      have f3 := hRx.1.frozen 3
      have hr8 := (((hRx.1.set_ 0 (.bool true)).set_ 1 (.slice A1 m1 k1)).set_ 2 (.slice B1 n1 l1)).set_ 3 (.slice none 0 0)
      simp at hr8
      have hc8 : Chg (fun k => k = N + 1) x3 ((((x3.setCell ⟨N + 1, 0, none⟩ (.bool true)).setCell ⟨N + 1, 1, none⟩ (.slice A1 m1 k1)).setCell ⟨N + 1, 2, none⟩ (.slice B1 n1 l1)).setCell ⟨N + 1, 3, none⟩ (.slice none 0 0)) := Chg.setCell (p := ⟨N + 1, 3, none⟩) (Chg.setCell (p := ⟨N + 1, 2, none⟩) (Chg.setCell (p := ⟨N + 1, 1, none⟩) (Chg.setCell (p := ⟨N + 1, 0, none⟩) (Chg.refl (fun k => k = N + 1) x3) (fun _ => rfl) _) (fun _ => rfl) _) (fun _ => rfl) _) (fun _ => rfl) _
      have HRy := hide (And.intro hr8 (hRx.2.chg hc8 (show ¬ N + 1 + 1 = N + 1 by omega)))
      have HWy := hide ((HW3.out.mono (S' := fun b => b = N + 1) fun _ _ h => h.elim).trans hc8 fun b hb e => e)
      have HP1y := hide (And.intro (HP1.out.1.chg hc8 (fun b hb e => by have e : b = N + 1 := e; exact hb.1.elim (fun h => by have := hHF b h; omega) (fun h => by have := HN3.out; omega))) (HP1.out.2.chg hc8 (fun b hb e => by have e : b = N + 1 := e; exact hb.1.elim (fun h => by have := hHF b h; omega) (fun h => by have := HN3.out; omega))))
      have ny := hc8.size
      clear hr8 hc8 hRx
      go_simp
      refine hK.out _ _ (fun h => absurd h (by decide)) ?_
      clear y0 y1 y2 y3 f0 f1 f2 f3
      generalize World.setCell _ _ _ = z1 at HRy HWy HP1y ny ⊢
      clear hK K
      try simp only [List.getElem_toArray, List.getElem_cons_succ, List.getElem_cons_zero, Act.put, List.setIfInBounds_toArray, List.set_cons_zero, List.set_cons_succ]
      refine AnyT.takeL (i := 18) (v := ?_) rfl (by kernel_rfl) (by kernel_rfl) (fun _ _ _ h => h) (by kernel_rfl) (by kernel_rfl) (Or.inl ⟨by rfl, ?_⟩) ?_
      rotate_left
      · (intro w9; go_simp; try with_reducible rfl)
      try simp only [List.getElem_toArray, List.getElem_cons_succ, List.getElem_cons_zero, Act.put, List.setIfInBounds_toArray, List.set_cons_zero, List.set_cons_succ]
      refine AnyT.one (i := 19) (by kernel_rfl) rfl (fun K hK => ?_)
      rw [if_pos (by rfl)]
      try simp only [List.getElem_toArray, List.getElem_cons_succ, List.getElem_cons_zero, Act.put, List.setIfInBounds_toArray, List.set_cons_zero, List.set_cons_succ]
      have hRx := HRy.out
      have y0 : z1.cell? ⟨N + 1 + 1, 0, none⟩ = some (.bool false) := hRx.2.cell 0
      have f0 := hRx.2.frozen 0
      have y1 : z1.cell? ⟨N + 1 + 1, 1, none⟩ = some (.slice none 0 0) := hRx.2.cell 1
      have f1 := hRx.2.frozen 1
      have y2 : z1.cell? ⟨N + 1 + 1, 2, none⟩ = some (.slice none 0 0) := hRx.2.cell 2
      have f2 := hRx.2.frozen 2
      have y3 : z1.cell? ⟨N + 1 + 1, 3, none⟩ = some (.slice none 0 0) := hRx.2.cell 3
      have f3 := hRx.2.frozen 3
      have hr8 := (((hRx.2.set_ 0 (.bool true)).set_ 1 (.slice A2 m2 k2)).set_ 2 (.slice B2 n2 l2)).set_ 3 (.slice none 0 0)
      simp at hr8
      have hc8 : Chg (fun k => k = N + 1 + 1) z1 ((((z1.setCell ⟨N + 1 + 1, 0, none⟩ (.bool true)).setCell ⟨N + 1 + 1, 1, none⟩ (.slice A2 m2 k2)).setCell ⟨N + 1 + 1, 2, none⟩ (.slice B2 n2 l2)).setCell ⟨N + 1 + 1, 3, none⟩ (.slice none 0 0)) := Chg.setCell (p := ⟨N + 1 + 1, 3, none⟩) (Chg.setCell (p := ⟨N + 1 + 1, 2, none⟩) (Chg.setCell (p := ⟨N + 1 + 1, 1, none⟩) (Chg.setCell (p := ⟨N + 1 + 1, 0, none⟩) (Chg.refl (fun k => k = N + 1 + 1) z1) (fun _ => rfl) _) (fun _ => rfl) _) (fun _ => rfl) _) (fun _ => rfl) _
      have HRz := hide (And.intro (hRx.1.chg hc8 (show ¬ N + 1 = N + 1 + 1 by omega)) hr8)
      have hWz := (HWy.out.mono (S' := fun b => b = N + 1 ∨ b = N + 1 + 1) fun _ _ h => .inl h).trans hc8 fun b hb e => .inr e
      have nz := hc8.size
      have HZ := hide (And.intro ((HP1y.out.1.chg hc8 (fun b hb e => by have e : b = N + 1 + 1 := e; exact hb.1.elim (fun h => by have := hHF b h; omega) (fun h => by have := HN3.out; omega))).mono (F' := fun b => (F b ∨ N ≤ b) ∧ b < (((((z1.setCell ⟨N + 1 + 1, 0, none⟩ (.bool true)).setCell ⟨N + 1 + 1, 1, none⟩ (.slice A2 m2 k2)).setCell ⟨N + 1 + 1, 2, none⟩ (.slice B2 n2 l2)).setCell ⟨N + 1 + 1, 3, none⟩ (.slice none 0 0))).heap.size) fun b hb => ⟨hb.1.elim .inl fun h => .inr (by have := HN3.out; omega), Nat.lt_of_lt_of_le hb.2 (by omega)⟩) (And.intro ((HP1y.out.2.chg hc8 (fun b hb e => by have e : b = N + 1 + 1 := e; exact hb.1.elim (fun h => by have := hHF b h; omega) (fun h => by have := HN3.out; omega))).mono (F' := fun b => (F b ∨ N ≤ b) ∧ b < (((((z1.setCell ⟨N + 1 + 1, 0, none⟩ (.bool true)).setCell ⟨N + 1 + 1, 1, none⟩ (.slice A2 m2 k2)).setCell ⟨N + 1 + 1, 2, none⟩ (.slice B2 n2 l2)).setCell ⟨N + 1 + 1, 3, none⟩ (.slice none 0 0))).heap.size) fun b hb => ⟨hb.1.elim .inl fun h => .inr (by have := HN3.out; omega), Nat.lt_of_lt_of_le hb.2 (by omega)⟩) hWz))
      clear hr8 hc8 hRx
      go_simp
      refine hK.out _ _ (fun h => absurd h (by decide)) ?_
      clear y0 y1 y2 y3 f0 f1 f2 f3
      clear nz hWz
      generalize World.setCell _ _ _ = z2 at HRz HZ ⊢
      clear hK K
      try simp only [List.getElem_toArray, List.getElem_cons_succ, List.getElem_cons_zero, Act.put, List.setIfInBounds_toArray, List.set_cons_zero, List.set_cons_succ]
      refine AnyT.nil (by kernel_rfl) ?_
      go_wp2_with fail
      have q0 := HRz.out.1.cell 0
      have q1 := HRz.out.1.cell 1
      have q2 := HRz.out.1.cell 2
      have q3 := HRz.out.1.cell 3
      have p0 := HRz.out.2.cell 0
      have p1 := HRz.out.2.cell 1
      have p2 := HRz.out.2.cell 2
      have p3 := HRz.out.2.cell 3
      simp at q0 q1 q2 q3 p0 p1 p2 p3
      have hNw := HNN.out
      refine bodyPost_ret (v := .tuple #[.agg #[.bool true, .slice A1 m1 k1, .slice B1 n1 l1, .slice none 0 0], .slice UA un uc, .agg #[.bool true, .slice A2 m2 k2, .slice B2 n2 l2, .slice none 0 0]]) (by simp [results, Tryz.results22, go_sem, q0, q1, q2, q3, p0, p1, p2, p3]) rfl ⟨k, A1, m1, k1, B1, n1, l1, .slice UA un uc, .agg #[.bool true, .slice A2 m2 k2, .slice B2 n2 l2, .slice none 0 0], by have := HI.out; have := HMO.out; omega, by have := HI.out; have := HMO.out; omega, rfl, HZ.out.1.mono fun b hb => ⟨by rw [← hNw]; exact hb.1, hb.2⟩, HZ.out.2.1.mono fun b hb => ⟨by rw [← hNw]; exact hb.1, hb.2⟩, HC02.out.trans HZ.out.2.2 fun b hb e => by have e : b = N + 1 ∨ b = N + 1 + 1 := e; omega⟩
end Go.Proofs.YtfgecgmgbngeaaaGreat
