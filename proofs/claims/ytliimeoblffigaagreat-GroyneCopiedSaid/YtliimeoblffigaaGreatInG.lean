/- The walk of leaf.Split, of any node: the best cut. -/
import Derived.Test.YtliimeoblffigaaGreatInF
import Derived.Test.YtliimeoblffigaaGreatDgEG
import Derived.Lib.MinMax
import Derived.Deep.CutRange
open List renaming getElem_toArray → lz1, getElem_cons_succ → lz2, getElem_cons_zero → lz3, setIfInBounds_toArray → lz4, set_cons_zero → lz5, set_cons_succ → lz6
set_option linter.unusedVariables false
set_option linter.unusedSimpArgs false
set_option maxRecDepth 100000
namespace Go.Proofs.YtliimeoblffigaaGreat
open Go.RowKit
set_option linter.unusedVariables false
set_option linter.unusedSimpArgs false

theorem sK_piece (ks : List (List UInt8)) (i m : Nat) : sK ((ks.drop i).take m) ≤ sK ks := by
 refine Nat.le_trans (sK_le _ _) ?_
 conv => rhs; rw [← List.take_append_drop i ks]
 rw [sK, sK, List.map_append, List.sum_append]; omega
theorem sV_piece (vs : List (List UInt8)) (i m : Nat) : sV ((vs.drop i).take m) ≤ sV vs := by
 refine Nat.le_trans (sV_le _ _) ?_
 conv => rhs; rw [← List.take_append_drop i vs]
 rw [sV, sV, List.map_append, List.sum_append]; omega
/-- sizes of the parts of a leaf, of an inner node; the greater one of a cut's two -/
def szL (ks vs : List (List UInt8)) (i j : Nat) : Nat := 3 + sK ((ks.drop i).take (j - i)) + sV ((vs.drop i).take (j - i))
def szI (ks : List (List UInt8)) (i j : Nat) : Nat := sizeIn ((ks.drop i).take (j - i)) (j + 1 - i)
def mxL (ks vs : List (List UInt8)) (k : Nat) : Nat := max (szL ks vs 0 k) (szL ks vs k ks.length)
def mxI (ks : List (List UInt8)) (k : Nat) : Nat := max (szI ks 0 k) (szI ks (k + 1) ks.length)
/-- a part reads as these lists -/
def SpR (w w' : World) (F : Nat → Prop) (kA : Option Addr) (kn kc : Nat) (vA : Option Addr) (vn vc : Nat) (nA : Option Addr) (nn nc : Nat) (p : List (List UInt8) × List (List UInt8) × List Int) : Prop :=
 RdBB w' (fun b => ((F b ∧ b < w.heap.size) ∨ w.heap.size ≤ b) ∧ b < w'.heap.size) (.slice kA kn kc) p.1 ∧ RdBB w' (fun b => ((F b ∧ b < w.heap.size) ∨ w.heap.size ≤ b) ∧ b < w'.heap.size) (.slice vA vn vc) p.2.1 ∧ RdI w' (fun b => ((F b ∧ b < w.heap.size) ∨ w.heap.size ≤ b) ∧ b < w'.heap.size) (.slice nA nn nc) p.2.2
/-- what Split answers: a cut k no other of which is better -/
def SpP (lf : Bool) (w : World) (F : Nat → Prop) (ks : List (List UInt8)) (mx : Nat → Nat) (most : Nat) (p1 p2 : Nat → List (List UInt8) × List (List UInt8) × List Int) (e : Ending) (w' : World) : Prop :=
 ∃ (k : Nat) (kA1 : Option Addr) (kn1 kc1 : Nat) (vA1 : Option Addr) (vn1 vc1 : Nat) (nA1 : Option Addr) (nn1 nc1 : Nat) (kA2 : Option Addr) (kn2 kc2 : Nat) (vA2 : Option Addr) (vn2 vc2 : Nat) (nA2 : Option Addr) (nn2 nc2 : Nat) (y : Value) (ke : List UInt8), 1 ≤ k ∧ k ≤ most ∧ (∀ j, 1 ≤ j → j ≤ most → mx k ≤ mx j) ∧ e = .returned (.tuple #[.agg #[.bool lf, .slice kA1 kn1 kc1, .slice vA1 vn1 vc1, .slice nA1 nn1 nc1], y, .agg #[.bool lf, .slice kA2 kn2 kc2, .slice vA2 vn2 vc2, .slice nA2 nn2 nc2]]) ∧
  SpR w w' F kA1 kn1 kc1 vA1 vn1 vc1 nA1 nn1 nc1 (p1 k) ∧ SpR w w' F kA2 kn2 kc2 vA2 vn2 vc2 nA2 nn2 nc2 (p2 k) ∧ ks[k]? = some ke ∧ RdB w' (fun b => w.heap.size ≤ b ∧ b < w'.heap.size) y ke ∧ Chg Non w w'
theorem szL_le (ks vs : List (List UInt8)) (i j : Nat) : szL ks vs i j ≤ 3 + sK ks + sV vs := by
 have h1 := sK_piece ks i (j - i); have h2 := sV_piece vs i (j - i); unfold szL; omega
theorem szI_le (ks : List (List UInt8)) (i j : Nat) (hj : j ≤ ks.length) : szI ks i j ≤ 3 + sK ks + 2 * (ks.length + 1) := by
 have h1 := sK_piece ks i (j - i); unfold szI; rw [sizeIn_sK]; omega
set_option maxHeartbeats 4000000 in
theorem lfSizeN {w : World} {F G : Nat → Prop} {KA VA NA : Option Addr} {kn kc vn vc nn nc : Nat} {ks vs : List (List UInt8)} (hk : RdBB w F (.slice KA kn kc) ks) (hv : RdBB w G (.slice VA vn vc) vs) (hsz : 3 + sK ks + sV vs ≤ 1000000000000) :
  Calls Tryz.prog 152 #[.agg #[.bool true, .slice KA kn kc, .slice VA vn vc, .slice NA nn nc]] w fun e w' => e = .returned (.int .i64 ((3 + sK ks + sV vs : Nat) : Int)) ∧ Chg Non w w' := by
 obtain ⟨_, _, ek, hkc, hkm⟩ := hk.shape
 injection ek with e1 e2 e3
 subst e1; subst e2; subst e3
 obtain ⟨_, _, ev, hvc, hvm⟩ := hv.shape
 injection ev with e1 e2 e3
 subst e1; subst e2; subst e3
 unfold maxLen at hkm hvm
 have hb := Blk.new w 125 #[.bool true, .slice KA ks.length kc, .slice VA vs.length vc, .slice NA nn nc]
 have hcb := (Chg.refl Non w).alloc (.cells #[.bool true, .slice KA ks.length kc, .slice VA vs.length vc, .slice NA nn nc] 125)
 go_enter Tryz.func152, Tryz.ntmps152
 go_upto_region 1 with fail
 obtain ⟨b, hbe⟩ : ∃ b, b = w.heap.size := ⟨_, rfl⟩
 rw [← hbe] at hb ⊢
 generalize World.alloc _ _ = w1 at hb hcb ⊢
 clear hbe
 have b0 : w1.cell? ⟨b, 0, none⟩ = some (.bool true) := hb.cell 0
 have b1 : w1.cell? ⟨b, 1, none⟩ = some (.slice KA ks.length kc) := hb.cell 1
 have b2 : w1.cell? ⟨b, 2, none⟩ = some (.slice VA vs.length vc) := hb.cell 2
 have HK := hide (hk.c0 hcb)
 have HV := hide (hv.c0 hcb)
 have HC := hide hcb
 clear hb hcb hk hv
 go_wp2_with fail
 go_loopw [3, 11] (fun sv iv wr => ∃ i : Nat, i ≤ ks.length ∧ iv = .int .i64 (i : Int) ∧ sv = .int .i64 ((3 + sK (ks.take i) : Nat) : Int) ∧ wr = w1) (fun _ iv _ => ks.length - (intOf iv).toNat)
 case atStart => exact ⟨0, Nat.zero_le _, rfl, rfl, rfl⟩
 case round =>
  obtain ⟨i, hi, rfl, rfl, hw⟩ := hrel
  subst wr
  by_cases hil : i < ks.length
  ·obtain ⟨ad, x, rfl, _, hx, hrx⟩ := HK.out.at_ hil
   have hlen := fun w' ty => run_len8 hrx w' ty
   have hst := sK_step hil
   have hle := sK_le ks (i + 1)
   obtain ⟨s0, hs0⟩ : ∃ s0, s0 = 3 + sK (ks.take i) := ⟨_, rfl⟩
   obtain ⟨L, hL⟩ : ∃ L, L = ks[i].length := ⟨_, rfl⟩
   obtain ⟨s1, hs1⟩ : ∃ s1, s1 = 3 + sK (ks.take (i + 1)) := ⟨_, rfl⟩
   rw [← hL] at hlen hst
   rw [← hs0]
   have hw1 : IntKind.i64.wrap ((1 : Int) + (L : Int)) = ((1 + L : Nat) : Int) := by rw [IntWalk.i64_in _ (by omega)]; omega
   have hw2 : IntKind.i64.wrap ((s0 : Int) + ((1 + L : Nat) : Int)) = (s1 : Int) := by rw [IntWalk.i64_in _ (by omega)]; omega
   obtain ⟨L1, hL1⟩ : ∃ L1, L1 = 1 + L := ⟨_, rfl⟩
   rw [← hL1] at hw1 hw2
   have HS := hide hs1
   have HIL := hide hil
   obtain ⟨xA, xc, rfl, _, _⟩ := hrx.shape
   clear hst hle hs0 hL hs1 hL1 hrx
   go_wp2_with fail
   go_roundw
   case rel => exact ⟨i + 1, HIL.out, by go_num, by rw [HS.out]; exact ⟨rfl, trivial⟩⟩
   case measure => (have := HIL.out; simp [intOf]; omega)
  ·have hik : i = ks.length := by omega
   subst hik
   rw [List.take_length]
   obtain ⟨s0, hs0⟩ : ∃ s0, s0 = 3 + sK ks := ⟨_, rfl⟩
   rw [← hs0]
   have HS0 := hide hs0
   clear hs0 hi
   go_wp2_with fail
   go_loopw [3, 33] (fun sv iv wr => ∃ i : Nat, i ≤ vs.length ∧ iv = .int .i64 (i : Int) ∧ sv = .int .i64 ((s0 + sV (vs.take i) : Nat) : Int) ∧ wr = w1) (fun _ iv _ => vs.length - (intOf iv).toNat)
   case atStart => exact ⟨0, Nat.zero_le _, rfl, rfl, rfl⟩
   case round =>
    obtain ⟨i, hi, rfl, rfl, hw⟩ := hrel
    subst wr
    by_cases hil : i < vs.length
    ·obtain ⟨ad, x, rfl, _, hx, hrx⟩ := HV.out.at_ hil
     have hlen := fun w' ty => run_len8 hrx w' ty
     have hst := sV_step hil
     have hle := sV_le vs (i + 1)
     have hs00 := HS0.out
     obtain ⟨s2, hs2⟩ : ∃ s2, s2 = s0 + sV (vs.take i) := ⟨_, rfl⟩
     obtain ⟨L, hL⟩ : ∃ L, L = vs[i].length := ⟨_, rfl⟩
     obtain ⟨s1, hs1⟩ : ∃ s1, s1 = s0 + sV (vs.take (i + 1)) := ⟨_, rfl⟩
     rw [← hL] at hlen hst
     rw [← hs2]
     have hw1 : IntKind.i64.wrap ((2 : Int) + (L : Int)) = ((2 + L : Nat) : Int) := by rw [IntWalk.i64_in _ (by omega)]; omega
     have hw2 : IntKind.i64.wrap ((s2 : Int) + ((2 + L : Nat) : Int)) = (s1 : Int) := by rw [IntWalk.i64_in _ (by omega)]; omega
     obtain ⟨L1, hL1⟩ : ∃ L1, L1 = 2 + L := ⟨_, rfl⟩
     rw [← hL1] at hw1 hw2
     have HS := hide hs1
     have HIL := hide hil
     obtain ⟨xA, xc, rfl, _, _⟩ := hrx.shape
     clear hst hle hs2 hL hs1 hL1 hrx hs00
     go_wp2_with fail
     go_roundw
     case rel => exact ⟨i + 1, HIL.out, by go_num, by rw [HS.out]; exact ⟨rfl, trivial⟩⟩
     case measure => (have := HIL.out; simp [intOf]; omega)
    ·have hik : i = vs.length := by omega
     subst hik
     rw [List.take_length]
     obtain ⟨s2, hs2⟩ : ∃ s2, s2 = s0 + sV vs := ⟨_, rfl⟩
     rw [← hs2]
     have HS2 := hide (show s2 = 3 + sK ks + sV vs by rw [hs2, HS0.out])
     clear hs2 hi
     go_wp2_with fail
     go_ret
     exact ⟨by rw [HS2.out]; rfl, HC.out⟩

set_option maxHeartbeats 16000000 in
theorem lfSplit {w : World} {F : Nat → Prop} {KA VA NA : Option Addr} {kn kc vn vc nn nc : Nat} {ks : List (List UInt8)} {vs : List (List UInt8)} (hk : RdBB w F (.slice KA kn kc) ks) (hv : RdBB w F (.slice VA vn vc) vs) (hvl : vs.length = ks.length) (hel : (∀ x ∈ ks, x.length ≤ 1000000) ∧ ∀ x ∈ vs, x.length ≤ 1000000) (h2 : 2 ≤ ks.length) (hS : 3 + sK ks + sV vs ≤ 1000000000) (hkl : ks.length ≤ 10000) :
  Calls Tryz.prog 156 #[.agg #[.bool true, .slice KA kn kc, .slice VA vn vc, .slice NA nn nc]] w (SpP true w F ks (mxL ks vs) (ks.length - 1) (fun k => ((ks.drop 0).take (k - 0), (vs.drop 0).take (k - 0), [])) (fun k => ((ks.drop k).take (ks.length - k), (vs.drop k).take (ks.length - k), []))) := by
 have ekn : kn = ks.length := by obtain ⟨_, _, e, _, _⟩ := hk.shape; injection e
 have evn : vn = vs.length := by obtain ⟨_, _, e, _, _⟩ := hv.shape; injection e
 have hkn2 : 2 ≤ kn := by omega
 have hkn3 : kn ≤ 10000 := by omega
 obtain ⟨mo, hmo⟩ : ∃ mo, kn = mo + 1 := ⟨kn - 1, by omega⟩
 have hw1 : IntKind.i64.wrap ((kn : Int) - 1) = (mo : Int) := by rw [IntWalk.i64_in _ (by omega)]; omega
 have hd2 : decide ((vn : Int) < (kn : Int)) = false := decide_eq_false (by omega)
 have hd2' : ¬ vn < kn := by omega
 have hd1 : decide ((mo : Int) < 1) = false := decide_eq_false (by omega)
 have hd1' : ¬ mo < 1 := by omega
 have hlk : ∀ w' ty, (Builtin.len_ #[122] ty #[.slice KA kn kc]).run Tryz.prog w' = .ok (.int .i64 (kn : Int)) w' := fun w' ty => rfl
 have hb := Blk.new w 125 #[.bool true, .slice KA kn kc, .slice VA vn vc, .slice NA nn nc]
 have hc1 := (Chg.refl Non w).alloc (.cells #[.bool true, .slice KA kn kc, .slice VA vn vc, .slice NA nn nc] 125)
 have hn1 := sizeAl' w (.cells #[.bool true, .slice KA kn kc, .slice VA vn vc, .slice NA nn nc] 125)
 have hr := Blk.new (w.alloc (.cells #[.bool true, .slice KA kn kc, .slice VA vn vc, .slice NA nn nc] 125)) 125 #[.bool false, .slice none 0 0, .slice none 0 0, .slice none 0 0]
 rw [hn1] at hr
 have hc2 := (Chg.refl Non (w.alloc (.cells #[.bool true, .slice KA kn kc, .slice VA vn vc, .slice NA nn nc] 125))).alloc (.cells #[.bool false, .slice none 0 0, .slice none 0 0, .slice none 0 0] 125)
 have hn2 := sizeAl' (w.alloc (.cells #[.bool true, .slice KA kn kc, .slice VA vn vc, .slice NA nn nc] 125)) (.cells #[.bool false, .slice none 0 0, .slice none 0 0, .slice none 0 0] 125)
 have hr2 := Blk.new ((w.alloc (.cells #[.bool true, .slice KA kn kc, .slice VA vn vc, .slice NA nn nc] 125)).alloc (.cells #[.bool false, .slice none 0 0, .slice none 0 0, .slice none 0 0] 125)) 125 #[.bool false, .slice none 0 0, .slice none 0 0, .slice none 0 0]
 rw [hn2, hn1] at hr2
 have hc3 := (Chg.refl Non ((w.alloc (.cells #[.bool true, .slice KA kn kc, .slice VA vn vc, .slice NA nn nc] 125)).alloc (.cells #[.bool false, .slice none 0 0, .slice none 0 0, .slice none 0 0] 125))).alloc (.cells #[.bool false, .slice none 0 0, .slice none 0 0, .slice none 0 0] 125)
 have hn3 := sizeAl' ((w.alloc (.cells #[.bool true, .slice KA kn kc, .slice VA vn vc, .slice NA nn nc] 125)).alloc (.cells #[.bool false, .slice none 0 0, .slice none 0 0, .slice none 0 0] 125)) (.cells #[.bool false, .slice none 0 0, .slice none 0 0, .slice none 0 0] 125)
 rw [hn2, hn1] at hn3
 have HKN := hide (And.intro ekn (And.intro hmo (And.intro hvl (And.intro hkl evn))))
 have HS9 := hide hS
 have HEL0 := hide hel
 clear ekn evn hmo hvl hkl hS hel h2 hkn2
 go_enter Tryz.func156, Tryz.ntmps156
 go_upto_region 1 with fail
 obtain ⟨N, hN⟩ : ∃ N, N = w.heap.size := ⟨_, rfl⟩
 have hc03 := (hc1.trans0 hc2).trans0 hc3
 have hb3 := hb.c0 (hc2.trans0 hc3)
 have hr3 := hr.c0 hc3
 have hk3 := hk.lt.c0 hc03
 have hv3 := hv.lt.c0 hc03
 rw [← hN] at hb3 hr3 hr2 hn3 hk3 hv3 ⊢
 have HNN := hide hN
 clear hb hc1 hc2 hc3 hr hn1 hn2 hN hk hv
 generalize World.alloc (World.alloc (World.alloc w _) _) _ = w2 at hb3 hr3 hr2 hn3 hc03 hk3 hv3 ⊢
 have HC02 := hide hc03
 have HR := hide (And.intro hr3 hr2)
 have HB := hide hb3
 have HK := hide (And.intro hk3 hv3)
 have HN3 := hide hn3
 obtain ⟨⟨b0, b1, b2, b3⟩, _⟩ := blk4 hb3
 clear hb3 hr3 hr2 hn3 hc03 hk3 hv3
 go_wp2_with fail
 clear b0 b1 b2 b3
 go_loopw [7, 8, 9] (fun kv bv iv wr => ∃ (k i bs : Nat), kv = .int .i64 (k : Int) ∧ bv = .int .i64 (bs : Int) ∧ iv = .int .i64 (i : Int) ∧ 1 ≤ i ∧ i ≤ mo + 1 ∧ 1 ≤ k ∧ k ≤ mo ∧ (1 < i → bs = mxL ks vs k ∧ ∀ j, 1 ≤ j → j < i → mxL ks vs k ≤ mxL ks vs j) ∧ Chg Non w2 wr) (fun _ _ iv _ => mo + 1 - (intOf iv).toNat)
 case atStart => exact ⟨1, 1, 0, rfl, rfl, rfl, by omega, by omega, by omega, by omega, fun h => absurd h (by omega), Chg.refl _ _⟩
 case round =>
  obtain ⟨k, i, bs, rfl, rfl, rfl, hi1, hi2, hk1, hk2, hbest, hcw⟩ := hrel
  by_cases him : i ≤ mo
  ·have HW := hide hcw
   have HI := hide (And.intro hi1 (And.intro him (And.intro hk1 hk2)))
   have HBE := hide hbest
   obtain ⟨i1, hi1e⟩ : ∃ i1, i1 = i + 0 := ⟨_, rfl⟩
   have hwi0 : IntKind.i64.wrap ((i : Int)) = (i : Int) := by exact IntWalk.i64_in _ (by have := HKN.out; omega)
   have HI1 := hide hi1e
   clear hcw hi1 hi2 hk1 hk2 hbest hi1e
   go_upto_region 11 with fail
   go_cut [10] from 59 to 72 (fun v wx => v = .int .i64 ((mxL ks vs i : Nat) : Int) ∧ Chg Non w2 wx)
   case first =>
    refine wp_region_T (Chg Non w2) 99 (by kernel_rfl) ?_
    have HW0 := hide HW.out.drew
    generalize World.drew wr = x0 at HW0 ⊢
    clear HW
    refine AnyT.take (i := 0) (v := ?_) rfl (by kernel_rfl) (by kernel_rfl) (fun _ _ _ h => h) (by kernel_rfl) (by kernel_rfl) (Or.inl ⟨by rfl, ?_⟩) HW0.out ?_
    rotate_left
    ·(intro w9 h9; obtain ⟨⟨y0, y1, y2, y3⟩, _⟩ := blk4 (HB.out.c0 h9); go_simp; try with_reducible rfl)
    try simp only [lz1, lz2, lz3, Act.put, lz4, lz5, lz6]
    refine AnyT.take (i := 1) (v := ?_) rfl (by kernel_rfl) (by kernel_rfl) (fun _ _ _ h => h) (by kernel_rfl) (by kernel_rfl) (Or.inl ⟨by rfl, ?_⟩) HW0.out ?_
    rotate_left
    ·(intro w9 h9; go_simp; try with_reducible rfl)
    try simp only [lz1, lz2, lz3, Act.put, lz4, lz5, lz6]
    refine AnyT.take (i := 4) (v := ?_) rfl (by kernel_rfl) (by kernel_rfl) (fun _ _ _ h => h) (by kernel_rfl) (by kernel_rfl) (Or.inl ⟨by rfl, ?_⟩) HW0.out ?_
    rotate_left
    ·(intro w9 h9; obtain ⟨⟨y0, y1, y2, y3⟩, _⟩ := blk4 (HB.out.c0 h9); go_simp; try with_reducible rfl)
    try simp only [lz1, lz2, lz3, Act.put, lz4, lz5, lz6]
    refine AnyT.take (i := 5) (v := ?_) rfl (by kernel_rfl) (by kernel_rfl) (fun _ _ _ h => h) (by kernel_rfl) (by kernel_rfl) (Or.inl ⟨by rfl, ?_⟩) HW0.out ?_
    rotate_left
    ·(intro w9 h9; go_simp; try with_reducible rfl)
    try simp only [lz1, lz2, lz3, Act.put, lz4, lz5, lz6]
    refine AnyT.take (i := 6) (v := ?_) rfl (by kernel_rfl) (by kernel_rfl) (fun _ _ _ h => h) (by kernel_rfl) (by kernel_rfl) (Or.inl ⟨by rfl, ?_⟩) HW0.out ?_
    rotate_left
    ·(intro w9 h9; go_simp; try with_reducible rfl)
    try simp only [lz1, lz2, lz3, Act.put, lz4, lz5, lz6]
    refine AnyT.take (i := 7) (v := ?_) rfl (by kernel_rfl) (by kernel_rfl) (fun _ _ _ h => h) (by kernel_rfl) (by kernel_rfl) (Or.inl ⟨by rfl, ?_⟩) HW0.out ?_
    rotate_left
    ·(intro w9 h9; have y1 := hwi0; go_simp; try with_reducible rfl)
    try simp only [lz1, lz2, lz3, Act.put, lz4, lz5, lz6]
    refine AnyT.take (i := 8) (v := ?_) rfl (by kernel_rfl) (by kernel_rfl) (fun _ _ _ h => h) (by kernel_rfl) (by kernel_rfl) (Or.inl ⟨by rfl, ?_⟩) HW0.out ?_
    rotate_left
    ·(intro w9 h9; go_simp; try with_reducible rfl)
    try simp only [lz1, lz2, lz3, Act.put, lz4, lz5, lz6]
    refine AnyT.take (i := 9) (v := ?_) rfl (by kernel_rfl) (by kernel_rfl) (fun _ _ _ h => h) (by kernel_rfl) (by kernel_rfl) (Or.inl ⟨by rfl, ?_⟩) HW0.out ?_
    rotate_left
    ·(intro w9 h9; obtain ⟨⟨y0, y1, y2, y3⟩, _⟩ := blk4 (HB.out.c0 h9); go_simp; try with_reducible rfl)
    try simp only [lz1, lz2, lz3, Act.put, lz4, lz5, lz6]
    refine AnyT.take (i := 10) (v := ?_) rfl (by kernel_rfl) (by kernel_rfl) (fun _ _ _ h => h) (by kernel_rfl) (by kernel_rfl) (Or.inl ⟨by rfl, ?_⟩) HW0.out ?_
    rotate_left
    ·(intro w9 h9; have y1 := hlk; go_simp; try with_reducible rfl)
    try simp only [lz1, lz2, lz3, Act.put, lz4, lz5, lz6]
    refine AnyT.one (i := 2) (by kernel_rfl) rfl (fun K hK => ?_)
    rw [if_pos (by rfl)]
    try simp only [lz1, lz2, lz3, Act.put, lz4, lz5, lz6]
    have hcc := lfPart (NA := NA) (nn := nn) (nc := nc) (i := 0) (j := i) (HK.out.1.c0 HW0.out) (HK.out.2.c0 HW0.out) HKN.out.2.2.1 HEL0.out HKN.out.2.2.2.1 (Nat.zero_le _) (by have := HKN.out.1; have := HI.out; have := HKN.out; omega)
    go_wp2_with (go_at_call 188; refine hcc.mono ?_; rintro e x1 ⟨A1, m1, k1x, B1, n1, l1, D1, o1, r1, rfl, hT1, hd1⟩)
    have HP1 := hide hT1
    have HW1 := hide (HW0.out.trans0 hd1)
    have nx1 := hd1.size
    have nw0 := HW0.out.size
    have HD1 := hide hd1
    refine hK.out _ _ (fun _ => HW1.out) ?_
    clear hcc hT1 hd1
    clear hK K
    try simp only [lz1, lz2, lz3, Act.put, lz4, lz5, lz6]
    refine AnyT.one (i := 3) (by kernel_rfl) rfl (fun K hK => ?_)
    rw [if_pos (by rfl)]
    try simp only [lz1, lz2, lz3, Act.put, lz4, lz5, lz6]
    have hcc := lfSizeN (NA := D1) (nn := o1) (nc := r1) HP1.out.rdK HP1.out.rdV (by have h1 := HS9.out; have h3 := szL_le ks vs 0 i; unfold szL at h3; omega)
    obtain ⟨s1, hs1⟩ : ∃ s, s = szL ks vs 0 i := ⟨_, rfl⟩
    rw [show 3 + sK ((ks.drop 0).take (i - 0)) + sV ((vs.drop 0).take (i - 0)) = s1 from hs1.symm] at hcc
    have HSZ1 := hide hs1
    clear hs1
    go_wp2_with (go_at_call 152; refine hcc.mono ?_; rintro e x2 ⟨rfl, hd2⟩)
    have HW2 := hide (HW1.out.trans0 hd2)
    refine hK.out _ _ (fun _ => HW2.out) ?_
    clear hcc hd2
    clear hK K
    try simp only [lz1, lz2, lz3, Act.put, lz4, lz5, lz6]
    refine AnyT.one (i := 11) (by kernel_rfl) rfl (fun K hK => ?_)
    rw [if_pos (by rfl)]
    try simp only [lz1, lz2, lz3, Act.put, lz4, lz5, lz6]
    have hcc := lfPart (NA := NA) (nn := nn) (nc := nc) (i := i) (j := kn) (HK.out.1.c0 HW2.out) (HK.out.2.c0 HW2.out) HKN.out.2.2.1 HEL0.out HKN.out.2.2.2.1 (by have := HI.out; have := HI1.out; have := HKN.out; omega) (by have := HKN.out.1; omega)
    go_wp2_with (go_at_call 188; refine hcc.mono ?_; rintro e x3 ⟨A2, m2, k2x, B2, n2, l2, D2, o2, r2, rfl, hT2, hd3⟩)
    have HP2 := hide hT2
    have HW3 := hide (HW2.out.trans0 hd3)
    have nx3 := hd3.size
    have nw2 := HW2.out.size
    have HD2 := hide hd3
    refine hK.out _ _ (fun _ => HW3.out) ?_
    clear hcc hT2 hd3
    clear hK K
    try simp only [lz1, lz2, lz3, Act.put, lz4, lz5, lz6]
    refine AnyT.one (i := 12) (by kernel_rfl) rfl (fun K hK => ?_)
    rw [if_pos (by rfl)]
    try simp only [lz1, lz2, lz3, Act.put, lz4, lz5, lz6]
    have hcc := lfSizeN (NA := D2) (nn := o2) (nc := r2) HP2.out.rdK HP2.out.rdV (by have h1 := HS9.out; have h3 := szL_le ks vs i kn; unfold szL at h3; omega)
    obtain ⟨s2, hs2⟩ : ∃ s, s = szL ks vs i kn := ⟨_, rfl⟩
    rw [show 3 + sK ((ks.drop i).take (kn - i)) + sV ((vs.drop i).take (kn - i)) = s2 from hs2.symm] at hcc
    have HSZ2 := hide hs2
    clear hs2
    go_wp2_with (go_at_call 152; refine hcc.mono ?_; rintro e x4 ⟨rfl, hd4⟩)
    have HW4 := hide (HW3.out.trans0 hd4)
    refine hK.out _ _ (fun _ => HW4.out) ?_
    clear hcc hd4
    clear hK K
    try simp only [lz1, lz2, lz3, Act.put, lz4, lz5, lz6]
    refine AnyT.take (i := 13) (v := ?_) rfl (by kernel_rfl) (by kernel_rfl) (fun _ _ _ h => h) (by kernel_rfl) (by kernel_rfl) (Or.inl ⟨by rfl, ?_⟩) HW4.out ?_
    rotate_left
    ·(intro w9 h9; go_simp; try with_reducible rfl)
    try simp only [lz1, lz2, lz3, Act.put, lz4, lz5, lz6]
    refine AnyT.take (i := 14) (v := ?_) rfl (by kernel_rfl) (by kernel_rfl) (fun _ _ _ h => h) (by kernel_rfl) (by kernel_rfl) (Or.inl ⟨by rfl, ?_⟩) HW4.out ?_
    rotate_left
    ·(intro w9 h9; go_simp; try with_reducible rfl)
    try simp only [lz1, lz2, lz3, Act.put, lz4, lz5, lz6]
    refine AnyT.nil (by kernel_rfl) ?_
    go_wp2_with fail
    go_meet
    have hq := HKN.out
    have hI1 := HI1.out
    have hmx : mxL ks vs i = max s1 s2 := by rw [HSZ1.out, HSZ2.out]; unfold mxL; rw [← hq.1]
    refine ⟨?_, HW4.out⟩
    rw [hmx]
    congr 1
    simp only [Nat.max_def, Int.max_def]
    split <;> split <;> omega
   case rest =>
    obtain ⟨rfl, hcx⟩ := hcut
    obtain ⟨m9, hm9⟩ : ∃ m, m = mxL ks vs i := ⟨_, rfl⟩
    rw [← hm9]
    have HM9 := hide hm9
    have hI := HI.out
    have hw1i : IntKind.i64.wrap ((i : Int) + 1) = ((i + 1 : Nat) : Int) := by rw [IntWalk.i64_in _ (by have := HKN.out; omega)]; omega
    clear hm9 hwi0
    by_cases hi1 : i = 1
    ·have he : ((i : Int) == 1) = true := by rw [hi1]; rfl
     have HIE := hide hi1
     clear hi1
     go_wp2_with fail
     go_roundw
     case rel => exact ⟨i, i + 1, m9, rfl, rfl, by go_num, by omega, by omega, by omega, by omega, fun _ => ⟨HM9.out, fun j hj1 hj2 => by have := HIE.out; rw [show j = i by omega]; exact Nat.le_refl _⟩, hcx⟩
     case measure => (simp [intOf]; omega)
    ·have he : ((i : Int) == 1) = false := beq_eq_false_iff_ne.2 (by omega)
     have hB := hide (HBE.out (by omega))
     by_cases hlt : m9 < bs
     ·have hd9 : decide ((m9 : Int) < (bs : Int)) = true := decide_eq_true (by omega)
      go_wp2_with fail
      go_roundw
      case rel => exact ⟨i, i + 1, m9, rfl, rfl, by go_num, by omega, by omega, by omega, by omega, fun _ => ⟨HM9.out, fun j hj1 hj2 => by
       have h1 := hB.out
       have h2 := HM9.out
       by_cases e : j = i
       ·rw [e]; exact Nat.le_refl _
       ·have := h1.2 j hj1 (by omega); omega⟩, hcx⟩
      case measure => (simp [intOf]; omega)
     ·have hd9 : decide ((m9 : Int) < (bs : Int)) = false := decide_eq_false (by omega)
      go_wp2_with fail
      go_roundw
      case rel => exact ⟨k, i + 1, bs, rfl, rfl, by go_num, by omega, by omega, by omega, by omega, fun _ => ⟨hB.out.1, fun j hj1 hj2 => by
       have h1 := hB.out
       have h2 := HM9.out
       by_cases e : j = i
       ·rw [e]; omega
       ·exact h1.2 j hj1 (by omega)⟩, hcx⟩
      case measure => (simp [intOf]; omega)
  ·have hgt : ¬ i ≤ mo := him
   have HW := hide hcw
   have HI := hide (And.intro hk1 hk2)
   have HBE : Hid (∀ j, 1 ≤ j → j ≤ mo → mxL ks vs k ≤ mxL ks vs j) := hide (fun j h1 h2 => (hbest (by omega)).2 j h1 (by omega))
   obtain ⟨k1, hk1e⟩ : ∃ k1, k1 = k + 0 := ⟨_, rfl⟩
   have hwk0 : IntKind.i64.wrap ((k : Int)) = (k : Int) := by exact IntWalk.i64_in _ (by have := HKN.out; omega)
   have HK1 := hide hk1e
   have hd9 : decide ((i : Int) ≤ (mo : Int)) = false := decide_eq_false (by omega)
   clear hcw hi1 hi2 hk1 hk2 hbest hk1e
   go_upto_region 14 with fail
   refine wp_region_T (Chg Non w2) 17 (by kernel_rfl) ?_
   have HW0 := hide HW.out.drew
   generalize World.drew wr = x0 at HW0 ⊢
   clear HW
   have hklt : k < kn := by have := HI.out; have := HKN.out; omega
   have HKL := hide hklt
   have hKK := HK.out.1
   rw [HKN.out.1] at hKK
   obtain ⟨ade, xe, eA, _, hxe, hre⟩ := hKK.at_ (k := k) (by have := HKN.out.1; omega)
   subst eA
   obtain ⟨eA, en, ec, rfl⟩ : ∃ A n c, xe = .slice A n c := by obtain ⟨A, c, e, _, _⟩ := hre.shape; exact ⟨A, _, c, e⟩
   obtain ⟨ke, hke⟩ : ∃ ke, ke = ks[k]'(by have := HKN.out.1; omega) := ⟨_, rfl⟩
   rw [← hke] at hre
   have hkel : ke.length ≤ 140737488355328 := Nat.le_trans (HEL0.out.1 _ (by rw [hke]; exact List.getElem_mem _)) (by decide)
   have HEL := hide (And.intro hxe (And.intro hre hkel))
   have HKE := hide hke
   clear hxe hre hke hkel hKK
   refine AnyT.takeM (i := 0) (v := ?_) rfl (by kernel_rfl) (by kernel_rfl) (fun _ _ _ h => h) (by kernel_rfl) (by kernel_rfl) (Or.inl ⟨by rfl, ?_⟩) HW0.out ?_
   rotate_left
   ·(intro w9 h9; obtain ⟨⟨y0, y1, y2, y3⟩, _⟩ := blk4 (HB.out.c0 h9); go_simp; try with_reducible rfl)
   try simp only [lz1, lz2, lz3, Act.put, lz4, lz5, lz6]
   refine AnyT.takeM (i := 1) (v := ?_) rfl (by kernel_rfl) (by kernel_rfl) (fun _ _ _ h => h) (by kernel_rfl) (by kernel_rfl) (Or.inl ⟨by rfl, ?_⟩) HW0.out ?_
   rotate_left
   ·(intro w9 h9; go_simp; try with_reducible rfl)
   try simp only [lz1, lz2, lz3, Act.put, lz4, lz5, lz6]
   refine AnyT.takeM (i := 3) (v := ?_) rfl (by kernel_rfl) (by kernel_rfl) (fun _ _ _ h => h) (by kernel_rfl) (by kernel_rfl) (Or.inl ⟨by rfl, ?_⟩) HW0.out ?_
   rotate_left
   ·(intro w9 h9; go_simp; try with_reducible rfl)
   try simp only [lz1, lz2, lz3, Act.put, lz4, lz5, lz6]
   refine AnyT.takeM (i := 4) (v := ?_) rfl (by kernel_rfl) (by kernel_rfl) (fun _ _ _ h => h) (by kernel_rfl) (by kernel_rfl) (Or.inl ⟨by rfl, ?_⟩) HW0.out ?_
   rotate_left
   ·(intro w9 h9; obtain ⟨⟨y0, y1, y2, y3⟩, _⟩ := blk4 (HB.out.c0 h9); go_simp; try with_reducible rfl)
   try simp only [lz1, lz2, lz3, Act.put, lz4, lz5, lz6]
   refine AnyT.takeM (i := 5) (v := ?_) rfl (by kernel_rfl) (by kernel_rfl) (fun _ _ _ h => h) (by kernel_rfl) (by kernel_rfl) (Or.inl ⟨by rfl, ?_⟩) HW0.out ?_
   rotate_left
   ·(intro w9 h9; go_simp; try with_reducible rfl)
   try simp only [lz1, lz2, lz3, Act.put, lz4, lz5, lz6]
   refine AnyT.takeM (i := 6) (v := ?_) rfl (by kernel_rfl) (by kernel_rfl) (fun _ _ _ h => h) (by kernel_rfl) (by kernel_rfl) (Or.inl ⟨by rfl, ?_⟩) HW0.out ?_
   rotate_left
   ·(intro w9 h9; have y1 := HKL.out; go_simp; try with_reducible rfl)
   try simp only [lz1, lz2, lz3, Act.put, lz4, lz5, lz6]
   refine AnyT.takeM (i := 7) (v := ?_) rfl (by kernel_rfl) (by kernel_rfl) (fun _ _ _ h => h) (by kernel_rfl) (by kernel_rfl) (Or.inl ⟨by rfl, ?_⟩) HW0.out ?_
   rotate_left
   ·(intro w9 h9; have y1 := h9.cell HEL.out.1 (fun h => h); go_simp; try with_reducible rfl)
   try simp only [lz1, lz2, lz3, Act.put, lz4, lz5, lz6]
   refine AnyT.takeM (i := 9) (v := ?_) rfl (by kernel_rfl) (by kernel_rfl) (fun _ _ _ h => h) (by kernel_rfl) (by kernel_rfl) (Or.inl ⟨by rfl, ?_⟩) HW0.out ?_
   rotate_left
   ·(intro w9 h9; obtain ⟨⟨y0, y1, y2, y3⟩, _⟩ := blk4 (HB.out.c0 h9); go_simp; try with_reducible rfl)
   try simp only [lz1, lz2, lz3, Act.put, lz4, lz5, lz6]
   refine AnyT.takeM (i := 10) (v := ?_) rfl (by kernel_rfl) (by kernel_rfl) (fun _ _ _ h => h) (by kernel_rfl) (by kernel_rfl) (Or.inl ⟨by rfl, ?_⟩) HW0.out ?_
   rotate_left
   ·(intro w9 h9; go_simp; try with_reducible rfl)
   try simp only [lz1, lz2, lz3, Act.put, lz4, lz5, lz6]
   refine AnyT.takeM (i := 11) (v := ?_) rfl (by kernel_rfl) (by kernel_rfl) (fun _ _ _ h => h) (by kernel_rfl) (by kernel_rfl) (Or.inl ⟨by rfl, ?_⟩) HW0.out ?_
   rotate_left
   ·(intro w9 h9; go_simp; try with_reducible rfl)
   try simp only [lz1, lz2, lz3, Act.put, lz4, lz5, lz6]
   refine AnyT.takeM (i := 12) (v := ?_) rfl (by kernel_rfl) (by kernel_rfl) (fun _ _ _ h => h) (by kernel_rfl) (by kernel_rfl) (Or.inl ⟨by rfl, ?_⟩) HW0.out ?_
   rotate_left
   ·(intro w9 h9; have y1 := hwk0; go_simp; try with_reducible rfl)
   try simp only [lz1, lz2, lz3, Act.put, lz4, lz5, lz6]
   refine AnyT.takeM (i := 13) (v := ?_) rfl (by kernel_rfl) (by kernel_rfl) (fun _ _ _ h => h) (by kernel_rfl) (by kernel_rfl) (Or.inl ⟨by rfl, ?_⟩) HW0.out ?_
   rotate_left
   ·(intro w9 h9; go_simp; try with_reducible rfl)
   try simp only [lz1, lz2, lz3, Act.put, lz4, lz5, lz6]
   refine AnyT.takeM (i := 14) (v := ?_) rfl (by kernel_rfl) (by kernel_rfl) (fun _ _ _ h => h) (by kernel_rfl) (by kernel_rfl) (Or.inl ⟨by rfl, ?_⟩) HW0.out ?_
   rotate_left
   ·(intro w9 h9; obtain ⟨⟨y0, y1, y2, y3⟩, _⟩ := blk4 (HB.out.c0 h9); go_simp; try with_reducible rfl)
   try simp only [lz1, lz2, lz3, Act.put, lz4, lz5, lz6]
   refine AnyT.takeM (i := 15) (v := ?_) rfl (by kernel_rfl) (by kernel_rfl) (fun _ _ _ h => h) (by kernel_rfl) (by kernel_rfl) (Or.inl ⟨by rfl, ?_⟩) HW0.out ?_
   rotate_left
   ·(intro w9 h9; have y1 := hlk; go_simp; try with_reducible rfl)
   try simp only [lz1, lz2, lz3, Act.put, lz4, lz5, lz6]
   refine AnyT.one (i := 2) (by kernel_rfl) rfl (fun K hK => ?_)
   rw [if_pos (by rfl)]
   try simp only [lz1, lz2, lz3, Act.put, lz4, lz5, lz6]
   have hcc := lfPart (NA := NA) (nn := nn) (nc := nc) (i := 0) (j := k) (HK.out.1.c0 HW0.out) (HK.out.2.c0 HW0.out) HKN.out.2.2.1 HEL0.out HKN.out.2.2.2.1 (Nat.zero_le _) (by have := HKN.out; have := HI.out; omega)
   go_wp2_with (go_at_call 188; refine hcc.mono ?_; rintro e x1 ⟨A1, m1, k1x, B1, n1, l1, D1, o1, r1, rfl, hT1, hd1⟩)
   have HP1 := hide hT1
   have HW1 := hide (HW0.out.trans0 hd1)
   have nx1 := hd1.size
   have nw0 := HW0.out.size
   have HD1 := hide hd1
   refine hK.out _ _ (fun _ => HW1.out) ?_
   clear hcc hT1 hd1
   clear hK K
   try simp only [lz1, lz2, lz3, Act.put, lz4, lz5, lz6]
   refine AnyT.one (i := 8) (by kernel_rfl) rfl (fun K hK => ?_)
   rw [if_pos (by rfl)]
   try simp only [lz1, lz2, lz3, Act.put, lz4, lz5, lz6]
   have hcc := bytesClone (HEL.out.2.1.c0 HW1.out) HEL.out.2.2
   go_wp2_with (go_at_call 38; refine hcc.mono ?_; rintro e x2 ⟨u, rfl, hu, hd2⟩)
   obtain ⟨UA, un, uc, rfl⟩ := hu.shapeH
   have HW2 := hide (HW1.out.trans0 hd2)
   replace HP1 := hide (HP1.out.c0 hd2)
   have nx2 := hd2.size
   have HU : Hid (RdB x2 (fun b => N + 3 ≤ b ∧ b < x2.heap.size) (.slice UA un uc) ke) := hide (hu.rd.mono fun b hb => by have := hu.lt b hb; have := HN3.out; omega)
   refine hK.out _ _ (fun _ => HW2.out) ?_
   clear hcc hd2 hu
   clear hK K
   try simp only [lz1, lz2, lz3, Act.put, lz4, lz5, lz6]
   refine AnyT.one (i := 16) (by kernel_rfl) rfl (fun K hK => ?_)
   rw [if_pos (by rfl)]
   try simp only [lz1, lz2, lz3, Act.put, lz4, lz5, lz6]
   have hcc := lfPart (NA := NA) (nn := nn) (nc := nc) (i := k) (j := kn) (HK.out.1.c0 HW2.out) (HK.out.2.c0 HW2.out) HKN.out.2.2.1 HEL0.out HKN.out.2.2.2.1 (by have := HI.out; have := HKN.out; have := HK1.out; omega) (by have := HKN.out.1; omega)
   go_wp2_with (go_at_call 188; refine hcc.mono ?_; rintro e x3 ⟨A2, m2, k2x, B2, n2, l2, D2, o2, r2, rfl, hT2, hd3⟩)
   have HP2 := hide hT2
   have HW3 := hide (HW2.out.trans0 hd3)
   have nx3 := hd3.size
   have nw2 := HW2.out.size
   have HD2 := hide hd3
   refine hK.out _ _ (fun _ => HW3.out) ?_
   clear hcc hT2 hd3
   clear hK K
   try simp only [lz1, lz2, lz3, Act.put, lz4, lz5, lz6]
   refine AnyT.one (i := 17) (by kernel_rfl) rfl (fun K hK => ?_)
   rw [if_pos (by rfl)]
   try simp only [lz1, lz2, lz3, Act.put, lz4, lz5, lz6]
   have hRx := And.intro (HR.out.1.c0 HW3.out) (HR.out.2.c0 HW3.out)
   have hP1x := HP1.out.c0 HD2.out
   have hUx := HU.out.c0 HD2.out
   have HZa := hide (And.intro (hP1x.rdK.mono (F' := (fun b => ((F b ∧ b < N) ∨ N + 3 ≤ b))) (fun b hb => by have hN3 := HN3.out; rcases hb.1 with (h | h) | h; exact .inl ⟨h.1.1, h.1.2⟩; exact .inr (by omega); exact .inr (by omega))) (And.intro (hP1x.rdV.mono (F' := (fun b => ((F b ∧ b < N) ∨ N + 3 ≤ b))) (fun b hb => by have hN3 := HN3.out; rcases hb.1 with (h | h) | h; exact .inl ⟨h.1.1, h.1.2⟩; exact .inr (by omega); exact .inr (by omega))) (hP1x.rdI.mono (F' := (fun b => ((F b ∧ b < N) ∨ N + 3 ≤ b))) (fun b hb => by have hN3 := HN3.out; rcases hb.1 with (h | h) | h; exact .inl ⟨h.1.1, h.1.2⟩; exact .inr (by omega); exact .inr (by omega)))))
   have HZb := hide (And.intro (HP2.out.rdK.mono (F' := (fun b => ((F b ∧ b < N) ∨ N + 3 ≤ b))) (fun b hb => by have hN3 := HN3.out; rcases hb.1 with (h | h) | h; exact .inl ⟨h.1.1, h.1.2⟩; exact .inr (by omega); exact .inr (by omega))) (And.intro (HP2.out.rdV.mono (F' := (fun b => ((F b ∧ b < N) ∨ N + 3 ≤ b))) (fun b hb => by have hN3 := HN3.out; rcases hb.1 with (h | h) | h; exact .inl ⟨h.1.1, h.1.2⟩; exact .inr (by omega); exact .inr (by omega))) (HP2.out.rdI.mono (F' := (fun b => ((F b ∧ b < N) ∨ N + 3 ≤ b))) (fun b hb => by have hN3 := HN3.out; rcases hb.1 with (h | h) | h; exact .inl ⟨h.1.1, h.1.2⟩; exact .inr (by omega); exact .inr (by omega)))))
   have HZc := hide (hUx.mono (F' := fun b => N + 3 ≤ b) fun b hb => hb.1)
   obtain ⟨⟨y0, y1, y2, y3⟩, f0, f1, f2, f3⟩ := blk4 hRx.1
   obtain ⟨hr8, hc8⟩ := put4 hRx.1 (.bool true) (.slice A1 m1 k1x) (.slice B1 n1 l1) (.slice D1 o1 r1)
   have HRy := hide (And.intro hr8 (hRx.2.chg hc8 (show ¬ N + 1 + 1 = N + 1 by omega)))
   have HWy := hide ((HW3.out.mono (S' := fun b => b = N + 1) fun _ _ h => h.elim).trans hc8 fun b hb e => e)
   replace HZa := hide (And.intro (HZa.out.1.chg hc8 (fun b hb e => by have e : b = N + 1 := e; rcases hb with h | h <;> omega)) (And.intro (HZa.out.2.1.chg hc8 (fun b hb e => by have e : b = N + 1 := e; rcases hb with h | h <;> omega)) (HZa.out.2.2.chg hc8 (fun b hb e => by have e : b = N + 1 := e; rcases hb with h | h <;> omega))))
   replace HZb := hide (And.intro (HZb.out.1.chg hc8 (fun b hb e => by have e : b = N + 1 := e; rcases hb with h | h <;> omega)) (And.intro (HZb.out.2.1.chg hc8 (fun b hb e => by have e : b = N + 1 := e; rcases hb with h | h <;> omega)) (HZb.out.2.2.chg hc8 (fun b hb e => by have e : b = N + 1 := e; rcases hb with h | h <;> omega))))
   replace HZc := hide (HZc.out.chg hc8 (fun b hb e => by have e : b = N + 1 := e; omega))
   clear hr8 hc8 hRx
   go_simp
   refine hK.out _ _ (fun h => absurd h (by decide)) ?_
   clear y0 y1 y2 y3 f0 f1 f2 f3
   generalize World.setCell _ _ _ = z1 at HRy HWy HZa HZb HZc ⊢
   clear hK K
   try simp only [lz1, lz2, lz3, Act.put, lz4, lz5, lz6]
   refine AnyT.takeL (i := 18) (v := ?_) rfl (by kernel_rfl) (by kernel_rfl) (fun _ _ _ h => h) (by kernel_rfl) (by kernel_rfl) (Or.inl ⟨by rfl, ?_⟩) ?_
   rotate_left
   ·(intro w9; go_simp; try with_reducible rfl)
   try simp only [lz1, lz2, lz3, Act.put, lz4, lz5, lz6]
   refine AnyT.one (i := 19) (by kernel_rfl) rfl (fun K hK => ?_)
   rw [if_pos (by rfl)]
   try simp only [lz1, lz2, lz3, Act.put, lz4, lz5, lz6]
   have hRx := HRy.out
   obtain ⟨⟨y0, y1, y2, y3⟩, f0, f1, f2, f3⟩ := blk4 hRx.2
   obtain ⟨hr8, hc8⟩ := put4 hRx.2 (.bool true) (.slice A2 m2 k2x) (.slice B2 n2 l2) (.slice D2 o2 r2)
   have HRz := hide (And.intro (hRx.1.chg hc8 (show ¬ N + 1 = N + 1 + 1 by omega)) hr8)
   have HWz := hide ((HWy.out.mono (S' := fun b => b = N + 1 ∨ b = N + 1 + 1) fun _ _ h => .inl h).trans hc8 fun b hb e => .inr e)
   replace HZa := hide (And.intro (HZa.out.1.chg hc8 (fun b hb e => by have e : b = N + 1 + 1 := e; rcases hb with h | h <;> omega)).lt (And.intro (HZa.out.2.1.chg hc8 (fun b hb e => by have e : b = N + 1 + 1 := e; rcases hb with h | h <;> omega)).lt (HZa.out.2.2.chg hc8 (fun b hb e => by have e : b = N + 1 + 1 := e; rcases hb with h | h <;> omega)).lt))
   replace HZb := hide (And.intro (HZb.out.1.chg hc8 (fun b hb e => by have e : b = N + 1 + 1 := e; rcases hb with h | h <;> omega)).lt (And.intro (HZb.out.2.1.chg hc8 (fun b hb e => by have e : b = N + 1 + 1 := e; rcases hb with h | h <;> omega)).lt (HZb.out.2.2.chg hc8 (fun b hb e => by have e : b = N + 1 + 1 := e; rcases hb with h | h <;> omega)).lt))
   replace HZc := hide (HZc.out.chg hc8 (fun b hb e => by have e : b = N + 1 + 1 := e; omega)).lt
   clear hr8 hc8 hRx
   go_simp
   refine hK.out _ _ (fun h => absurd h (by decide)) ?_
   clear y0 y1 y2 y3 f0 f1 f2 f3
   generalize World.setCell _ _ _ = z2 at HRz HWz HZa HZb HZc ⊢
   have HZ1 := hide (And.intro (HZa.out.1.mono (F' := fun b => ((F b ∧ b < N) ∨ N ≤ b) ∧ b < z2.heap.size) fun b hb => ⟨hb.1.elim .inl fun h => .inr (by omega), hb.2⟩) (And.intro (HZa.out.2.1.mono (F' := fun b => ((F b ∧ b < N) ∨ N ≤ b) ∧ b < z2.heap.size) fun b hb => ⟨hb.1.elim .inl fun h => .inr (by omega), hb.2⟩) (HZa.out.2.2.mono (F' := fun b => ((F b ∧ b < N) ∨ N ≤ b) ∧ b < z2.heap.size) fun b hb => ⟨hb.1.elim .inl fun h => .inr (by omega), hb.2⟩)))
   have HZ2 := hide (And.intro (HZb.out.1.mono (F' := fun b => ((F b ∧ b < N) ∨ N ≤ b) ∧ b < z2.heap.size) fun b hb => ⟨hb.1.elim .inl fun h => .inr (by omega), hb.2⟩) (And.intro (HZb.out.2.1.mono (F' := fun b => ((F b ∧ b < N) ∨ N ≤ b) ∧ b < z2.heap.size) fun b hb => ⟨hb.1.elim .inl fun h => .inr (by omega), hb.2⟩) (HZb.out.2.2.mono (F' := fun b => ((F b ∧ b < N) ∨ N ≤ b) ∧ b < z2.heap.size) fun b hb => ⟨hb.1.elim .inl fun h => .inr (by omega), hb.2⟩)))
   have HZ3 := hide (HZc.out.mono (F' := fun b => N ≤ b ∧ b < z2.heap.size) fun b hb => ⟨by omega, hb.2⟩)
   clear hK K
   try simp only [lz1, lz2, lz3, Act.put, lz4, lz5, lz6]
   refine AnyT.nil (by kernel_rfl) ?_
   go_wp2_with fail
   obtain ⟨⟨q0, q1, q2, q3⟩, _⟩ := blk4 HRz.out.1
   obtain ⟨⟨p0, p1, p2, p3⟩, _⟩ := blk4 HRz.out.2
   have hNw := HNN.out
   have hkn := HKN.out
   have hI := HI.out
   refine bodyPost_ret (v := .tuple #[.agg #[.bool true, .slice A1 m1 k1x, .slice B1 n1 l1, .slice D1 o1 r1], .slice UA un uc, .agg #[.bool true, .slice A2 m2 k2x, .slice B2 n2 l2, .slice D2 o2 r2]]) (by simp [results, Tryz.results156, go_sem, q0, q1, q2, q3, p0, p1, p2, p3]) rfl ?_
   unfold SpP SpR
   refine ⟨k, A1, m1, k1x, B1, n1, l1, D1, o1, r1, A2, m2, k2x, B2, n2, l2, D2, o2, r2, .slice UA un uc, ke, by omega, by omega, fun j h1 h2 => HBE.out j h1 (by omega), rfl, ?_, ?_, ?_, ?_, ?_⟩
   ·rw [← hNw]; exact HZ1.out
   ·rw [← hNw, ← hkn.1]; exact HZ2.out
   ·rw [HKE.out]; exact List.getElem?_eq_getElem _
   ·rw [← hNw]; exact HZ3.out
   ·exact (HC02.out.trans HWz.out fun b hb e => by rcases e with e | e <;> omega)
end Go.Proofs.YtliimeoblffigaaGreat

