/- The walks of leaf's Size, formed and Check, of an inner node. -/
import Derived.Test.YtliimeoblffigaaGreatNdC
import Derived.Test.YtliimeoblffigaaGreatLfDG
import Derived.Deep.CutRange
open List renaming getElem_toArray → lz1, getElem_cons_succ → lz2, getElem_cons_zero → lz3, setIfInBounds_toArray → lz4, set_cons_zero → lz5, set_cons_succ → lz6
set_option linter.unusedVariables false
set_option linter.unusedSimpArgs false
set_option maxRecDepth 100000
namespace Go.Proofs.YtliimeoblffigaaGreat
open Go.RowKit
set_option linter.unusedVariables false
set_option linter.unusedSimpArgs false

def izs (kd : List Nat) : List Int := kd.map fun (n : Nat) => (n : Int)
theorem izs_len (kd : List Nat) : (izs kd).length = kd.length := List.length_map ..
theorem sizeIn_sK (ks : List (List UInt8)) (n : Nat) : sizeIn ks n = 3 + sK ks + 2 * n := rfl
set_option maxHeartbeats 4000000 in
theorem inSize {w : World} {F : Nat → Prop} {KA VA NA : Option Addr} {kn kc vn vc nn nc : Nat} {ks : List (List UInt8)} (hk : RdBB w F (.slice KA kn kc) ks) (hsz : sizeIn ks nn ≤ 1000000000000) :
  Calls Tryz.prog 152 #[.agg #[.bool false, .slice KA kn kc, .slice VA vn vc, .slice NA nn nc]] w fun e w' => e = .returned (.int .i64 ((sizeIn ks nn : Nat) : Int)) ∧ Chg Non w w' := by
 obtain ⟨_, _, ek, hkc, hkm⟩ := hk.shape
 injection ek with e1 e2 e3
 subst e1; subst e2; subst e3
 rw [sizeIn_sK] at hsz
 unfold maxLen at hkm
 have hb := Blk.new w 125 #[.bool false, .slice KA ks.length kc, .slice VA vn vc, .slice NA nn nc]
 have hcb := (Chg.refl Non w).alloc (.cells #[.bool false, .slice KA ks.length kc, .slice VA vn vc, .slice NA nn nc] 125)
 go_enter Tryz.func152, Tryz.ntmps152
 go_upto_region 1 with fail
 obtain ⟨b, hbe⟩ : ∃ b, b = w.heap.size := ⟨_, rfl⟩
 rw [← hbe] at hb ⊢
 generalize World.alloc _ _ = w1 at hb hcb ⊢
 clear hbe
 have b0 : w1.cell? ⟨b, 0, none⟩ = some (.bool false) := hb.cell 0
 have b1 : w1.cell? ⟨b, 1, none⟩ = some (.slice KA ks.length kc) := hb.cell 1
 have b3 : w1.cell? ⟨b, 3, none⟩ = some (.slice NA nn nc) := hb.cell 3
 have HK := hide (hk.c0 hcb)
 have HC := hide hcb
 clear hb hcb hk
 go_wp2_with fail
 go_loopw [3, 11] (fun sv iv wr => ∃ i : Nat, i ≤ ks.length ∧ iv = .int .i64 (i : Int) ∧ sv = .int .i64 ((3 + sK (ks.take i) : Nat) : Int) ∧ wr = w1) (fun _ iv _ => ks.length - (intOf iv).toNat)
 case atStart => exact ⟨0, Nat.zero_le _, rfl, rfl, rfl⟩
 case round =>
  obtain ⟨i, hi, rfl, rfl, hw⟩ := hrel
  subst wr
  by_cases hil : i < ks.length
  ·obtain ⟨ad, x, rfl, _, hx, hrx⟩ := HK.out.at_ hil
   have hlen := fun w' ty => run_len8 hrx w' ty
   have hst := sK_step hil
   have hle := sK_le ks (i + 1)
   obtain ⟨s0, hs0⟩ : ∃ s0, s0 = 3 + sK (ks.take i) := ⟨_, rfl⟩
   obtain ⟨L, hL⟩ : ∃ L, L = ks[i].length := ⟨_, rfl⟩
   obtain ⟨s1, hs1⟩ : ∃ s1, s1 = 3 + sK (ks.take (i + 1)) := ⟨_, rfl⟩
   rw [← hL] at hlen hst
   rw [← hs0]
   have hw1 : IntKind.i64.wrap ((1 : Int) + (L : Int)) = ((1 + L : Nat) : Int) := by rw [IntWalk.i64_in _ (by omega)]; omega
   have hw2 : IntKind.i64.wrap ((s0 : Int) + ((1 + L : Nat) : Int)) = (s1 : Int) := by rw [IntWalk.i64_in _ (by omega)]; omega
   obtain ⟨L1, hL1⟩ : ∃ L1, L1 = 1 + L := ⟨_, rfl⟩
   rw [← hL1] at hw1 hw2
   have HS := hide hs1
   have HIL := hide hil
   obtain ⟨xA, xc, rfl, _, _⟩ := hrx.shape
   clear hst hle hs0 hL hs1 hL1 hrx
   go_wp2_with fail
   go_roundw
   case rel => exact ⟨i + 1, HIL.out, by go_num, by rw [HS.out]; exact ⟨rfl, trivial⟩⟩
   case measure => (have := HIL.out; simp [intOf]; omega)
  ·have hik : i = ks.length := by omega
   subst hik
   rw [List.take_length]
   obtain ⟨s0, hs0⟩ : ∃ s0, s0 = 3 + sK ks := ⟨_, rfl⟩
   obtain ⟨s2, hs2⟩ : ∃ s2, s2 = 2 * nn := ⟨_, rfl⟩
   obtain ⟨s1, hs1⟩ : ∃ s1, s1 = sizeIn ks nn := ⟨_, rfl⟩
   have hs3 : s1 = s0 + s2 := by rw [hs1, hs0, hs2, sizeIn_sK]
   rw [← hs0]
   have hw1 : IntKind.i64.wrap ((2 : Int) * (nn : Int)) = (s2 : Int) := by rw [IntWalk.i64_in _ (by omega)]; omega
   have hw2 : IntKind.i64.wrap ((s0 : Int) + (s2 : Int)) = (s1 : Int) := by rw [IntWalk.i64_in _ (by omega)]; omega
   have HS1 := hide hs1
   clear hs0 hs1 hs2 hs3 hi
   go_wp2_with fail
   go_ret
   exact ⟨by rw [HS1.out]; rfl, HC.out⟩
/-- slices.ContainsFunc over pages that are all well -/
theorem kidsWell {w : World} {F : Nat → Prop} {v : Value} {kd : List Nat} (hr : RdI w F v (izs kd)) (hz : ∀ x ∈ kd, x ≤ 65535) :
  Calls Tryz.prog 222 #[v, .func (.func 223) #[] #[]] w fun e w' => e = .returned (.bool false) ∧ w' = w := by
 have hi : Calls Tryz.prog 237 #[v, .func (.func 223) #[] #[]] w fun e w' => e = .returned (.int .i64 (-1)) ∧ w' = w := by
  obtain ⟨A, c, rfl, hcc, hcm⟩ := hr.shape
  rw [izs_len] at hcc ⊢
  unfold maxLen at hcm
  have HR := hide hr
  have HZ := hide hz
  have hcall : ∀ x : Nat, x ≤ 65535 → Calls Tryz.prog 223 #[.int .i64 (x : Int)] w fun e w' => e = .returned (.bool false) ∧ w' = w := fun x hx => by
   have h1 : ¬ (x : Int) < 0 := by omega
   have h2 : ¬ (65535 : Int) < (x : Int) := by omega
   have h3 : ¬ 65535 < x := by omega
   go_enter Tryz.func223, Tryz.ntmps223
   go_wp2_with fail
   go_ret
   exact ⟨rfl, rfl⟩
  clear hr hz
  go_enter Tryz.func237, Tryz.ntmps237
  go_wp2_with fail
  go_loopw [8] (fun iv wr => ∃ i : Nat, i ≤ kd.length ∧ iv = .int .i64 (i : Int) ∧ wr = w) (fun iv _ => kd.length - (intOf iv).toNat)
  case atStart => exact ⟨0, Nat.zero_le _, rfl, rfl⟩
  case round =>
   obtain ⟨i, hi, rfl, hw⟩ := hrel
   subst wr
   by_cases hil : i < kd.length
   ·have hR := HR.out
    obtain ⟨ad, rfl, _, hx⟩ := hR.at_ (k := i) (by rw [izs_len]; exact hil)
    obtain ⟨x, hxe⟩ : ∃ x, x = kd[i] := ⟨_, rfl⟩
    have hx0 : w.cell? (ad.add i) = some (.int .i64 (x : Int)) := by rw [hx, hxe]; simp [izs]
    have hc := hcall x (by rw [hxe]; exact HZ.out _ (List.getElem_mem hil))
    have HIL := hide hil
    have HCALL := hide hcall
    clear hx hcall hxe
    go_wp2_with fail
    refine hc.mono ?_
    rintro e w1 ⟨rfl, hw1⟩
    subst w1
    clear hc
    go_wp2_with fail
    go_roundw
    case rel => exact ⟨i + 1, HIL.out, by go_num, trivial⟩
    case measure => (have := HIL.out; simp [intOf]; omega)
   ·have hik : i = kd.length := by omega
    subst hik
    clear hi
    go_wp2_with fail
    go_ret
    exact ⟨rfl, rfl⟩
 obtain ⟨A, c, rfl, _, _⟩ := hr.shape
 clear hr hz
 go_enter Tryz.func222, Tryz.ntmps222
 go_wp2_with fail
 refine hi.mono ?_
 rintro e w1 ⟨rfl, hw⟩
 subst w1
 clear hi
 go_wp2_with fail
 go_ret
 exact ⟨rfl, rfl⟩
set_option maxHeartbeats 4000000 in
theorem inFormed {w : World} {F G : Nat → Prop} {KA VA NA : Option Addr} {kn kc vc nn nc : Nat} {ks : List (List UInt8)} {kd : List Nat} (hk : RdBB w F (.slice KA kn kc) ks) (hv : RdI w G (.slice NA nn nc) (izs kd)) (hn : kd.length = ks.length + 1) (hz : ∀ x ∈ kd, x ≤ 65535) (hu : UpK ks) (hl : ks.length ≤ 1000000) :
  Calls Tryz.prog 183 #[.agg #[.bool false, .slice KA kn kc, .slice VA 0 vc, .slice NA nn nc]] w fun e w' => e = .returned (.bool true) ∧ Chg Non w w' := by
 obtain ⟨_, _, ek, hkc, hkm⟩ := hk.shape
 injection ek with e1 e2 e3
 subst e1; subst e2; subst e3
 obtain ⟨_, _, ev, hvc, hvm⟩ := hv.shape
 injection ev with e1 e2 e3
 rw [izs_len] at e2
 subst e1; subst e3
 have hnn : nn = ks.length + 1 := by omega
 have HNN := hide hnn
 unfold maxLen at hkm
 clear e2 hvc hvm hnn
 have hb := Blk.new w 125 #[.bool false, .slice KA ks.length kc, .slice VA 0 vc, .slice NA nn nc]
 have hcb := (Chg.refl Non w).alloc (.cells #[.bool false, .slice KA ks.length kc, .slice VA 0 vc, .slice NA nn nc] 125)
 go_enter Tryz.func183, Tryz.ntmps183
 go_upto_region 1 with fail
 obtain ⟨b, hbe⟩ : ∃ b, b = w.heap.size := ⟨_, rfl⟩
 rw [← hbe] at hb ⊢
 generalize World.alloc _ _ = w1 at hb hcb ⊢
 clear hbe
 have HK := hide (hk.c0 hcb)
 have HV := hide (hv.c0 hcb)
 have HZ := hide hz
 have HB := hide hb
 have HC := hide hcb
 have HU := hide hu
 clear hb hcb hk hu hv hz hn
 go_wp2_with fail
 go_loopw [3] (fun iv wr => ∃ i : Nat, 1 ≤ i ∧ (i ≤ ks.length ∨ i = 1) ∧ iv = .int .i64 (i : Int) ∧ Chg Non w1 wr) (fun iv _ => ks.length - (intOf iv).toNat)
 case atStart => exact ⟨1, Nat.le_refl _, .inr rfl, rfl, Chg.refl _ _⟩
 case round =>
  obtain ⟨i, h1i, hi, rfl, hcq⟩ := hrel
  have hb := HB.out.c0 hcq
  have b0 : wr.cell? ⟨b, 0, none⟩ = some (.bool false) := hb.cell 0
  have b1 : wr.cell? ⟨b, 1, none⟩ = some (.slice KA ks.length kc) := hb.cell 1
  have b2 : wr.cell? ⟨b, 2, none⟩ = some (.slice VA 0 vc) := hb.cell 2
  have b3 : wr.cell? ⟨b, 3, none⟩ = some (.slice NA nn nc) := hb.cell 3
  by_cases hil : i < ks.length
  ·obtain ⟨j, hj⟩ : ∃ j, i = j + 1 := ⟨i - 1, by omega⟩
   obtain ⟨ad, x, eA, _, hx, hrx⟩ := (HK.out.c0 hcq).at_ (k := j) (by omega)
   subst eA
   obtain ⟨ad2, y, eA, _, hy, hry⟩ := (HK.out.c0 hcq).at_ hil
   injection eA with eA
   subst eA
   have hlt := HU.out j (ks[j]'(by omega)) ks[i] (List.getElem?_eq_getElem (by omega)) (by rw [← hj]; exact List.getElem?_eq_getElem hil)
   obtain ⟨xs, hxs⟩ : ∃ xs, xs = ks[j]'(by omega) := ⟨_, rfl⟩
   obtain ⟨ys, hys⟩ : ∃ ys, ys = ks[i] := ⟨_, rfl⟩
   rw [← hxs] at hlt hrx
   rw [← hys] at hlt hry
   obtain ⟨cv, hcv⟩ : ∃ cv, cv = cmpB xs ys := ⟨_, rfl⟩
   have hcmp := fun n => packCompare (hrx.dn n) (hry.dn n)
   rw [← hcv] at hcmp hlt
   have hd : decide ((0 : Int) ≤ cv) = false := decide_eq_false (by omega)
   have hd2 : ¬ 0 ≤ cv := by omega
   have hw1 : IntKind.i64.wrap ((i : Int) - 1) = (j : Int) := by rw [IntWalk.i64_in _ (by omega)]; omega
   have hjl : j < ks.length := by omega
   have HIL := hide hil
   have HI1 := hide h1i
   clear hxs hys hcv hlt hrx hry hj hi h1i b0 b2 b3 hb
   go_upto_region 4 with fail
   go_quiet ((go_at_call 63; exact Calls.quiet_of (hcmp _)))
   clear hw1 hcmp hx hy
   go_wp2_with fail
   go_roundw
   case rel => exact ⟨i + 1, by omega, .inl HIL.out, by go_num, hcq.drewN _⟩
   case measure => (have := HIL.out; simp [intOf]; omega)
  ·have HH := hide hi
   have HQ := hide (HC.out.trans0 hcq)
   have hkw := kidsWell (HV.out.c0 hcq) HZ.out
   have hw1 : IntKind.i64.wrap ((ks.length : Int) + 1) = (nn : Int) := by rw [HNN.out, IntWalk.i64_in _ (by omega)]; omega
   clear hi hb hl
   go_wp2_with fail
   refine hkw.mono ?_
   rintro e w3 ⟨rfl, hw3⟩
   subst hw3
   clear hkw
   go_wp2_with fail
   go_ret
   exact ⟨rfl, HQ.out⟩
set_option maxHeartbeats 4000000 in
theorem inCheck {w : World} {F G H : Nat → Prop} {KA VA NA : Option Addr} {kn kc vc nn nc : Nat} {ks : List (List UInt8)} {kd : List Nat} (hk : RdBB w F (.slice KA kn kc) ks) (hv : RdBB w G (.slice VA 0 vc) []) (hi : RdI w H (.slice NA nn nc) (izs kd)) (hn : kd.length = ks.length + 1) (hz : ∀ x ∈ kd, x ≤ 65535) (hu : UpK ks) (h64 : ∀ x ∈ ks, x.length ≤ 64) (hl : ks.length ≤ 1000000) :
  Calls Tryz.prog 151 #[.agg #[.bool false, .slice KA kn kc, .slice VA 0 vc, .slice NA nn nc]] w fun e w' => e = .returned (.int .i64 0) ∧ Chg Non w w' := by
 have hb := Blk.new w 125 #[.bool false, .slice KA kn kc, .slice VA 0 vc, .slice NA nn nc]
 have hcb := (Chg.refl Non w).alloc (.cells #[.bool false, .slice KA kn kc, .slice VA 0 vc, .slice NA nn nc] 125)
 go_enter Tryz.func151, Tryz.ntmps151
 go_upto_region 2 with fail
 obtain ⟨b, hbe⟩ : ∃ b, b = w.heap.size := ⟨_, rfl⟩
 rw [← hbe] at hb ⊢
 generalize World.alloc _ _ = w1 at hb hcb ⊢
 clear hbe
 have HK := hide (hk.c0 hcb)
 have HV := hide (hv.c0 hcb)
 have HI := hide (hi.c0 hcb)
 have HB := hide hb
 have HC := hide hcb
 have hlong := fun (wx : World) => mkLong wx 64
 have hlong2 := fun (wx : World) => mkLong wx 128
 clear hb hcb hk hv hi
 go_cut [15] from 4 to 15 (fun v wx => v = .bool false ∧ Chg Non w1 wx)
 case first =>
  refine wp_region_T (Chg Non w1) 99 (by kernel_rfl) ?_
  have HS0 := hide ((Chg.refl Non w1).drew)
  generalize World.drew w1 = x0 at HS0 ⊢
  refine AnyT.take (i := 0) (v := ?_) rfl (by kernel_rfl) (by kernel_rfl) (fun _ _ _ h => h) (by kernel_rfl) (by kernel_rfl) (Or.inl ⟨by rfl, ?_⟩) HS0.out ?_
  rotate_left
  ·(intro w9 h9; go_simp; try with_reducible rfl)
  try simp only [lz1, lz2, lz3, Act.put, lz4, lz5, lz6]
  refine AnyT.take (i := 1) (v := ?_) rfl (by kernel_rfl) (by kernel_rfl) (fun _ _ _ h => h) (by kernel_rfl) (by kernel_rfl) (Or.inl ⟨by rfl, ?_⟩) HS0.out ?_
  rotate_left
  ·(intro w9 h9; have y1 : w9.cell? ⟨b, 1, none⟩ = some (.slice KA kn kc) := (HB.out.c0 h9).cell 1; go_simp; try with_reducible rfl)
  try simp only [lz1, lz2, lz3, Act.put, lz4, lz5, lz6]
  refine AnyT.take (i := 2) (v := ?_) rfl (by kernel_rfl) (by kernel_rfl) (fun _ _ _ h => h) (by kernel_rfl) (by kernel_rfl) (Or.inl ⟨by rfl, ?_⟩) HS0.out ?_
  rotate_left
  ·(intro w9 h9; go_simp; try with_reducible rfl)
  try simp only [lz1, lz2, lz3, Act.put, lz4, lz5, lz6]
  refine AnyT.one (i := 3) (by kernel_rfl) rfl (fun K hK => ?_)
  rw [if_pos (by rfl)]
  try simp only [lz1, lz2, lz3, Act.put, lz4, lz5, lz6]
  go_wp2_with (go_at_call 180; refine (hlong x0).mono ?_; rintro e x1 ⟨g1, rfl, hb1, hd1⟩)
  have HS1 := hide (HS0.out.trans0 hd1)
  refine hK.out _ _ (fun _ => HS1.out) ?_
  clear hK K
  try simp only [lz1, lz2, lz3, Act.put, lz4, lz5, lz6]
  refine AnyT.one (i := 4) (by kernel_rfl) rfl (fun K hK => ?_)
  rw [if_pos (by rfl)]
  try simp only [lz1, lz2, lz3, Act.put, lz4, lz5, lz6]
  have hcon2 := conLong (HK.out.c0 HS1.out) (hb1.cell 0) h64
  go_wp2_with (go_at_call 182; refine hcon2.mono ?_; rintro e x2 ⟨rfl, hx2⟩)
  have HS2 := hide (HS1.out.quiet hx2)
  clear hcon2 hx2
  refine hK.out _ _ (fun _ => HS2.out) ?_
  clear hK K
  try simp only [lz1, lz2, lz3, Act.put, lz4, lz5, lz6]
  refine AnyT.take (i := 5) (v := ?_) rfl (by kernel_rfl) (by kernel_rfl) (fun _ _ _ h => h) (by kernel_rfl) (by kernel_rfl) (Or.inl ⟨by rfl, ?_⟩) HS2.out ?_
  rotate_left
  ·(intro w9 h9; go_simp; try with_reducible rfl)
  try simp only [lz1, lz2, lz3, Act.put, lz4, lz5, lz6]
  refine AnyT.take (i := 6) (v := ?_) rfl (by kernel_rfl) (by kernel_rfl) (fun _ _ _ h => h) (by kernel_rfl) (by kernel_rfl) (Or.inl ⟨by rfl, ?_⟩) HS2.out ?_
  rotate_left
  ·(intro w9 h9; go_simp; try with_reducible rfl)
  try simp only [lz1, lz2, lz3, Act.put, lz4, lz5, lz6]
  refine AnyT.take (i := 7) (v := ?_) rfl (by kernel_rfl) (by kernel_rfl) (fun _ _ _ h => h) (by kernel_rfl) (by kernel_rfl) (Or.inl ⟨by rfl, ?_⟩) HS2.out ?_
  rotate_left
  ·(intro w9 h9; have y1 : w9.cell? ⟨b, 2, none⟩ = some (.slice VA 0 vc) := (HB.out.c0 h9).cell 2; go_simp; try with_reducible rfl)
  try simp only [lz1, lz2, lz3, Act.put, lz4, lz5, lz6]
  refine AnyT.take (i := 8) (v := ?_) rfl (by kernel_rfl) (by kernel_rfl) (fun _ _ _ h => h) (by kernel_rfl) (by kernel_rfl) (Or.inl ⟨by rfl, ?_⟩) HS2.out ?_
  rotate_left
  ·(intro w9 h9; go_simp; try with_reducible rfl)
  try simp only [lz1, lz2, lz3, Act.put, lz4, lz5, lz6]
  refine AnyT.one (i := 9) (by kernel_rfl) rfl (fun K hK => ?_)
  rw [if_pos (by rfl)]
  try simp only [lz1, lz2, lz3, Act.put, lz4, lz5, lz6]
  go_wp2_with (go_at_call 180; refine (hlong2 x2).mono ?_; rintro e x3 ⟨g3, rfl, hb3, hd3⟩)
  have HS3 := hide (HS2.out.trans0 hd3)
  refine hK.out _ _ (fun _ => HS3.out) ?_
  clear hK K
  try simp only [lz1, lz2, lz3, Act.put, lz4, lz5, lz6]
  refine AnyT.one (i := 10) (by kernel_rfl) rfl (fun K hK => ?_)
  rw [if_pos (by rfl)]
  try simp only [lz1, lz2, lz3, Act.put, lz4, lz5, lz6]
  have hcon4 := conLong (HV.out.c0 HS3.out) (hb3.cell 0) (fun x hx => by simp at hx)
  go_wp2_with (go_at_call 182; refine hcon4.mono ?_; rintro e x4 ⟨rfl, hx4⟩)
  have HS4 := hide (HS3.out.quiet hx4)
  clear hcon4 hx4
  refine hK.out _ _ (fun _ => HS4.out) ?_
  clear hK K
  try simp only [lz1, lz2, lz3, Act.put, lz4, lz5, lz6]
  refine AnyT.take (i := 11) (v := ?_) rfl (by kernel_rfl) (by kernel_rfl) (fun _ _ _ h => h) (by kernel_rfl) (by kernel_rfl) (Or.inl ⟨by rfl, ?_⟩) HS4.out ?_
  rotate_left
  ·(intro w9 h9; go_simp; try with_reducible rfl)
  try simp only [lz1, lz2, lz3, Act.put, lz4, lz5, lz6]
  refine AnyT.nil (by kernel_rfl) ?_
  go_wp2_with fail
  go_meet
  exact ⟨rfl, HS4.out⟩
 case rest =>
  obtain ⟨rfl, hcw⟩ := hcut
  obtain ⟨w2, rfl⟩ : ∃ w', w' = wc := ⟨_, rfl⟩
  have hb2 := HB.out.c0 hcw
  have b0 : w2.cell? ⟨b, 0, none⟩ = some (.bool false) := hb2.cell 0
  have b1 : w2.cell? ⟨b, 1, none⟩ = some (.slice KA kn kc) := hb2.cell 1
  have b2 : w2.cell? ⟨b, 2, none⟩ = some (.slice VA 0 vc) := hb2.cell 2
  have b3 : w2.cell? ⟨b, 3, none⟩ = some (.slice NA nn nc) := hb2.cell 3
  have hf := inFormed (VA := VA) (vc := vc) (HK.out.c0 hcw) (HI.out.c0 hcw) hn hz hu hl
  clear hb2 hlong hlong2
  go_wp2_with fail
  refine hf.mono ?_
  rintro e w3 ⟨rfl, hc3⟩
  clear hf
  go_wp2_with fail
  go_ret
  exact ⟨rfl, (HC.out.trans0 hcw).trans0 hc3⟩
end Go.Proofs.YtliimeoblffigaaGreat

set_option maxRecDepth 100000
namespace Go.Proofs.YtliimeoblffigaaGreat
open Go.RowKit
set_option linter.unusedVariables false
set_option linter.unusedSimpArgs false

theorem add0 (ad : Addr) : ad.add 0 = ad := by
 cases ad with
 | mk b o s => cases s <;> simp [Addr.add]
theorem encE_step (l : List (List UInt8 × Nat)) {i : Nat} (h : i < l.length) : (l.take (i + 1)).flatMap encE = (((l.take i).flatMap encE ++ [UInt8.ofNat l[i].1.length]) ++ l[i].1) ++ [hi8 l[i].2, lo8 l[i].2] := by
 rw [List.take_succ_eq_append_getElem h, List.flatMap_append]
 simp [encE]
theorem encE_take_le (l : List (List UInt8 × Nat)) (i : Nat) : ((l.take i).flatMap encE).length ≤ (l.flatMap encE).length := by
 conv => rhs; rw [← List.take_append_drop i l, List.flatMap_append, List.length_append]
 omega
theorem sK_ge (ks : List (List UInt8)) : ks.length ≤ sK ks := by
 unfold sK
 induction ks with
 | nil => simp
 | cons p l ih => simp only [List.map_cons, List.sum_cons, List.length_cons]; omega
set_option maxHeartbeats 8000000 in
theorem inEncode {w : World} {F G H : Nat → Prop} {KA VA NA : Option Addr} {kn kc vc nn nc : Nat} {ks : List (List UInt8)} {kd : List Nat} (hk0 : RdBB w F (.slice KA kn kc) ks) (hv0 : RdBB w G (.slice VA 0 vc) []) (hi0 : RdI w H (.slice NA nn nc) (izs kd)) (hn : kd.length = ks.length + 1) (hz : ∀ x ∈ kd, x ≤ 65535) (hu : UpK ks) (h64 : ∀ x ∈ ks, x.length ≤ 64) (hs : sizeIn ks kd.length ≤ 512) :
  Calls Tryz.prog 123 #[.agg #[.bool false, .slice KA kn kc, .slice VA 0 vc, .slice NA nn nc]] w fun e w' => ∃ u, e = .returned (.tuple #[u, .int .i64 0]) ∧ OwnB w' w.heap.size u (pageIn ks kd) ∧ Chg Non w w' := by
 have hk : RdBB w (fun b => b < w.heap.size) (.slice KA kn kc) ks := hk0.lt.mono fun b h => h.2
 have hv : RdBB w (fun b => b < w.heap.size) (.slice VA 0 vc) [] := hv0.lt.mono fun b h => h.2
 have hi : RdI w (fun b => b < w.heap.size) (.slice NA nn nc) (izs kd) := hi0.lt.mono fun b h => h.2
 clear hk0 hv0 hi0
 have ekn : kn = ks.length := by obtain ⟨_, _, e, _, _⟩ := hk.shape; injection e
 have enn : nn = kd.length := by obtain ⟨_, _, e, _, _⟩ := hi.shape; injection e with _ e _; rw [e, izs_len]
 obtain ⟨k0, kt, hkd⟩ : ∃ k0 kt, kd = k0 :: kt := by
  cases kd with
  | nil => simp at hn
  | cons a b => exact ⟨a, b, rfl⟩
 have hkt : kt.length = ks.length := by rw [hkd] at hn; simpa using hn
 have hg := sK_ge ks
 have hsz0 := sizeIn_sK ks kd.length
 obtain ⟨l, hl⟩ : ∃ l, l = ks.zip kt := ⟨_, rfl⟩
 have hll : l.length = ks.length := by rw [hl, List.length_zip, hkt, Nat.min_self]
 have hlk : ∀ i (h : i < l.length), ∃ (h1 : i < ks.length) (h2 : i < kt.length), l[i] = (ks[i], kt[i]) := fun i h => by
  have e := List.getElem_zip (l := ks) (l' := kt) (i := i) (h := by rw [← hl]; exact h)
  exact ⟨by omega, by omega, by rw [← e]; congr 1⟩
 have hel := encE_length ks kt hkt
 rw [← hl] at hel
 have hen : encIn ks kd = [2, hi8 ks.length, lo8 ks.length] ++ [hi8 k0, lo8 k0] ++ l.flatMap encE := by rw [hkd, hl]; rfl
 have hlen512 : 5 + (l.flatMap encE).length ≤ 512 := by
  have h := encIn_length hn
  rw [hen] at h
  simp only [List.length_append, List.length_cons, List.length_nil] at h
  omega
 have hk064 : k0 ≤ 65535 := hz k0 (by rw [hkd]; simp)
 have hsk : sK ks ≤ 512 := by omega
 have hns := sizeAl' w (.cells #[.bool false, .slice KA kn kc, .slice VA 0 vc, .slice NA nn nc] 125)
 have hb := Blk.new w 125 #[.bool false, .slice KA kn kc, .slice VA 0 vc, .slice NA nn nc]
 have hcb := (Chg.refl Non w).alloc (.cells #[.bool false, .slice KA kn kc, .slice VA 0 vc, .slice NA nn nc] 125)
 have hchk := inCheck (hk.c0 hcb) (hv.c0 hcb) (hi.c0 hcb) hn hz hu h64 (by omega)
 have hknl : kn ≤ 512 := by omega
 have HE := hide (And.intro hl (And.intro hkd (And.intro hen (And.intro hll (And.intro hkt (And.intro ekn enn))))))
 have HLK := hide hlk
 have HZ := hide hz
 have HS := hide (And.intro hs (And.intro hlen512 (And.intro hel (And.intro hn hsz0))))
 clear hl hkd hen hlk hz hs hel hn hkt hsz0 ekn enn hll hlen512 hg
 go_enter Tryz.func123, Tryz.ntmps123
 go_upto_region 1 with fail
 obtain ⟨b, hbe⟩ : ∃ b, b = w.heap.size := ⟨_, rfl⟩
 rw [← hbe] at hb ⊢
 generalize World.alloc _ _ = w1 at hb hcb hns hchk ⊢
 have HK := hide (hk.c0 hcb)
 have HI := hide (hi.c0 hcb)
 have HB := hide hb
 have HC := hide hcb
 have HBE := hide (And.intro hbe hns)
 obtain ⟨⟨b0, b1, b2, b3⟩, _⟩ := blk4 hb
 clear hb hcb hk hv hi hbe hns
 go_wp2_with fail
 refine hchk.mono ?_
 rintro e w2 ⟨rfl, hc2⟩
 obtain ⟨⟨b0', b1', b2', b3'⟩, _⟩ := blk4 (HB.out.c0 hc2)
 have hsz := inSize (VA := VA) (vn := 0) (vc := vc) (NA := NA) (nn := nn) (nc := nc) (HK.out.c0 hc2) (by have := HS.out; have := HE.out.2.2.2.2.2.2; rw [this]; omega)
 obtain ⟨sz, hszs⟩ : ∃ sz, sz = sizeIn ks nn := ⟨_, rfl⟩
 rw [← hszs] at hsz
 have hsz2 : sz ≤ 512 := by have := HS.out.1; have h := HE.out.2.2.2.2.2.2; rw [hszs, h]; exact this
 have hd : decide ((512 : Int) < (sz : Int)) = false := decide_eq_false (by omega)
 have hd2 : ¬ 512 < sz := by omega
 clear hchk b0 b1 b2 b3 hszs
 go_wp2_with fail
 refine hsz.mono ?_
 rintro e w3 ⟨rfl, hc3⟩
 have hc13 := hc2.trans0 hc3
 obtain ⟨⟨b0, b1, b2, b3⟩, _⟩ := blk4 (HB.out.c0 hc13)
 clear hsz b0' b1' b2' b3' hc2 hc3 hsz2
 have hO := own_one w3 2 2 rfl
 have hcA := (Chg.refl Non w3).alloc (.cells #[.int .u8 2] 5)
 have htwo := fun (wx : World) => lfTwo (w := wx) (n := kn) (by omega)
 have b1A := hcA.cell b1 (fun h => h)
 have b0A := hcA.cell b0 (fun h => h)
 have b3A := hcA.cell b3 (fun h => h)
 have n3 := hc13.size
 have hlen4 : ([2] : List UInt8).length + [hi8 kn, lo8 kn].length ≤ 140737488355328 := by simp
 go_upto_region 7 with (first
  | (go_at_call 153; refine (htwo _).mono ?_; rintro e w4 ⟨u4, rfl, hu4, hc4⟩; (obtain ⟨U4, un4, uc4, rfl⟩ := hu4.shapeH); have hO4 := hO.chg hc4 fun _ _ h => h; have b0B := hc4.cell b0A (fun h => h); have b3B := hc4.cell b3A (fun h => h); have hbs4 := Nat.le_trans hcA.size hc4.size)
  | (at_builtin; refine append_B rfl _ _ rfl hO4 rfl hu4.rd rfl hlen4 hbs4 ?_; intro v5 w5 hO5 hg5 hat5))
 have n4 := hc4.size
 have nA := hcA.size
 have hO5' : OwnB w5 w3.heap.size v5 [2, hi8 kn, lo8 kn] := hO5
 have hc35 : Chg Non w3 w5 := (hcA.trans0 hc4).own hg5 fun k hk => (hO4.lt k hk).1
 obtain ⟨A5, n5, k5, rfl⟩ := hO5'.shapeH
 have HO5 := hide hO5'
 have hc15 := hc13.trans0 hc35
 obtain ⟨⟨b0, b1, b2, b3⟩, _⟩ := blk4 (HB.out.c0 hc15)
 have HC15 := hide hc15
 have HN35 := hide (And.intro n3 hc35.size)
 clear hO5 hO5' hO4 hO hu4 hcA hc4 b0A b1A b0B b3A b3B htwo hg5 hat5 hc35 n4 nA n3 hbs4 hlen4 hc13 hc15 hd hd2
 have hk0c : ∃ ad : Addr, NA = some ad ∧ w5.cell? ad = some (.int .i64 (k0 : Int)) := by
  have hI := HI.out.c0 HC15.out
  have hnn := HE.out.2.2.2.2.2.2
  have hk := HE.out.2.1
  have hsh : nn = (izs kd).length := by rw [izs_len, hnn]
  rw [hsh] at hI
  obtain ⟨ad, e, _, hx⟩ := hI.at_ (k := 0) (by rw [izs_len, hk]; simp)
  refine ⟨ad, e, ?_⟩
  have hx' : w5.cell? ad = some (.int .i64 ((izs kd)[0]'(by rw [izs_len, hk]; simp))) := by rw [← hx, add0]
  rw [hx']
  simp [izs, hk]
 obtain ⟨ad, rfl, hk0c⟩ := hk0c
 have hnn0 : 0 < nn := by have h := HE.out.2.2.2.2.2.2; have h2 := HE.out.2.1; rw [h, h2]; simp
 have htwo0 := lfTwo (w := w5) (n := k0) (by omega)
 have hlen5 : ([2, hi8 kn, lo8 kn] : List UInt8).length + [hi8 k0, lo8 k0].length ≤ 140737488355328 := by simp
 go_upto_region 10 with (first
  | (go_at_call 153; refine htwo0.mono ?_; rintro e w6 ⟨u6, rfl, hu6, hc6⟩; (obtain ⟨U6, un6, uc6, rfl⟩ := hu6.shapeH); have hO6 := HO5.out.chg hc6 (fun _ _ h => h); have hbs6 := Nat.le_trans HN35.out.2 hc6.size)
  | (at_builtin; refine append_B rfl _ _ rfl hO6 rfl hu6.rd rfl hlen5 hbs6 ?_; intro v7 w7 hO7 hg7 hat7))
 have hO7' : OwnB w7 w3.heap.size v7 ([2, hi8 kn, lo8 kn] ++ [hi8 k0, lo8 k0]) := hO7
 have hc57 : Chg Non w1 w7 := (HC15.out.trans0 hc6).own hg7 fun k hk => by have := (hO6.lt k hk).1; have := HN35.out.1; omega
 obtain ⟨A7, n7, k7, rfl⟩ := hO7'.shapeH
 obtain ⟨⟨d0, d1, d2, d3⟩, _⟩ := blk4 (HB.out.c0 hc57)
 obtain ⟨pre, hpre⟩ : ∃ pre, pre = [2, hi8 kn, lo8 kn] ++ [hi8 k0, lo8 k0] := ⟨_, rfl⟩
 rw [← hpre] at hO7'
 have hprl : pre.length = 5 := by rw [hpre]; rfl
 have HO7 := hide (hO7'.low (b' := w1.heap.size) HN35.out.1)
 have HC17 := hide hc57
 have HPRE := hide hpre
 clear hO7 hO7' hg7 hat7 hc6 hu6 hO6 hbs6 htwo0 hlen5 hk0c b0 b1 b2 b3 hc57 hpre hnn0
 go_wp2_with fail
 go_loopw [5, 37] (fun ov iv wr => ∃ i : Nat, i ≤ kn ∧ iv = .int .i64 (i : Int) ∧ OwnB wr w1.heap.size ov (pre ++ (l.take i).flatMap encE) ∧ Chg Non w1 wr) (fun _ iv _ => kn - (intOf iv).toNat)
 case atStart => exact ⟨0, Nat.zero_le _, rfl, by simpa using HO7.out, HC17.out⟩
 case round =>
  obtain ⟨i, hi, rfl, hov, hcw⟩ := hrel
  by_cases hil : i < kn
  ·have hE := HE.out
   have hiln : i < l.length := by omega
   obtain ⟨hi1, hi2, hli⟩ := HLK.out i hiln
   obtain ⟨x, hxe⟩ : ∃ x, x = ks[i] := ⟨_, rfl⟩
   obtain ⟨y, hye⟩ : ∃ y, y = kt[i] := ⟨_, rfl⟩
   rw [← hxe, ← hye] at hli
   have hxl : x.length ≤ 64 := by rw [hxe]; exact h64 _ (List.getElem_mem hi1)
   have hyl : y ≤ 65535 := by rw [hye]; exact HZ.out _ (by rw [hE.2.1]; exact List.mem_cons_of_mem _ (List.getElem_mem hi2))
   have hK := HK.out
   have hsh : kn = ks.length := hE.2.2.2.2.2.1
   rw [hsh] at hK
   obtain ⟨adk, xv, eA, _, hx, hrx⟩ := hK.at_ hi1
   subst eA
   rw [← hxe] at hrx
   have hshn : nn = (izs kd).length := by rw [izs_len]; exact hE.2.2.2.2.2.2
   have hyall : ∀ wx, Chg Non w1 wx → wx.cell? (ad.add (i + 1)) = some (.int .i64 (y : Int)) := fun wx hcx => by
    have hIr := HI.out.c0 hcx
    rw [hshn] at hIr
    obtain ⟨adi, eI, _, hy⟩ := hIr.at_ (k := i + 1) (by rw [izs_len, hE.2.1, List.length_cons]; omega)
    injection eI with eI
    subst eI
    rw [hy, hye]
    have : (izs kd)[i + 1]'(by rw [izs_len, hE.2.1, List.length_cons]; omega) = ((kt[i] : Nat) : Int) := by simp [izs, hE.2.1]
    rw [this]
   have hst := encE_step l hiln
   rw [hli] at hst
   have hle := encE_take_le l i
   obtain ⟨en, hen⟩ : ∃ en, en = pre ++ (l.take i).flatMap encE := ⟨_, rfl⟩
   have henl : en.length ≤ 1000 := by rw [hen, List.length_append]; have := HS.out.2.1; omega
   have hst2 : pre ++ (l.take (i + 1)).flatMap encE = ((en ++ [UInt8.ofNat x.length]) ++ x) ++ [hi8 y, lo8 y] := by
    rw [hst, hen]; simp only [List.append_assoc]
   rw [← hen] at hov
   obtain ⟨L1, hL1⟩ : ∃ L1, L1 = x.length := ⟨_, rfl⟩
   obtain ⟨xA, xc, rfl, _, _⟩ := hrx.shape
   rw [← hL1] at hx hrx hst2 hxl
   have hw8 : IntKind.u8.wrap (L1 : Int) = (L1 : Int) := by show (L1 : Int) % 256 = _; omega
   have hw9 : IntKind.i64.wrap ((i : Int) + 1) = ((i + 1 : Nat) : Int) := by rw [IntWalk.i64_in _ (by omega)]; omega
   have hO1 := own_one wr (UInt8.ofNat L1) (L1 : Int) (by rw [toNat8 (by omega)])
   have hcL := (Chg.refl Non wr).alloc (.cells #[.int .u8 (L1 : Int)] 5)
   have hovL := hov.chg hcL fun _ _ h => h
   have hx' := hcw.cell hx (fun h => h)
   obtain ⟨OA, on, oc, rfl⟩ := hov.shapeH
   have htwo := fun (wx : World) => lfTwo (w := wx) (n := y) (by omega)
   have nr := hcw.size
   have nL := hcL.size
   have hlA : en.length + [UInt8.ofNat L1].length ≤ 140737488355328 := by simp; omega
   have hlB : (en ++ [UInt8.ofNat L1]).length + x.length ≤ 140737488355328 := by rw [← hL1]; simp; omega
   have hlC : ((en ++ [UInt8.ofNat L1]) ++ x).length + [hi8 y, lo8 y].length ≤ 140737488355328 := by simp; omega
   have hbA : w1.heap.size ≤ (wr.alloc (.cells #[.int .u8 (L1 : Int)] 5)).heap.size := Nat.le_trans nr nL
   have HRX := hide hrx
   have HST2 := hide hst2
   have HIL := hide hil
   have HB1 := hide ((HB.out.c0 hcw))
   have hbc0 : wr.cell? ⟨b, 0, none⟩ = some (.bool false) := HB1.out.cell 0
   have HYV := hide hyall
   obtain ⟨i1, hi1e⟩ : ∃ i1, i1 = i + 1 := ⟨_, rfl⟩
   rw [← hi1e] at hw9
   have HI1 := hide hi1e
   have hi1n : i1 < nn := by rw [hshn, izs_len, hE.2.1, List.length_cons]; omega
   clear hE hli hxe hye hi2 hsh hK hshn hyall hst hle hen hst2 hL1 hx hrx hi hi1e hiln
   go_upto_region 14 with (at_builtin; first
    | (with_reducible refine append_B rfl _ _ rfl hovL rfl hO1.rd rfl hlA hbA ?_; intro v7 w7 hO7 hg7 hat7; have hcw7 := (hcw.trans0 hcL).own hg7 (fun k hk => (hovL.lt k hk).1))
    | (refine append_B rfl _ _ rfl hO7 rfl (HRX.out.c0 hcw7) rfl hlB hcw7.size ?_; intro v8 w8 hO8 hg8 hat8))
   have hcw8 : Chg Non w1 w8 := hcw7.own hg8 (fun k hk => (hO7.lt k hk).1)
   obtain ⟨⟨b08, b18, b28, b38⟩, _⟩ := blk4 (HB.out.c0 hcw8)
   have hyw8 := HYV.out w8 hcw8
   rw [← HI1.out] at hyw8
   obtain ⟨OA8, on8, oc8, rfl⟩ := hO8.shapeH
   have HO8 := hide hO8
   clear hO1 hcL hovL hx' hov hO7 hg7 hat7 hg8 hat8 hO8 hcw7 hw8 hbc0
   have HC8 := hide hcw8
   clear hcw8 hcw hxl nL hbA hlA hlB
   go_wp2_with (first
    | (go_at_call 153; refine (htwo _).mono ?_; rintro e w9 ⟨u9, rfl, hu9, hc9⟩; (obtain ⟨U9, un9, uc9, rfl⟩ := hu9.shapeH); have hO9 := HO8.out.chg hc9 (fun _ _ h => h); have hbs9 := Nat.le_trans HC8.out.size hc9.size)
    | (at_builtin; refine append_B rfl _ _ rfl hO9 rfl hu9.rd rfl hlC hbs9 ?_; intro v10 w10 hO10 hg10 hat10))
   have hc10 := (HC8.out.trans0 hc9).own hg10 fun k hk => (hO9.lt k hk).1
   go_roundw
   case rel => exact ⟨i1, by have := HIL.out; have := HI1.out; omega, rfl, by rw [HI1.out, HST2.out]; exact hO10, hc10⟩
   case measure => (have := HIL.out; have := HI1.out; simp [intOf]; omega)
  ·have hik : i = kn := by omega
   have hE := HE.out
   have hkl : kn = l.length := by omega
   rw [hik, hkl, List.take_length] at hov
   have hen : pre ++ l.flatMap encE = encIn ks kd := by rw [hE.2.2.1, HPRE.out, hE.2.2.2.2.2.1]
   rw [hen] at hov
   subst hik
   have hel := encIn_length HS.out.2.2.2.1
   have hs512 := HS.out.1
   have hmk : (Instr.makeSlice 30 (.int .i64 512) (.int .i64 512)).run Tryz.prog wr = .ok (.slice (some ⟨wr.heap.size, 0, none⟩) 512 512) (wr.alloc (.cells (madeCells #[.int .u8 0] 512) 5)) := mk_files wr 512 (by decide)
   have hoB : OwnB (wr.alloc (.cells (madeCells #[.int .u8 0] 512) 5)) wr.heap.size (.slice (some ⟨wr.heap.size, 0, none⟩) 512 512) zeros := own_files wr 512 (by decide)
   have hcB : Chg Non wr (wr.alloc (.cells (madeCells #[.int .u8 0] 512) 5)) := (Chg.refl Non wr).alloc _
   have hovB := hov.chg hcB fun _ _ h => h
   obtain ⟨OA, on, oc, rfl⟩ := hov.shapeH
   have nr := hcw.size
   have HCB := hide hcB
   have HOB := hide hoB
   have HOV := hide hovB
   have HCW := hide hcw
   have HEL := hide (And.intro hel hs512)
   clear hcB hoB hovB hov hi hen hcw hE hkl hel hs512
   go_upto_region 19 with fail
   generalize World.alloc wr _ = wB at HCB HOB HOV ⊢
   clear hmk
   go_wp2_with (refine copy_B rfl _ _ rfl HOB.out rfl rfl HOV.out.rd ?_ ?_ (fun _ => rfl) ?_)
   ·have := HEL.out; omega
   ·have := HEL.out; omega
   ·intro w9 ho9 hc9 hsz9
    go_wp2_with fail
    go_ret2
    refine ⟨_, rfl, ?_, ?_⟩
    ·have e9 : encIn ks kd ++ List.drop (sizeIn ks kd.length) zeros = pageIn ks kd := by
      unfold pageIn zeros
      rw [List.drop_replicate]
     try simp only [List.take_zero, List.nil_append, Nat.zero_add, HEL.out.1] at ho9
     rw [e9] at ho9
     have h1 := HBE.out
     exact ho9.low (by omega)
    ·have h1 := HBE.out
     exact ((HC.out.trans0 HCW.out).trans0 HCB.out).trans hc9 fun k hk e => by
      have e : k = wr.heap.size := e
      omega
end Go.Proofs.YtliimeoblffigaaGreat

