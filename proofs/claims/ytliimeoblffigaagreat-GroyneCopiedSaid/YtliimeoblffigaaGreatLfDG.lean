/- The walks of leaf.formed and leaf.Check, of a good leaf. -/
import Derived.Test.YtliimeoblffigaaGreatLfAG
import Derived.Test.YtliimeoblffigaaGreatDgEG
import Derived.Deep.CutRange
import Derived.Test.YtliimeoblffigaaGreatPackAG
import Derived.Test.YtliimeoblffigaaGreatPackBG
import Derived.Test.YtliimeoblffigaaGreatDgDG
import Derived.BigQuiet
open List renaming getElem_toArray → lz1, getElem_cons_succ → lz2, getElem_cons_zero → lz3, setIfInBounds_toArray → lz4, set_cons_zero → lz5, set_cons_succ → lz6
set_option linter.unusedVariables false
set_option linter.unusedSimpArgs false
set_option maxRecDepth 100000
namespace Go.Proofs.YtliimeoblffigaaGreat
open Go.RowKit
set_option linter.unusedVariables false
set_option linter.unusedSimpArgs false

/-- keys that rise -/
def UpK (ks : List (List UInt8)) : Prop := ∀ (i : Nat) (p q : List UInt8), ks[i]? = some p → ks[i + 1]? = some q → cmpB p q < 0
theorem GoodKV.upK {l : List KV} (h : GoodKV l) : UpK (ksL l) := fun i p q hp hq => by
 unfold ksL at hp hq
 rw [List.getElem?_map] at hp hq
 obtain ⟨a, ha, rfl⟩ := Option.map_eq_some_iff.1 hp
 obtain ⟨b, hb, rfl⟩ := Option.map_eq_some_iff.1 hq
 exact h.up i a b ha hb
set_option maxHeartbeats 4000000 in
theorem lfFormed {w : World} {F G : Nat → Prop} {KA VA NA : Option Addr} {kn kc vn vc nc : Nat} {ks vs : List (List UInt8)} (hk : RdBB w F (.slice KA kn kc) ks) (hv : RdBB w G (.slice VA vn vc) vs) (hn : vs.length = ks.length) (hu : UpK ks) :
  Calls Tryz.prog 183 #[.agg #[.bool true, .slice KA kn kc, .slice VA vn vc, .slice NA 0 nc]] w fun e w' => e = .returned (.bool true) ∧ Chg Non w w' := by
 obtain ⟨_, _, ek, hkc, hkm⟩ := hk.shape
 injection ek with e1 e2 e3
 subst e1; subst e2; subst e3
 obtain ⟨_, _, ev, hvc, hvm⟩ := hv.shape
 injection ev with e1 e2 e3
 subst e1; subst e2; subst e3
 unfold maxLen at hkm hvm
 rw [hn]
 have hb := Blk.new w 125 #[.bool true, .slice KA ks.length kc, .slice VA ks.length vc, .slice NA 0 nc]
 have hcb := (Chg.refl Non w).alloc (.cells #[.bool true, .slice KA ks.length kc, .slice VA ks.length vc, .slice NA 0 nc] 125)
 clear hv hvc hvm hn
 go_enter Tryz.func183, Tryz.ntmps183
 go_upto_region 1 with fail
 obtain ⟨b, hbe⟩ : ∃ b, b = w.heap.size := ⟨_, rfl⟩
 rw [← hbe] at hb ⊢
 generalize World.alloc _ _ = w1 at hb hcb ⊢
 clear hbe
 have HK := hide (hk.c0 hcb)
 have HB := hide hb
 have HC := hide hcb
 have HU := hide hu
 clear hb hcb hk hu
 go_wp2_with fail
 go_loopw [3] (fun iv wr => ∃ i : Nat, 1 ≤ i ∧ (i ≤ ks.length ∨ i = 1) ∧ iv = .int .i64 (i : Int) ∧ Chg Non w1 wr) (fun iv _ => ks.length - (intOf iv).toNat)
 case atStart => exact ⟨1, Nat.le_refl _, .inr rfl, rfl, Chg.refl _ _⟩
 case round =>
  obtain ⟨i, h1i, hi, rfl, hcq⟩ := hrel
  have hb := HB.out.c0 hcq
  have b0 : wr.cell? ⟨b, 0, none⟩ = some (.bool true) := hb.cell 0
  have b1 : wr.cell? ⟨b, 1, none⟩ = some (.slice KA ks.length kc) := hb.cell 1
  have b2 : wr.cell? ⟨b, 2, none⟩ = some (.slice VA ks.length vc) := hb.cell 2
  have b3 : wr.cell? ⟨b, 3, none⟩ = some (.slice NA 0 nc) := hb.cell 3
  by_cases hil : i < ks.length
  ·obtain ⟨j, hj⟩ : ∃ j, i = j + 1 := ⟨i - 1, by omega⟩
   obtain ⟨ad, x, eA, _, hx, hrx⟩ := (HK.out.c0 hcq).at_ (k := j) (by omega)
   subst eA
   obtain ⟨ad2, y, eA, _, hy, hry⟩ := (HK.out.c0 hcq).at_ hil
   injection eA with eA
   subst eA
   have hlt := HU.out j (ks[j]'(by omega)) ks[i] (List.getElem?_eq_getElem (by omega)) (by rw [← hj]; exact List.getElem?_eq_getElem hil)
   obtain ⟨xs, hxs⟩ : ∃ xs, xs = ks[j]'(by omega) := ⟨_, rfl⟩
   obtain ⟨ys, hys⟩ : ∃ ys, ys = ks[i] := ⟨_, rfl⟩
   rw [← hxs] at hlt hrx
   rw [← hys] at hlt hry
   obtain ⟨cv, hcv⟩ : ∃ cv, cv = cmpB xs ys := ⟨_, rfl⟩
   have hcmp := fun n => packCompare (hrx.dn n) (hry.dn n)
   rw [← hcv] at hcmp hlt
   have hd : decide ((0 : Int) ≤ cv) = false := decide_eq_false (by omega)
   have hd2 : ¬ 0 ≤ cv := by omega
   have hw1 : IntKind.i64.wrap ((i : Int) - 1) = (j : Int) := by rw [IntWalk.i64_in _ (by omega)]; omega
   have hjl : j < ks.length := by omega
   have HIL := hide hil
   have HI1 := hide h1i
   clear hxs hys hcv hlt hrx hry hj hi h1i b0 b2 b3 hb
   go_upto_region 4 with fail
   go_quiet ((go_at_call 63; exact Calls.quiet_of (hcmp _)))
   clear hw1 hcmp hx hy
   go_wp2_with fail
   go_roundw
   case rel => exact ⟨i + 1, by omega, .inl HIL.out, by go_num, hcq.drewN _⟩
   case measure => (have := HIL.out; simp [intOf]; omega)
  ·have HH := hide hi
   have HQ := hide (HC.out.trans0 hcq)
   clear hi hb
   go_wp2_with fail
   go_ret
   exact ⟨rfl, HQ.out⟩
theorem mkLong (w : World) (m : Int) : Calls Tryz.prog 180 #[.int .i64 m] w fun e w' => ∃ g, e = .returned (.func (.func 181) #[] #[.pointer (some ⟨g, 0, none⟩)]) ∧ Blk w' g 3 #[.int .i64 m] ∧ Chg Non w w' := by
 have hmf := hmfL
 go_enter Tryz.func180, Tryz.ntmps180
 go_wp2_with fail
 go_ret
 exact ⟨_, rfl, Blk.new .., (Chg.refl Non w).alloc _⟩
set_option maxHeartbeats 4000000 in
theorem lfCheck {w : World} {F G : Nat → Prop} {KA VA NA : Option Addr} {kn kc vn vc nc : Nat} {ks vs : List (List UInt8)} (hk : RdBB w F (.slice KA kn kc) ks) (hv : RdBB w G (.slice VA vn vc) vs) (hn : vs.length = ks.length) (hu : UpK ks) (h64 : ∀ x ∈ ks, x.length ≤ 64) (h128 : ∀ x ∈ vs, x.length ≤ 128) :
  Calls Tryz.prog 151 #[.agg #[.bool true, .slice KA kn kc, .slice VA vn vc, .slice NA 0 nc]] w fun e w' => e = .returned (.int .i64 0) ∧ Chg Non w w' := by
 have hb := Blk.new w 125 #[.bool true, .slice KA kn kc, .slice VA vn vc, .slice NA 0 nc]
 have hcb := (Chg.refl Non w).alloc (.cells #[.bool true, .slice KA kn kc, .slice VA vn vc, .slice NA 0 nc] 125)
 go_enter Tryz.func151, Tryz.ntmps151
 go_upto_region 2 with fail
 obtain ⟨b, hbe⟩ : ∃ b, b = w.heap.size := ⟨_, rfl⟩
 rw [← hbe] at hb ⊢
 generalize World.alloc _ _ = w1 at hb hcb ⊢
 clear hbe
 have HK := hide (hk.c0 hcb)
 have HV := hide (hv.c0 hcb)
 have HB := hide hb
 have HC := hide hcb
 have hlong := fun (wx : World) => mkLong wx 64
 have hlong2 := fun (wx : World) => mkLong wx 128
 clear hb hcb hk hv
 go_cut [15] from 4 to 15 (fun v wx => v = .bool false ∧ Chg Non w1 wx)
 case first =>
  refine wp_region_T (Chg Non w1) 99 (by kernel_rfl) ?_
  have HS0 := hide ((Chg.refl Non w1).drew)
  generalize World.drew w1 = x0 at HS0 ⊢
  refine AnyT.take (i := 0) (v := ?_) rfl (by kernel_rfl) (by kernel_rfl) (fun _ _ _ h => h) (by kernel_rfl) (by kernel_rfl) (Or.inl ⟨by rfl, ?_⟩) HS0.out ?_
  rotate_left
  ·(intro w9 h9; go_simp; try with_reducible rfl)
  try simp only [lz1, lz2, lz3, Act.put, lz4, lz5, lz6]
  refine AnyT.take (i := 1) (v := ?_) rfl (by kernel_rfl) (by kernel_rfl) (fun _ _ _ h => h) (by kernel_rfl) (by kernel_rfl) (Or.inl ⟨by rfl, ?_⟩) HS0.out ?_
  rotate_left
  ·(intro w9 h9; have y1 : w9.cell? ⟨b, 1, none⟩ = some (.slice KA kn kc) := (HB.out.c0 h9).cell 1; go_simp; try with_reducible rfl)
  try simp only [lz1, lz2, lz3, Act.put, lz4, lz5, lz6]
  refine AnyT.take (i := 2) (v := ?_) rfl (by kernel_rfl) (by kernel_rfl) (fun _ _ _ h => h) (by kernel_rfl) (by kernel_rfl) (Or.inl ⟨by rfl, ?_⟩) HS0.out ?_
  rotate_left
  ·(intro w9 h9; go_simp; try with_reducible rfl)
  try simp only [lz1, lz2, lz3, Act.put, lz4, lz5, lz6]
  refine AnyT.one (i := 3) (by kernel_rfl) rfl (fun K hK => ?_)
  rw [if_pos (by rfl)]
  try simp only [lz1, lz2, lz3, Act.put, lz4, lz5, lz6]
  go_wp2_with (go_at_call 180; refine (hlong x0).mono ?_; rintro e x1 ⟨g1, rfl, hb1, hd1⟩)
  have HS1 := hide (HS0.out.trans0 hd1)
  refine hK.out _ _ (fun _ => HS1.out) ?_
  clear hK K
  try simp only [lz1, lz2, lz3, Act.put, lz4, lz5, lz6]
  refine AnyT.one (i := 4) (by kernel_rfl) rfl (fun K hK => ?_)
  rw [if_pos (by rfl)]
  try simp only [lz1, lz2, lz3, Act.put, lz4, lz5, lz6]
  have hcon2 := conLong (HK.out.c0 HS1.out) (hb1.cell 0) h64
  go_wp2_with (go_at_call 182; refine hcon2.mono ?_; rintro e x2 ⟨rfl, hx2⟩)
  have HS2 := hide (HS1.out.quiet hx2)
  clear hcon2 hx2
  refine hK.out _ _ (fun _ => HS2.out) ?_
  clear hK K
  try simp only [lz1, lz2, lz3, Act.put, lz4, lz5, lz6]
  refine AnyT.take (i := 5) (v := ?_) rfl (by kernel_rfl) (by kernel_rfl) (fun _ _ _ h => h) (by kernel_rfl) (by kernel_rfl) (Or.inl ⟨by rfl, ?_⟩) HS2.out ?_
  rotate_left
  ·(intro w9 h9; go_simp; try with_reducible rfl)
  try simp only [lz1, lz2, lz3, Act.put, lz4, lz5, lz6]
  refine AnyT.take (i := 6) (v := ?_) rfl (by kernel_rfl) (by kernel_rfl) (fun _ _ _ h => h) (by kernel_rfl) (by kernel_rfl) (Or.inl ⟨by rfl, ?_⟩) HS2.out ?_
  rotate_left
  ·(intro w9 h9; go_simp; try with_reducible rfl)
  try simp only [lz1, lz2, lz3, Act.put, lz4, lz5, lz6]
  refine AnyT.take (i := 7) (v := ?_) rfl (by kernel_rfl) (by kernel_rfl) (fun _ _ _ h => h) (by kernel_rfl) (by kernel_rfl) (Or.inl ⟨by rfl, ?_⟩) HS2.out ?_
  rotate_left
  ·(intro w9 h9; have y1 : w9.cell? ⟨b, 2, none⟩ = some (.slice VA vn vc) := (HB.out.c0 h9).cell 2; go_simp; try with_reducible rfl)
  try simp only [lz1, lz2, lz3, Act.put, lz4, lz5, lz6]
  refine AnyT.take (i := 8) (v := ?_) rfl (by kernel_rfl) (by kernel_rfl) (fun _ _ _ h => h) (by kernel_rfl) (by kernel_rfl) (Or.inl ⟨by rfl, ?_⟩) HS2.out ?_
  rotate_left
  ·(intro w9 h9; go_simp; try with_reducible rfl)
  try simp only [lz1, lz2, lz3, Act.put, lz4, lz5, lz6]
  refine AnyT.one (i := 9) (by kernel_rfl) rfl (fun K hK => ?_)
  rw [if_pos (by rfl)]
  try simp only [lz1, lz2, lz3, Act.put, lz4, lz5, lz6]
  go_wp2_with (go_at_call 180; refine (hlong2 x2).mono ?_; rintro e x3 ⟨g3, rfl, hb3, hd3⟩)
  have HS3 := hide (HS2.out.trans0 hd3)
  refine hK.out _ _ (fun _ => HS3.out) ?_
  clear hK K
  try simp only [lz1, lz2, lz3, Act.put, lz4, lz5, lz6]
  refine AnyT.one (i := 10) (by kernel_rfl) rfl (fun K hK => ?_)
  rw [if_pos (by rfl)]
  try simp only [lz1, lz2, lz3, Act.put, lz4, lz5, lz6]
  have hcon4 := conLong (HV.out.c0 HS3.out) (hb3.cell 0) h128
  go_wp2_with (go_at_call 182; refine hcon4.mono ?_; rintro e x4 ⟨rfl, hx4⟩)
  have HS4 := hide (HS3.out.quiet hx4)
  clear hcon4 hx4
  refine hK.out _ _ (fun _ => HS4.out) ?_
  clear hK K
  try simp only [lz1, lz2, lz3, Act.put, lz4, lz5, lz6]
  refine AnyT.take (i := 11) (v := ?_) rfl (by kernel_rfl) (by kernel_rfl) (fun _ _ _ h => h) (by kernel_rfl) (by kernel_rfl) (Or.inl ⟨by rfl, ?_⟩) HS4.out ?_
  rotate_left
  ·(intro w9 h9; go_simp; try with_reducible rfl)
  try simp only [lz1, lz2, lz3, Act.put, lz4, lz5, lz6]
  refine AnyT.nil (by kernel_rfl) ?_
  go_wp2_with fail
  go_meet
  exact ⟨rfl, HS4.out⟩
 case rest =>
  obtain ⟨rfl, hcw⟩ := hcut
  obtain ⟨w2, rfl⟩ : ∃ w', w' = wc := ⟨_, rfl⟩
  have hb2 := HB.out.c0 hcw
  have b0 : w2.cell? ⟨b, 0, none⟩ = some (.bool true) := hb2.cell 0
  have b1 : w2.cell? ⟨b, 1, none⟩ = some (.slice KA kn kc) := hb2.cell 1
  have b2 : w2.cell? ⟨b, 2, none⟩ = some (.slice VA vn vc) := hb2.cell 2
  have b3 : w2.cell? ⟨b, 3, none⟩ = some (.slice NA 0 nc) := hb2.cell 3
  have hf := lfFormed (NA := NA) (nc := nc) (HK.out.c0 hcw) (HV.out.c0 hcw) hn hu
  clear hb2 hlong hlong2
  go_wp2_with fail
  refine hf.mono ?_
  rintro e w3 ⟨rfl, hc3⟩
  clear hf
  go_wp2_with fail
  go_ret
  exact ⟨rfl, (HC.out.trans0 hcw).trans0 hc3⟩
end Go.Proofs.YtliimeoblffigaaGreat

set_option maxRecDepth 100000
namespace Go.Proofs.YtliimeoblffigaaGreat
open Go.RowKit
set_option linter.unusedVariables false
/-- append inside AnyT.one, behind the question whether it is wanted -/
theorem oper_B {w : World} {o : Oper} {a : Act} {K : Act → World → Prop} {Q : Exit → Act → World → Prop} (s x : Operand)
  (ho : o.op = .call { callee := .builtin .append, args := #[s, x], argTypes := #[30, 30] })
  {base : Nat} {v : Value} {l : List UInt8} (hown : OwnB w base v l) (hv : a.eval s = v)
  {y : Value} {F : Nat → Prop} {m : List UInt8} (hr : RdB w F y m) (hy : a.eval x = y)
  (hb : l.length + m.length ≤ 140737488355328) (hbase : base ≤ w.heap.size)
  (h : ∀ v' w', OwnB w' base v' (l ++ m) → w.grownBy w' v.ownBlock → (v'.ownBlock = v.ownBlock ∨ v'.ownBlock = some w.heap.size) → K (a.put o.dst v') w') :
  Oper.wp Tryz.prog o a w K Q := by
 subst hv; subst hy
 obtain ⟨i, hi, hz, h1, h2⟩ := info_parts info_u8
 refine wp_append_rd w s x _ ho base 5 i _ 1 1 Tryz.underlying30 hi hz h1 h2 rfl (by omega) _ _ hown F _ _ hr (bvs_one m) (by simp only [maxLen]; omega) (by omega) hbase ?_
 intro v' w' hown' hg _ hat
 refine h v' w' ?_ hg hat
 unfold OwnB
 rw [List.length_append, bvs_append]
 exact hown'

/-- the same with a list of lists, one list more -/
theorem oper_BB {w : World} {o : Oper} {a : Act} {K : Act → World → Prop} {Q : Exit → Act → World → Prop} (s x : Operand)
  (ho : o.op = .call { callee := .builtin .append, args := #[s, x], argTypes := #[122, 122] })
  {base : Nat} {F : Nat → Prop} {v : Value} {ll : List (List UInt8)} (hown : OwnBB w base F v ll) (hv : a.eval s = v)
  {u : Value} {l : List UInt8} (hu : RdB w (fun b => F b ∧ b < w.heap.size ∧ v.ownBlock ≠ some b) u l)
  {g : Nat} (hg : Blk w g 30 #[u]) (hy : a.eval x = .slice (some ⟨g, 0, none⟩) 1 1)
  (hb : ll.length + 1 ≤ 1000000000000) (hbase : base ≤ w.heap.size)
  (h : ∀ v' w', OwnBB w' base F v' (ll ++ [l]) → w.grownBy w' v.ownBlock → (v'.ownBlock = v.ownBlock ∨ v'.ownBlock = some w.heap.size) → K (a.put o.dst v') w') : Oper.wp Tryz.prog o a w K Q := by
 obtain ⟨i, hi, hz, h1, h2⟩ := info_parts info_bb
 obtain ⟨vs, e1, e2, e3⟩ := hown
 have hr : RdV w (fun _ => True) 1 (.slice (some ⟨g, 0, none⟩) 1 1) 1 [u] := ⟨rfl, _, 1, rfl, Nat.le_refl _, by simp [maxLen], fun _ => ⟨_, rfl, trivial, fun j y hyj => by
  rw [add_none, hg.cell]
  match j, hyj with
  | 0, hyj => simpa using hyj
  | j + 1, hyj => simp at hyj⟩⟩
 have h1c : ∀ y ∈ [u], y.oneCell' = true := fun y hy => by
  obtain ⟨A, c, rfl, _, _⟩ := hu.shape
  simp at hy; subst hy; rfl
 subst hv
 rw [← hy] at hr
 refine wp_append_rd w s x _ ho base 30 i _ 1 24 Tryz.underlying122 hi hz h1 h2 rfl (by omega) _ _ e2 _ _ _ hr h1c (by simp only [maxLen]; omega) (by omega) hbase ?_
 intro v' w' hown' hgr _ hat
 exact h v' w' (OwnBB.grow e1 e3 hu hown' hgr hat) hgr hat
end Go.Proofs.YtliimeoblffigaaGreat

set_option maxRecDepth 100000
namespace Go.Proofs.YtliimeoblffigaaGreat
open Go.RowKit
set_option linter.unusedVariables false
set_option linter.unusedSimpArgs false

theorem encP_step (l : List KV) {i : Nat} (h : i < l.length) : (l.take (i + 1)).flatMap encP = ((((l.take i).flatMap encP ++ [UInt8.ofNat l[i].1.length]) ++ l[i].1) ++ [hi8 l[i].2.length, lo8 l[i].2.length]) ++ l[i].2 := by
 rw [List.take_succ_eq_append_getElem h, List.flatMap_append]
 simp [encP]
theorem encP_take_le (l : List KV) (i : Nat) : ((l.take i).flatMap encP).length + 3 ≤ sizeKV l := by
 rw [flat_length]
 unfold sizeKV
 conv => rhs; rw [← List.take_append_drop i l]
 rw [List.map_append, List.sum_append]; omega
theorem len_le_size (l : List KV) : 3 + 3 * l.length ≤ sizeKV l := by
 unfold sizeKV
 induction l with
 | nil => simp
 | cons p l ih => simp only [List.map_cons, List.sum_cons, List.length_cons, sizeP] at ih ⊢; omega
set_option maxHeartbeats 8000000 in
theorem lfEncode {w : World} {F G : Nat → Prop} {KA VA NA : Option Addr} {kn kc vn vc nc : Nat} {l : List KV} (hk0 : RdBB w F (.slice KA kn kc) (ksL l)) (hv0 : RdBB w G (.slice VA vn vc) (vsL l)) (hg : GoodKV l) (hs : sizeKV l ≤ 512) :
  Calls Tryz.prog 123 #[.agg #[.bool true, .slice KA kn kc, .slice VA vn vc, .slice NA 0 nc]] w fun e w' => ∃ u, e = .returned (.tuple #[u, .int .i64 0]) ∧ OwnB w' w.heap.size u (pageKV l) ∧ Chg Non w w' := by
 have hk : RdBB w (fun b => b < w.heap.size) (.slice KA kn kc) (ksL l) := hk0.lt.mono fun b h => h.2
 have hv : RdBB w (fun b => b < w.heap.size) (.slice VA vn vc) (vsL l) := hv0.lt.mono fun b h => h.2
 clear hk0 hv0
 obtain ⟨_, _, ek, hkc, hkm⟩ := hk.shape
 injection ek with e1 e2 e3
 subst e1; subst e2; subst e3
 obtain ⟨_, _, ev, hvc, hvm⟩ := hv.shape
 injection ev with e1 e2 e3
 subst e1; subst e2; subst e3
 rw [ksL_length] at hk hkc
 rw [vsL_length] at hv hvc
 rw [ksL_length, vsL_length]
 unfold maxLen at hkm hvm
 have hnl := len_le_size l
 have h64 : ∀ x ∈ ksL l, x.length ≤ 64 := fun x hx => by obtain ⟨p, hp, rfl⟩ := List.mem_map.1 hx; exact (hg.len p hp).1
 have h128 : ∀ x ∈ vsL l, x.length ≤ 128 := fun x hx => by obtain ⟨p, hp, rfl⟩ := List.mem_map.1 hx; exact (hg.len p hp).2
 have hup := hg.upK
 have hszs := size_split l
 have hb := Blk.new w 125 #[.bool true, .slice KA l.length kc, .slice VA l.length vc, .slice NA 0 nc]
 have hcb := (Chg.refl Non w).alloc (.cells #[.bool true, .slice KA l.length kc, .slice VA l.length vc, .slice NA 0 nc] 125)
 have hns := Array.size_push (xs := w.heap) (.cells #[.bool true, .slice KA l.length kc, .slice VA l.length vc, .slice NA 0 nc] 125)
 have hns : (w.alloc (.cells #[.bool true, .slice KA l.length kc, .slice VA l.length vc, .slice NA 0 nc] 125)).heap.size = w.heap.size + 1 := hns
 go_enter Tryz.func123, Tryz.ntmps123
 go_upto_region 1 with fail
 obtain ⟨b, hbe⟩ : ∃ b, b = w.heap.size := ⟨_, rfl⟩
 rw [← hbe] at hb ⊢
 generalize World.alloc _ _ = w1 at hb hcb hns ⊢
 have HK := hide (hk.c0 hcb)
 have HV := hide (hv.c0 hcb)
 have HB := hide hb
 have HC := hide hcb
 have HBE := hide (And.intro hbe hns)
 have b0 : w1.cell? ⟨b, 0, none⟩ = some (.bool true) := hb.cell 0
 have b1 : w1.cell? ⟨b, 1, none⟩ = some (.slice KA l.length kc) := hb.cell 1
 have b2 : w1.cell? ⟨b, 2, none⟩ = some (.slice VA l.length vc) := hb.cell 2
 have b3 : w1.cell? ⟨b, 3, none⟩ = some (.slice NA 0 nc) := hb.cell 3
 have hchk := lfCheck (NA := NA) (nc := nc) HK.out HV.out (by rw [ksL_length, vsL_length]) hup h64 h128
 clear hb hcb hk hv hup h64 h128 hbe hns
 go_wp2_with fail
 refine hchk.mono ?_
 rintro e w2 ⟨rfl, hc2⟩
 have b0' := (HB.out.c0 hc2).cell 0
 have b1' := (HB.out.c0 hc2).cell 1
 have b2' := (HB.out.c0 hc2).cell 2
 have b3' := (HB.out.c0 hc2).cell 3
 simp at b0' b1' b2' b3'
 have hsz := lfSize (NA := NA) (nc := nc) (HK.out.c0 hc2) (HV.out.c0 hc2) (by omega)
 rw [← hszs] at hsz
 have HSZS := hide hszs
 clear hszs
 have HNL := hide hnl
 have hd : decide ((512 : Int) < (sizeKV l : Int)) = false := decide_eq_false (by omega)
 have hd2 : ¬ 512 < sizeKV l := by omega
 clear hchk b0 b1 b2 b3
 go_wp2_with fail
 refine hsz.mono ?_
 rintro e w3 ⟨rfl, hc3⟩
 have hc13 := hc2.trans0 hc3
 have hb3 := HB.out.c0 hc13
 have b0 : w3.cell? ⟨b, 0, none⟩ = some (.bool true) := hb3.cell 0
 have b1 : w3.cell? ⟨b, 1, none⟩ = some (.slice KA l.length kc) := hb3.cell 1
 clear hsz b0' b1' b2' b3' hb3 hc2 hc3
 have hO := own_one w3 2 2 rfl
 have hcA := (Chg.refl Non w3).alloc (.cells #[.int .u8 2] 5)
 have hnA := Array.size_push (xs := w3.heap) (.cells #[.int .u8 2] 5)
 have htwo := fun (wx : World) => lfTwo (w := wx) (n := l.length) (by omega)
 have b1A := hcA.cell b1 (fun h => h)
 have b0A := hcA.cell b0 (fun h => h)
 have n3 := hc13.size
 have hlen4 : ([2] : List UInt8).length + [hi8 l.length, lo8 l.length].length ≤ 140737488355328 := by simp
 go_upto_region 7 with (first
  | (go_at_call 153; refine (htwo _).mono ?_; rintro e w4 ⟨u4, rfl, hu4, hc4⟩; (obtain ⟨U4, un4, uc4, rfl⟩ := hu4.shapeH); have hO4 := hO.chg hc4 fun _ _ h => h; have b0B := hc4.cell b0A (fun h => h); have hbs4 := Nat.le_trans hcA.size hc4.size)
  | (at_builtin; refine append_B rfl _ _ rfl hO4 rfl hu4.rd rfl hlen4 hbs4 ?_; intro v5 w5 hO5 hg5 hat5))
 ·have n4 := hc4.size
  have nA := hcA.size
  have hO5' : OwnB w5 w3.heap.size v5 [2, hi8 l.length, lo8 l.length] := hO5
  have hc35 : Chg Non w3 w5 := (hcA.trans0 hc4).own hg5 fun k hk => (hO4.lt k hk).1
  obtain ⟨A5, n5, k5, rfl⟩ := hO5'.shapeH
  obtain ⟨g5, rfl, hg51, hg52⟩ := hO5'.head (by simp)
  have e5 : n5 = 3 := by obtain ⟨_, _, e, _⟩ := hO5'.shape; injection e
  subst e5
  have hst := hO5'.stored 0 1
  have hst : OwnB (w5.setCell ⟨g5, 0, none⟩ (.int .u8 1)) w3.heap.size (.slice (some ⟨g5, 0, none⟩) 3 k5) [1, hi8 l.length, lo8 l.length] := hst
  have hfz : w5.frozen? ⟨g5, 0, none⟩ = false := by
   obtain ⟨cur, h1, h2, h3, h4, h5, h6, h7⟩ := hO5'.row
   exact (show Blk w5 g5 5 cur from h1).frozen 0
  have hcell0 := hO5'.cell (i := 0) (by simp)
  have hcs : Chg (fun k => k = g5) w5 (w5.setCell ⟨g5, 0, none⟩ (.int .u8 1)) := Chg.setCell (p := ⟨g5, 0, none⟩) (Chg.refl (fun k => k = g5) w5) (fun _ => rfl) _
  have hc36 : Chg Non w3 (w5.setCell ⟨g5, 0, none⟩ (.int .u8 1)) := hc35.trans hcs fun k hk e => by
   have e : k = g5 := e
   omega
  have b05 : w5.cell? ⟨b, 0, none⟩ = some (.bool true) := hc35.cell b0 (fun h => h)
  have HST := hide hst
  have HC36 := hide hc36
  clear hst hc36 hcs hc35 hO5 hO5' hO4 hO hu4 hcA hc4 b0A b1A b0B hnA htwo hg5 hat5 hg51 hg52
  go_upto_region 10 with fail
  generalize World.setCell w5 _ _ = w6 at HST HC36 ⊢
  have HC16 := hide (hc13.trans0 HC36.out)
  have n6 := HC16.out.size
  have n36 := HC36.out.size
  have hb6 := HB.out.c0 HC16.out
  have b16 : w6.cell? ⟨b, 1, none⟩ = some (.slice KA l.length kc) := hb6.cell 1
  have HST6 := hide (HST.out.low (b' := w1.heap.size) n3)
  clear hb6 b05 hcell0 hfz b0 b1
  go_wp2_with fail
  go_loopw [5, 37] (fun ov iv wr => ∃ i : Nat, i ≤ l.length ∧ iv = .int .i64 (i : Int) ∧ OwnB wr w1.heap.size ov ([1, hi8 l.length, lo8 l.length] ++ (l.take i).flatMap encP) ∧ Chg Non w1 wr) (fun _ iv _ => l.length - (intOf iv).toNat)
  case atStart => exact ⟨0, Nat.zero_le _, rfl, HST6.out, HC16.out⟩
  case round =>
   obtain ⟨i, hi, rfl, hov, hcw⟩ := hrel
   by_cases hil : i < l.length
   ·obtain ⟨p, hp⟩ : ∃ p, p = l[i] := ⟨_, rfl⟩
    have hpm : p ∈ l := by rw [hp]; exact List.getElem_mem hil
    have hpl := hg.len p hpm
    obtain ⟨adk, x, eA, _, hx, hrx⟩ := HK.out.at_ (k := i) (by rw [ksL_length]; exact hil)
    subst eA
    obtain ⟨adv, y, eA, _, hy, hry⟩ := HV.out.at_ (k := i) (by rw [vsL_length]; exact hil)
    subst eA
    have ekk : (ksL l)[i]'(by rw [ksL_length]; exact hil) = p.1 := by rw [hp]; exact List.getElem_map ..
    have evv : (vsL l)[i]'(by rw [vsL_length]; exact hil) = p.2 := by rw [hp]; exact List.getElem_map ..
    rw [ekk] at hrx
    rw [evv] at hry
    have hst := encP_step l hil
    rw [← hp] at hst
    have hle := encP_take_le l i
    obtain ⟨en, hen⟩ : ∃ en, en = [1, hi8 l.length, lo8 l.length] ++ (l.take i).flatMap encP := ⟨_, rfl⟩
    have henl : en.length ≤ 1000 := by rw [hen]; simp only [List.length_append, List.length_cons, List.length_nil]; omega
    have hst2 : [1, hi8 l.length, lo8 l.length] ++ (l.take (i + 1)).flatMap encP = (((en ++ [UInt8.ofNat p.1.length]) ++ p.1) ++ [hi8 p.2.length, lo8 p.2.length]) ++ p.2 := by
     rw [hst, hen]; simp only [List.append_assoc]
    rw [← hen] at hov
    obtain ⟨L1, hL1⟩ : ∃ L1, L1 = p.1.length := ⟨_, rfl⟩
    obtain ⟨L2, hL2⟩ : ∃ L2, L2 = p.2.length := ⟨_, rfl⟩
    obtain ⟨xA, xc, rfl, _, _⟩ := hrx.shape
    obtain ⟨yA, yc, rfl, _, _⟩ := hry.shape
    rw [← hL1] at hx hrx hst2 hpl
    rw [← hL2] at hy hry hst2 hpl
    have hw8 : IntKind.u8.wrap (L1 : Int) = (L1 : Int) := by show (L1 : Int) % 256 = _; omega
    have hO1 := own_one wr (UInt8.ofNat L1) (L1 : Int) (by rw [toNat8 (by omega)])
    have hcL := (Chg.refl Non wr).alloc (.cells #[.int .u8 (L1 : Int)] 5)
    have hovL := hov.chg hcL fun _ _ h => h
    have hx' := hcw.cell hx (fun h => h)
    obtain ⟨OA, on, oc, rfl⟩ := hov.shapeH
    have htwo := fun (wx : World) => lfTwo (w := wx) (n := L2) (by omega)
    have nr := hcw.size
    have nL := hcL.size
    have hlA : en.length + [UInt8.ofNat L1].length ≤ 140737488355328 := by simp; omega
    have hlB : (en ++ [UInt8.ofNat L1]).length + p.1.length ≤ 140737488355328 := by simp; omega
    have hbA : w1.heap.size ≤ (wr.alloc (.cells #[.int .u8 (L1 : Int)] 5)).heap.size := Nat.le_trans nr nL
    have HX := hide (And.intro hx hy)
    have HRX := hide hrx
    have HRY := hide hry
    have HST2 := hide hst2
    have HIL := hide hil
    have HPL := hide (And.intro hL1 hL2)
    have HB1 := hide ((HB.out.c0 hcw))
    have hbc0 : wr.cell? ⟨b, 0, none⟩ = some (.bool true) := HB1.out.cell 0
    clear hp hpm ekk evv hst hle hen hst2 hL1 hL2 hx hy hrx hry hi
    go_upto_region 14 with (at_builtin; first
     | (with_reducible refine append_B rfl _ _ rfl hovL rfl hO1.rd rfl hlA hbA ?_; intro v7 w7 hO7 hg7 hat7; have hcw7 := (hcw.trans0 hcL).own hg7 (fun k hk => (hovL.lt k hk).1))
     | (refine append_B rfl _ _ rfl hO7 rfl (HRX.out.c0 hcw7) rfl hlB hcw7.size ?_; intro v8 w8 hO8 hg8 hat8))
    ·have hcw8 : Chg Non w1 w8 := hcw7.own hg8 (fun k hk => (hO7.lt k hk).1)
     have hb8 := HB.out.c0 hcw8
     have b08 : w8.cell? ⟨b, 0, none⟩ = some (.bool true) := hb8.cell 0
     obtain ⟨OA8, on8, oc8, rfl⟩ := hO8.shapeH
     have HO0 := hide hO8
     have HS0 := hide (hcw8.drew)
     clear hO1 hcL hovL hx' hov hO7 hg7 hat7 hg8 hat8 hO8 hcw7 hb8 hw8 hbc0
     go_upto_region 15 with fail
     replace HO0 : Hid (OwnB w8.drew w1.heap.size (.slice OA8 on8 oc8) ((en ++ [UInt8.ofNat L1]) ++ p.1)) := hide HO0.out.dr
     refine wp_region_T (Chg Non w1) 99 (by kernel_rfl) ?_
     generalize World.drew w8 = x0 at HS0 HO0 ⊢
     clear hcw8 b08 hcw
     refine AnyT.take (i := 0) (v := ?_) rfl (by kernel_rfl) (by kernel_rfl) (fun _ _ _ h => h) (by kernel_rfl) (by kernel_rfl) (Or.inl ⟨by rfl, ?_⟩) HS0.out ?_
     rotate_left
     ·(intro w9 h9; go_simp; try with_reducible rfl)
     try simp only [lz1, lz2, lz3, Act.put, lz4, lz5, lz6]
     refine AnyT.take (i := 1) (v := ?_) rfl (by kernel_rfl) (by kernel_rfl) (fun _ _ _ h => h) (by kernel_rfl) (by kernel_rfl) (Or.inl ⟨by rfl, ?_⟩) HS0.out ?_
     rotate_left
     ·(intro w9 h9; go_simp; try with_reducible rfl)
     try simp only [lz1, lz2, lz3, Act.put, lz4, lz5, lz6]
     refine AnyT.take (i := 2) (v := ?_) rfl (by kernel_rfl) (by kernel_rfl) (fun _ _ _ h => h) (by kernel_rfl) (by kernel_rfl) (Or.inl ⟨by rfl, ?_⟩) HS0.out ?_
     rotate_left
     ·(intro w9 h9; have y1 : w9.cell? ⟨b, 2, none⟩ = some (.slice (some adv) l.length vc) := (HB.out.c0 h9).cell 2; go_simp; try with_reducible rfl)
     try simp only [lz1, lz2, lz3, Act.put, lz4, lz5, lz6]
     refine AnyT.take (i := 3) (v := ?_) rfl (by kernel_rfl) (by kernel_rfl) (fun _ _ _ h => h) (by kernel_rfl) (by kernel_rfl) (Or.inl ⟨by rfl, ?_⟩) HS0.out ?_
     rotate_left
     ·(intro w9 h9; go_simp; try with_reducible rfl)
     try simp only [lz1, lz2, lz3, Act.put, lz4, lz5, lz6]
     refine AnyT.take (i := 4) (v := ?_) rfl (by kernel_rfl) (by kernel_rfl) (fun _ _ _ h => h) (by kernel_rfl) (by kernel_rfl) (Or.inl ⟨by rfl, ?_⟩) HS0.out ?_
     rotate_left
     ·(intro w9 h9; have y1 := HIL.out; go_simp; try with_reducible rfl)
     try simp only [lz1, lz2, lz3, Act.put, lz4, lz5, lz6]
     refine AnyT.take (i := 5) (v := ?_) rfl (by kernel_rfl) (by kernel_rfl) (fun _ _ _ h => h) (by kernel_rfl) (by kernel_rfl) (Or.inl ⟨by rfl, ?_⟩) HS0.out ?_
     rotate_left
     ·(intro w9 h9; have y1 := h9.cell HX.out.2 (fun h => h); go_simp; try with_reducible rfl)
     try simp only [lz1, lz2, lz3, Act.put, lz4, lz5, lz6]
     refine AnyT.take (i := 6) (v := ?_) rfl (by kernel_rfl) (by kernel_rfl) (fun _ _ _ h => h) (by kernel_rfl) (by kernel_rfl) (Or.inl ⟨by rfl, ?_⟩) HS0.out ?_
     rotate_left
     ·(intro w9 h9; go_simp; try with_reducible rfl)
     try simp only [lz1, lz2, lz3, Act.put, lz4, lz5, lz6]
     refine AnyT.take (i := 9) (v := ?_) rfl (by kernel_rfl) (by kernel_rfl) (fun _ _ _ h => h) (by kernel_rfl) (by kernel_rfl) (Or.inl ⟨by rfl, ?_⟩) HS0.out ?_
     rotate_left
     ·(intro w9 h9; go_simp; try with_reducible rfl)
     try simp only [lz1, lz2, lz3, Act.put, lz4, lz5, lz6]
     refine AnyT.take (i := 10) (v := ?_) rfl (by kernel_rfl) (by kernel_rfl) (fun _ _ _ h => h) (by kernel_rfl) (by kernel_rfl) (Or.inl ⟨by rfl, ?_⟩) HS0.out ?_
     rotate_left
     ·(intro w9 h9; have y1 : w9.cell? ⟨b, 2, none⟩ = some (.slice (some adv) l.length vc) := (HB.out.c0 h9).cell 2; go_simp; try with_reducible rfl)
     try simp only [lz1, lz2, lz3, Act.put, lz4, lz5, lz6]
     refine AnyT.take (i := 11) (v := ?_) rfl (by kernel_rfl) (by kernel_rfl) (fun _ _ _ h => h) (by kernel_rfl) (by kernel_rfl) (Or.inl ⟨by rfl, ?_⟩) HS0.out ?_
     rotate_left
     ·(intro w9 h9; go_simp; try with_reducible rfl)
     try simp only [lz1, lz2, lz3, Act.put, lz4, lz5, lz6]
     refine AnyT.take (i := 12) (v := ?_) rfl (by kernel_rfl) (by kernel_rfl) (fun _ _ _ h => h) (by kernel_rfl) (by kernel_rfl) (Or.inl ⟨by rfl, ?_⟩) HS0.out ?_
     rotate_left
     ·(intro w9 h9; have y1 := HIL.out; go_simp; try with_reducible rfl)
     try simp only [lz1, lz2, lz3, Act.put, lz4, lz5, lz6]
     refine AnyT.take (i := 13) (v := ?_) rfl (by kernel_rfl) (by kernel_rfl) (fun _ _ _ h => h) (by kernel_rfl) (by kernel_rfl) (Or.inl ⟨by rfl, ?_⟩) HS0.out ?_
     rotate_left
     ·(intro w9 h9; have y1 := h9.cell HX.out.2 (fun h => h); go_simp; try with_reducible rfl)
     try simp only [lz1, lz2, lz3, Act.put, lz4, lz5, lz6]
     refine AnyT.one (i := 7) (by kernel_rfl) rfl (fun K hK => ?_)
     rw [if_pos (by rfl)]
     try simp only [lz1, lz2, lz3, Act.put, lz4, lz5, lz6]
     go_wp2_with (go_at_call 153; refine (htwo _).mono ?_; rintro e x1 ⟨u2, rfl, hu2, hd1⟩)
     obtain ⟨UA, un, uc, rfl⟩ := hu2.shapeH
     have HS1 := hide (HS0.out.trans0 hd1)
     have HO1 := hide (HO0.out.chg hd1 fun _ _ h => h)
     refine hK.out _ _ (fun _ => HS1.out) ?_
     clear hK K
     try simp only [lz1, lz2, lz3, Act.put, lz4, lz5, lz6]
     refine AnyT.one (i := 8) (by kernel_rfl) rfl (fun K hK => ?_)
     rw [if_pos (by rfl)]
     try simp only [lz1, lz2, lz3, Act.put, lz4, lz5, lz6]
     refine oper_B _ _ rfl HO1.out rfl hu2.rd rfl (by have := HPL.out; simp; omega) HS1.out.size ?_
     intro v2 x2 how2 hgr2 hat2
     obtain ⟨OA91, on91, oc91, rfl⟩ := how2.shapeH
     have HS2 := hide (HS1.out.own hgr2 fun j hj => (HO1.out.lt j hj).1)
     have HO2 := hide how2
     clear how2 hgr2 hat2
     refine hK.out _ _ (fun _ => HS2.out) ?_
     clear hK K
     try simp only [lz1, lz2, lz3, Act.put, lz4, lz5, lz6]
     refine AnyT.one (i := 14) (by kernel_rfl) rfl (fun K hK => ?_)
     rw [if_pos (by rfl)]
     try simp only [lz1, lz2, lz3, Act.put, lz4, lz5, lz6]
     refine oper_B _ _ rfl HO2.out rfl (HRY.out.c0 HS2.out) rfl (by have := HPL.out; simp; omega) HS2.out.size ?_
     intro v3 x3 how3 hgr3 hat3
     obtain ⟨OA92, on92, oc92, rfl⟩ := how3.shapeH
     have HS3 := hide (HS2.out.own hgr3 fun j hj => (HO2.out.lt j hj).1)
     have HO3 := hide how3
     clear how3 hgr3 hat3
     refine hK.out _ _ (fun _ => HS3.out) ?_
     clear hK K
     try simp only [lz1, lz2, lz3, Act.put, lz4, lz5, lz6]
     refine AnyT.take (i := 15) (v := ?_) rfl (by kernel_rfl) (by kernel_rfl) (fun _ _ _ h => h) (by kernel_rfl) (by kernel_rfl) (Or.inl ⟨by rfl, ?_⟩) HS3.out ?_
     rotate_left
     ·(intro w9 h9; go_simp; try with_reducible rfl)
     try simp only [lz1, lz2, lz3, Act.put, lz4, lz5, lz6]
     refine AnyT.nil (by kernel_rfl) ?_
     go_wp2_with fail
     go_roundw
     case rel => exact ⟨i + 1, HIL.out, by go_num, by rw [HST2.out]; exact HO3.out, HS3.out⟩
     case measure => (have := HIL.out; simp [intOf]; omega)
   ·have hik : i = l.length := by omega
    subst hik
    rw [List.take_length] at hov
    have hen : [1, hi8 l.length, lo8 l.length] ++ l.flatMap encP = encKV l := rfl
    rw [hen] at hov
    have hel := encKV_length l
    have hmk : (Instr.makeSlice 30 (.int .i64 512) (.int .i64 512)).run Tryz.prog wr = .ok (.slice (some ⟨wr.heap.size, 0, none⟩) 512 512) (wr.alloc (.cells (madeCells #[.int .u8 0] 512) 5)) := mk_files wr 512 (by decide)
    have hoB : OwnB (wr.alloc (.cells (madeCells #[.int .u8 0] 512) 5)) wr.heap.size (.slice (some ⟨wr.heap.size, 0, none⟩) 512 512) zeros := own_files wr 512 (by decide)
    have hcB : Chg Non wr (wr.alloc (.cells (madeCells #[.int .u8 0] 512) 5)) := (Chg.refl Non wr).alloc _
    have hovB := hov.chg hcB fun _ _ h => h
    obtain ⟨OA, on, oc, rfl⟩ := hov.shapeH
    have nr := hcw.size
    have HCB := hide hcB
    have HOB := hide hoB
    have HOV := hide hovB
    have HCW := hide hcw
    clear hcB hoB hovB hov hi hen hcw
    go_upto_region 19 with fail
    generalize World.alloc wr _ = wB at HCB HOB HOV ⊢
    clear hmk
    go_wp2_with (refine copy_B rfl _ _ rfl HOB.out rfl rfl HOV.out.rd ?_ ?_ (fun _ => rfl) ?_)
    ·omega
    ·omega
    ·intro w9 ho9 hc9 hsz9
     go_wp2_with fail
     go_ret2
     refine ⟨_, rfl, ?_, ?_⟩
     ·have e9 : encKV l ++ List.drop (sizeKV l) zeros = pageKV l := by
       unfold pageKV zeros
       rw [List.drop_replicate]
      try simp only [List.take_zero, List.nil_append, Nat.zero_add, hel] at ho9
      rw [e9] at ho9
      have h1 := HBE.out
      exact ho9.low (by omega)
     ·have h1 := HBE.out
      exact ((HC.out.trans0 HCW.out).trans0 HCB.out).trans hc9 fun k hk e => by
       have e : k = wr.heap.size := e
       omega
end Go.Proofs.YtliimeoblffigaaGreat

set_option maxRecDepth 100000
namespace Go.Proofs.YtliimeoblffigaaGreat
open Go.RowKit
set_option linter.unusedVariables false
set_option linter.unusedSimpArgs false

theorem ofInt_i64n (a : Nat) (ha : a < 9223372036854775808) : (BitVec.ofInt 64 (a : Int)).toNat = a := by
 rw [BitVec.ofInt_natCast, BitVec.toNat_ofNat]; exact Nat.mod_eq_of_lt (by omega)
theorem i64_or_nat (a b : Nat) (ha : a < 9223372036854775808) (hb : b < 9223372036854775808) : bits .or .i64 (a : Int) (b : Int) = ((a ||| b : Nat) : Int) := by
 have hx : a ||| b < 2 ^ 63 := Nat.or_lt_two_pow (by omega) (by omega)
 show IntKind.i64.wrap ((BitVec.ofInt 64 (a : Int) ||| BitVec.ofInt 64 (b : Int)).toNat : Int) = _
 rw [BitVec.toNat_or, ofInt_i64n a ha, ofInt_i64n b hb, IntKind.wrap_i64]
 omega
theorem or_byte64 (x : Nat) (y : UInt8) (hx : x < 16777216) : bits .or .i64 ((x : Int) * 256) (y.toNat : Int) = ((x * 256 + y.toNat : Nat) : Int) := by
 have hy := y.toNat_lt
 rw [show ((x : Int) * 256) = ((x * 256 : Nat) : Int) by omega, i64_or_nat _ _ (by omega) (by omega)]
 congr 1
 have h := Nat.shiftLeft_add_eq_or_of_lt (i := 8) (b := y.toNat) (by omega) x
 rw [Nat.shiftLeft_eq] at h
 exact h.symm
/-- the cursor at block g has l left; what it reads lies below N -/
structure Cur (w : World) (N g : Nat) (l : List UInt8) : Prop where
 ex : ∃ v, Blk w g 288 #[v, .bool false] ∧ RdB w (fun b => b < N) v l
 le : N ≤ g
section
variable {w w' : World} {N g : Nat} {l : List UInt8} {S : Nat → Prop}
theorem Cur.chg (h : Cur w N g l) (hc : Chg S w w') (hg : ¬ S g) (hN : ∀ b, b < N → ¬ S b) : Cur w' N g l := by
 obtain ⟨v, h1, h2⟩ := h.ex
 exact ⟨⟨v, h1.chg hc hg, h2.chg hc hN⟩, h.le⟩
theorem Cur.c0 (h : Cur w N g l) (hc : Chg Non w w') : Cur w' N g l := h.chg hc (fun h => h) fun _ _ h => h
end
set_option maxHeartbeats 1000000 in
theorem crTake {w : World} {N g n : Nat} {l : List UInt8} (h : Cur w N g l) (hn : n ≤ l.length) (hl : l.length ≤ 100000000) :
  Calls Tryz.prog 193 #[.pointer (some ⟨g, 0, none⟩), .int .i64 (n : Int)] w fun e w' => ∃ u, e = .returned u ∧ OwnB w' w.heap.size u (l.take n) ∧ Cur w' N g (l.drop n) ∧ Chg (fun k => k = g) w w' := by
 obtain ⟨v, hb, hr⟩ := h.ex
 have hle := h.le
 have k0 : w.cell? ⟨g, 0, none⟩ = some v := hb.cell 0
 have f0 := hb.frozen 0
 obtain ⟨s1, hs1, hc1⟩ := run_cut_h hr (j := n) (y := (n : Int)) rfl hn
 obtain ⟨s2, hs2, hc2⟩ := run_cut_l hr (i := n) (x := (n : Int)) rfl hn
 obtain ⟨B1, m1, rfl, _, _⟩ := hs1.shape
 obtain ⟨B2, m2, rfl, _, _⟩ := hs2.shape
 have hlen := fun w' ty => run_len8 hr w' ty
 obtain ⟨L, hL⟩ : ∃ L, L = l.length := ⟨_, rfl⟩
 rw [← hL] at hlen hn hl
 have hd : decide ((L : Int) < (n : Int)) = false := decide_eq_false (by omega)
 have hd2 : ¬ L < n := by omega
 have hsl : (l.drop n).length = l.length - n := List.length_drop
 obtain ⟨DL, hDL⟩ : ∃ DL, DL = (l.drop n).length := ⟨_, rfl⟩
 obtain ⟨TL, hTL⟩ : ∃ TL, TL = (l.take n).length := ⟨_, rfl⟩
 rw [← hDL] at hs2 hc2
 rw [← hTL] at hs1 hc1
 have hb2 := hb.set_ 0 (.slice B2 DL m2)
 simp at hb2
 have hcs : Chg (fun k => k = g) w (w.setCell ⟨g, 0, none⟩ (.slice B2 DL m2)) := Chg.setCell (p := ⟨g, 0, none⟩) (Chg.refl (fun k => k = g) w) (fun _ => rfl) _
 have hs1' := hs1.chg hcs (fun b hb e => by have e : b = g := e; omega)
 have hs2' := hs2.chg hcs (fun b hb e => by have e : b = g := e; omega)
 have hcl := bytesClone hs1' (by rw [List.length_take]; omega)
 have HB2 := hide hb2
 have HS2 := hide hs2'
 have HC := hide hcs
 clear h hb hr hs1 hs2 hL hDL hTL hsl hb2 hcs hs1' hs2'
 go_enter Tryz.func193, Tryz.ntmps193
 go_wp2_with fail
 refine hcl.mono ?_
 rintro e w3 ⟨u, rfl, hu, hc3⟩
 clear hcl
 go_wp2_with fail
 go_ret
 have n1 := HC.out.size
 exact ⟨u, rfl, hu.low n1, ⟨⟨_, HB2.out.c0 hc3, HS2.out.c0 hc3⟩, hle⟩, HC.out.trans0 hc3⟩
theorem crOne {w : World} {N g : Nat} {x : UInt8} {l : List UInt8} (h : Cur w N g (x :: l)) (hl : l.length ≤ 10000000) :
  Calls Tryz.prog 191 #[.pointer (some ⟨g, 0, none⟩)] w fun e w' => e = .returned (.int .i64 (x.toNat : Int)) ∧ Cur w' N g l ∧ Chg (fun k => k = g) w w' := by
 have ht := crTake (n := 1) h (by simp) (by simp; omega)
 have hw : IntKind.i64.wrap (x.toNat : Int) = (x.toNat : Int) := IntWalk.i64_in _ (by have := x.toNat_lt; omega)
 clear h
 go_enter Tryz.func191, Tryz.ntmps191
 go_wp2_with fail
 refine ht.mono ?_
 rintro e w1 ⟨u, rfl, hu, hc, hc1⟩
 have hu : OwnB w1 w.heap.size u [x] := hu
 obtain ⟨A, n, c, rfl⟩ := hu.shapeH
 obtain ⟨g1, rfl, _, _⟩ := hu.head (by simp)
 have hx := hu.cell (i := 0) (by simp)
 have hx : w1.cell? ⟨g1, 0, none⟩ = some (.int .u8 (x.toNat : Int)) := hx.1
 have en : n = 1 := by obtain ⟨_, _, e, _⟩ := hu.shape; injection e
 subst en
 clear ht hu
 go_wp2_with fail
 go_ret
 exact ⟨rfl, hc, hc1⟩
theorem crTwo {w : World} {N g : Nat} {x y : UInt8} {l : List UInt8} (h : Cur w N g (x :: y :: l)) (hl : l.length ≤ 10000000) :
  Calls Tryz.prog 192 #[.pointer (some ⟨g, 0, none⟩)] w fun e w' => e = .returned (.int .i64 ((x.toNat * 256 + y.toNat : Nat) : Int)) ∧ Cur w' N g l ∧ Chg (fun k => k = g) w w' := by
 have ht := crTake (n := 2) h (by simp) (by simp; omega)
 have hxl := x.toNat_lt
 have hyl := y.toNat_lt
 have hw : IntKind.i64.wrap (x.toNat : Int) = (x.toNat : Int) := IntWalk.i64_in _ (by omega)
 have hw2 : IntKind.i64.wrap (y.toNat : Int) = (y.toNat : Int) := IntWalk.i64_in _ (by omega)
 have hw3 : IntKind.i64.wrap ((x.toNat : Int) * 256) = (x.toNat : Int) * 256 := IntWalk.i64_in _ (by omega)
 clear h
 go_enter Tryz.func192, Tryz.ntmps192
 go_wp2_with fail
 refine ht.mono ?_
 rintro e w1 ⟨u, rfl, hu, hc, hc1⟩
 have hu : OwnB w1 w.heap.size u [x, y] := hu
 obtain ⟨A, n, c, rfl⟩ := hu.shapeH
 obtain ⟨g1, rfl, _, _⟩ := hu.head (by simp)
 have hx := hu.cell (i := 0) (by simp)
 have hx : w1.cell? ⟨g1, 0, none⟩ = some (.int .u8 (x.toNat : Int)) := hx.1
 have hy := hu.cell (i := 1) (by simp)
 have hy : w1.cell? ⟨g1, 1, none⟩ = some (.int .u8 (y.toNat : Int)) := hy.1
 have en : n = 2 := by obtain ⟨_, _, e, _⟩ := hu.shape; injection e
 subst en
 clear ht hu
 have HCC := hide (And.intro hc hc1)
 clear hc hc1
 go_upto_region 2 with fail
 go_quiet (fail)
 go_wp2_with fail
 go_ret
 rw [or_byte64 _ _ (by omega)]
 exact ⟨rfl, HCC.out.1.c0 ((Chg.refl Non w1).drewN _), HCC.out.2.drewN _⟩
end Go.Proofs.YtliimeoblffigaaGreat

