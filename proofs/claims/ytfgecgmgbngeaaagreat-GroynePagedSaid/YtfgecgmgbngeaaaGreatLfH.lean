/- Pieces of lists of byte lists; the walk of leaf.Node's part, of a leaf. -/
import Derived.Test.YtfgecgmgbngeaaaGreatLfG
set_option maxRecDepth 100000
namespace Go.Proofs.YtfgecgmgbngeaaaGreat
open Go.RowKit
set_option linter.unusedVariables false
set_option linter.unusedSimpArgs false

theorem size_bbE (w : World) : (sizeOf (Tryz.prog.elem 22)).run Tryz.prog w = .ok 1 w := by kernel_rfl
theorem under_elemBB : Tryz.prog.underlying 22 = some (.slice (Tryz.prog.elem 22)) := by kernel_rfl
theorem RdBB.piece {w : World} {F : Nat → Prop} {A : Option Addr} {c i j : Nat} {ll : List (List UInt8)} (h : RdBB w F (.slice A ll.length c) ll) (hi : i ≤ j) (hj : j ≤ ll.length) :
    RdBB w F (.slice (if c = i then A else A.map (·.add i)) (j - i) (c - i)) ((ll.drop i).take (j - i)) := by
  obtain ⟨vs, h1, h2, h3⟩ := h
  have hp := RdV.piece h2 hi hj
  simp only [Nat.mul_one] at hp
  have hl : ((ll.drop i).take (j - i)).length = j - i := by rw [List.length_take, List.length_drop]; omega
  refine ⟨(vs.drop i).take (j - i), by rw [hl, List.length_take, List.length_drop]; omega, by rw [hl]; exact hp, fun k x l hx hl => ?_⟩
  rw [List.getElem?_take] at hx hl
  split at hx
  · rename_i hk
    rw [if_pos hk] at hl
    rw [List.getElem?_drop] at hx hl
    exact h3 _ _ _ hx hl
  · cases hx
/-- 's[i:j]' -/
theorem run_cutBB {w : World} {F : Nat → Prop} {A : Option Addr} {n c i j : Nat} {ll : List (List UInt8)} (h : RdBB w F (.slice A n c) ll) (hi : i ≤ j) (hj : j ≤ ll.length) :
    ∃ A' c', RdBB w F (.slice A' (j - i) c') ((ll.drop i).take (j - i)) ∧ ∀ w' : World, (Instr.slice 22 (.slice A n c) (some (.int .i64 (i : Int))) (some (.int .i64 (j : Int))) none).run Tryz.prog w' = .ok (.slice A' (j - i) c') w' := by
  obtain ⟨_, _, e, hc, hm⟩ := h.shape
  injection e with e1 e2 e3
  subst e1; subst e2; subst e3
  refine ⟨_, _, h.piece hi hj, fun w' => ?_⟩
  rw [run_slice_lh (P := Tryz.prog) w' 22 A ll.length c under_elemBB .i64 .i64 (i : Int) (j : Int) (by omega) (by omega) (by omega), size_bbE]
  simp only [Result.andThen, sliced, Int.toNat_natCast, Nat.mul_one]
/-- 's[i:]' -/
theorem run_cutBB_l {w : World} {F : Nat → Prop} {A : Option Addr} {n c i : Nat} {ll : List (List UInt8)} (h : RdBB w F (.slice A n c) ll) (hi : i ≤ ll.length) :
    ∃ A' n' c', RdBB w F (.slice A' n' c') (ll.drop i) ∧ ∀ w' : World, (Instr.slice 22 (.slice A n c) (some (.int .i64 (i : Int))) none none).run Tryz.prog w' = .ok (.slice A' n' c') w' := by
  obtain ⟨_, _, e, hc, hm⟩ := h.shape
  injection e with e1 e2 e3
  subst e1; subst e2; subst e3
  have hp := h.piece hi (Nat.le_refl _)
  rw [List.take_of_length_le (by simp)] at hp
  refine ⟨_, _, _, hp, fun w' => ?_⟩
  rw [run_slice_l (P := Tryz.prog) w' 22 A ll.length c under_elemBB .i64 (i : Int) (by omega) (by omega), size_bbE]
  simp only [Result.andThen, sliced, Int.toNat_natCast, Nat.mul_one]
/-- the bounds that the walks of leaves want -/
structure Lim (ks vs : List (List UInt8)) : Prop where
  n : ks.length ≤ 1000000
  e : vs.length = ks.length
  k : ∀ x ∈ ks, x.length ≤ 1000000
  v : ∀ x ∈ vs, x.length ≤ 1000000
theorem Lim.piece {ks vs : List (List UInt8)} (h : Lim ks vs) {i j : Nat} (hi : i ≤ j) (hj : j ≤ ks.length) : Lim ((ks.drop i).take (j - i)) ((vs.drop i).take (j - i)) :=
  ⟨by rw [List.length_take, List.length_drop]; have := h.n; omega, by rw [List.length_take, List.length_take, List.length_drop, List.length_drop, h.e], fun x hx => h.k x (List.mem_of_mem_drop (List.mem_of_mem_take hx)), fun x hx => h.v x (List.mem_of_mem_drop (List.mem_of_mem_take hx))⟩

set_option maxHeartbeats 4000000 in
theorem lfPart {w : World} {F : Nat → Prop} {KA VA : Option Addr} {kn kc vn vc i j : Nat} {ks vs : List (List UInt8)} (hk : RdBB w F (.slice KA kn kc) ks) (hv : RdBB w F (.slice VA vn vc) vs) (hL : Lim ks vs) (hF : ∀ b, F b → b < w.heap.size) (hi : i ≤ j) (hj : j ≤ ks.length) :
    Calls Tryz.prog 48 #[.agg #[.bool true, .slice KA kn kc, .slice VA vn vc, .slice none 0 0], .int .i64 (i : Int), .int .i64 (j : Int)] w fun e w' => ∃ kA kn' kc' vA vn' vc', e = .returned (.agg #[.bool true, .slice kA kn' kc', .slice vA vn' vc', .slice none 0 0]) ∧ RdBB w' (fun b => (F b ∨ w.heap.size ≤ b) ∧ b < w'.heap.size) (.slice kA kn' kc') ((ks.drop i).take (j - i)) ∧ RdBB w' (fun b => (F b ∨ w.heap.size ≤ b) ∧ b < w'.heap.size) (.slice vA vn' vc') ((vs.drop i).take (j - i)) ∧ Chg Non w w' := by
  obtain ⟨PA, pc, hpk, hck⟩ := run_cutBB hk hi hj
  obtain ⟨QA, qc, hqv, hcv⟩ := run_cutBB hv hi (by rw [hL.e]; exact hj)
  obtain ⟨m, hm⟩ : ∃ m, m = j - i := ⟨_, rfl⟩
  rw [← hm] at hpk hck hqv hcv
  have hr := Blk.new (w.alloc (.cells #[.bool true, .slice KA kn kc, .slice VA vn vc, .slice none 0 0] 65)) 65 #[.bool false, .slice none 0 0, .slice none 0 0, .slice none 0 0]
  have hb := Blk.new w 65 #[.bool true, .slice KA kn kc, .slice VA vn vc, .slice none 0 0]
  have hcb := (Chg.refl Non w).alloc (.cells #[.bool true, .slice KA kn kc, .slice VA vn vc, .slice none 0 0] 65)
  have hna : (w.alloc (.cells #[.bool true, .slice KA kn kc, .slice VA vn vc, .slice none 0 0] 65)).heap.size = w.heap.size + 1 := Array.size_push ..
  have hcr := (Chg.refl Non (w.alloc (.cells #[.bool true, .slice KA kn kc, .slice VA vn vc, .slice none 0 0] 65))).alloc (.cells #[.bool false, .slice none 0 0, .slice none 0 0, .slice none 0 0] 65)
  have hnr : ((w.alloc (.cells #[.bool true, .slice KA kn kc, .slice VA vn vc, .slice none 0 0] 65)).alloc (.cells #[.bool false, .slice none 0 0, .slice none 0 0, .slice none 0 0] 65)).heap.size = (w.alloc (.cells #[.bool true, .slice KA kn kc, .slice VA vn vc, .slice none 0 0] 65)).heap.size + 1 := Array.size_push ..
  rw [hna] at hr hnr
  have hLp := hL.piece hi hj
  rw [← hm] at hLp ⊢
  go_enter Tryz.func48, Tryz.ntmps48
  go_upto_region 1 with fail
  obtain ⟨N, hN⟩ : ∃ N, N = w.heap.size := ⟨_, rfl⟩
  have hc02 := hcb.trans0 hcr
  have hb2 := hb.c0 hcr
  have hpk2 := hpk.c0 hc02
  have hqv2 := hqv.c0 hc02
  rw [← hN] at hb2 hr hnr ⊢
  have HNN := hide hN
  have hHF : ∀ b, F b → b < N := fun b hb => by rw [hN]; exact hF b hb
  clear hb hcb hna hcr hN hk hv hpk hqv hi hj hm hL
  generalize World.alloc (World.alloc w _) _ = w2 at hb2 hr hnr hpk2 hqv2 hc02 ⊢
  have HC02 := hide hc02
  have HR := hide hr
  have HB := hide hb2
  have HP := hide (And.intro hpk2 hqv2)
  have HLp := hide hLp
  have HNR := hide hnr
  have HCK := hide (And.intro hck hcv)
  clear hb2 hr hnr hc02 hpk2 hqv2 hLp hck hcv
  refine wp_region_T (Chg Non w2) 9 (by kernel_rfl) ?_
  have HW0 := hide ((Chg.refl Non w2).drew)
  generalize World.drew w2 = x0 at HW0 ⊢
  refine AnyT.take (i := 0) (v := ?_) rfl (by kernel_rfl) (by kernel_rfl) (fun _ _ _ h => h) (by kernel_rfl) (by kernel_rfl) (Or.inl ⟨by rfl, ?_⟩) HW0.out ?_
  rotate_left
  · (intro w9 h9; go_simp; try with_reducible rfl)
  try simp only [List.getElem_toArray, List.getElem_cons_succ, List.getElem_cons_zero, Act.put, List.setIfInBounds_toArray, List.set_cons_zero, List.set_cons_succ]
  refine AnyT.take (i := 1) (v := ?_) rfl (by kernel_rfl) (by kernel_rfl) (fun _ _ _ h => h) (by kernel_rfl) (by kernel_rfl) (Or.inl ⟨by rfl, ?_⟩) HW0.out ?_
  rotate_left
  · (intro w9 h9; have y1 : w9.cell? ⟨N, 0, none⟩ = some (.bool true) := (HB.out.c0 h9).cell 0; go_simp; try with_reducible rfl)
  try simp only [List.getElem_toArray, List.getElem_cons_succ, List.getElem_cons_zero, Act.put, List.setIfInBounds_toArray, List.set_cons_zero, List.set_cons_succ]
  refine AnyT.take (i := 2) (v := ?_) rfl (by kernel_rfl) (by kernel_rfl) (fun _ _ _ h => h) (by kernel_rfl) (by kernel_rfl) (Or.inl ⟨by rfl, ?_⟩) HW0.out ?_
  rotate_left
  · (intro w9 h9; go_simp; try with_reducible rfl)
  try simp only [List.getElem_toArray, List.getElem_cons_succ, List.getElem_cons_zero, Act.put, List.setIfInBounds_toArray, List.set_cons_zero, List.set_cons_succ]
  refine AnyT.take (i := 3) (v := ?_) rfl (by kernel_rfl) (by kernel_rfl) (fun _ _ _ h => h) (by kernel_rfl) (by kernel_rfl) (Or.inl ⟨by rfl, ?_⟩) HW0.out ?_
  rotate_left
  · (intro w9 h9; have y1 : w9.cell? ⟨N, 1, none⟩ = some (.slice KA kn kc) := (HB.out.c0 h9).cell 1; go_simp; try with_reducible rfl)
  try simp only [List.getElem_toArray, List.getElem_cons_succ, List.getElem_cons_zero, Act.put, List.setIfInBounds_toArray, List.set_cons_zero, List.set_cons_succ]
  refine AnyT.take (i := 4) (v := ?_) rfl (by kernel_rfl) (by kernel_rfl) (fun _ _ _ h => h) (by kernel_rfl) (by kernel_rfl) (Or.inl ⟨by rfl, ?_⟩) HW0.out ?_
  rotate_left
  · (intro w9 h9; go_simp; try with_reducible rfl)
  try simp only [List.getElem_toArray, List.getElem_cons_succ, List.getElem_cons_zero, Act.put, List.setIfInBounds_toArray, List.set_cons_zero, List.set_cons_succ]
  refine AnyT.take (i := 5) (v := ?_) rfl (by kernel_rfl) (by kernel_rfl) (fun _ _ _ h => h) (by kernel_rfl) (by kernel_rfl) (Or.inl ⟨by rfl, ?_⟩) HW0.out ?_
  rotate_left
  · (intro w9 h9; go_simp; try with_reducible rfl)
  try simp only [List.getElem_toArray, List.getElem_cons_succ, List.getElem_cons_zero, Act.put, List.setIfInBounds_toArray, List.set_cons_zero, List.set_cons_succ]
  refine AnyT.take (i := 6) (v := ?_) rfl (by kernel_rfl) (by kernel_rfl) (fun _ _ _ h => h) (by kernel_rfl) (by kernel_rfl) (Or.inl ⟨by rfl, ?_⟩) HW0.out ?_
  rotate_left
  · (intro w9 h9; have y1 := HCK.out.1; go_simp; try with_reducible rfl)
  try simp only [List.getElem_toArray, List.getElem_cons_succ, List.getElem_cons_zero, Act.put, List.setIfInBounds_toArray, List.set_cons_zero, List.set_cons_succ]
  refine AnyT.take (i := 7) (v := ?_) rfl (by kernel_rfl) (by kernel_rfl) (fun _ _ _ h => h) (by kernel_rfl) (by kernel_rfl) (Or.inl ⟨by rfl, ?_⟩) HW0.out ?_
  rotate_left
  · (intro w9 h9; go_simp; try with_reducible rfl)
  try simp only [List.getElem_toArray, List.getElem_cons_succ, List.getElem_cons_zero, Act.put, List.setIfInBounds_toArray, List.set_cons_zero, List.set_cons_succ]
  refine AnyT.one (i := 8) (by kernel_rfl) rfl (fun K hK => ?_)
  rw [if_pos (by rfl)]
  try simp only [List.getElem_toArray, List.getElem_cons_succ, List.getElem_cons_zero, Act.put, List.setIfInBounds_toArray, List.set_cons_zero, List.set_cons_succ]
  go_simp
  have hd1 := (Chg.refl Non x0).alloc (.cells #[.bool false, .slice none 0 0, .slice none 0 0, .slice none 0 0] 65)
  have hb1 := Blk.new x0 65 #[.bool false, .slice none 0 0, .slice none 0 0, .slice none 0 0]
  have ngx := HW0.out.size
  obtain ⟨g, hg⟩ : ∃ g, g = x0.heap.size := ⟨_, rfl⟩
  rw [← hg] at hb1 ⊢
  have HGN := hide (show w2.heap.size ≤ g by omega)
  generalize hww : World.alloc x0 _ = x1
  rw [show x0.alloc (.cells #[.bool false, .slice none 0 0, .slice none 0 0, .slice none 0 0] 65) = x1 from hww] at hd1 hb1
  clear hww hg ngx
  have HW1 := hide (HW0.out.trans0 hd1)
  have HG1 := hide hb1
  refine hK.out _ _ (fun _ => HW1.out) ?_
  clear hd1 hb1 HW0
  clear hK K
  try simp only [List.getElem_toArray, List.getElem_cons_succ, List.getElem_cons_zero, Act.put, List.setIfInBounds_toArray, List.set_cons_zero, List.set_cons_succ]
  refine AnyT.one (i := 9) (by kernel_rfl) rfl (fun K hK => ?_)
  rw [if_pos (by rfl)]
  try simp only [List.getElem_toArray, List.getElem_cons_succ, List.getElem_cons_zero, Act.put, List.setIfInBounds_toArray, List.set_cons_zero, List.set_cons_succ]
  have y0 : x1.cell? ⟨g, 0, none⟩ = some (.bool false) := HG1.out.cell 0
  have y1 : x1.cell? ⟨g, 1, none⟩ = some (.slice none 0 0) := HG1.out.cell 1
  have y2 : x1.cell? ⟨g, 2, none⟩ = some (.slice none 0 0) := HG1.out.cell 2
  have y3 : x1.cell? ⟨g, 3, none⟩ = some (.slice none 0 0) := HG1.out.cell 3
  have z0 := HG1.out.frozen 0
  have z1 := HG1.out.frozen 1
  have z2 := HG1.out.frozen 2
  have z3 := HG1.out.frozen 3
  have hr8 := (((HG1.out.set_ 0 (.bool true)).set_ 1 (.slice PA m pc)).set_ 2 (.slice none 0 0)).set_ 3 (.slice none 0 0)
  simp at hr8
  have hc8 : Chg (fun k => k = g) x1 ((((x1.setCell ⟨g, 0, none⟩ (.bool true)).setCell ⟨g, 1, none⟩ (.slice PA m pc)).setCell ⟨g, 2, none⟩ (.slice none 0 0)).setCell ⟨g, 3, none⟩ (.slice none 0 0)) := Chg.setCell (p := ⟨g, 3, none⟩) (Chg.setCell (p := ⟨g, 2, none⟩) (Chg.setCell (p := ⟨g, 1, none⟩) (Chg.setCell (p := ⟨g, 0, none⟩) (Chg.refl (fun k => k = g) x1) (fun _ => rfl) _) (fun _ => rfl) _) (fun _ => rfl) _) (fun _ => rfl) _
  have HGz := hide hr8
  have HWz := hide (HW1.out.trans hc8 fun b hb e => by have e : b = g := e; have := HGN.out; omega)
  clear hr8 hc8
  go_simp
  refine hK.out _ _ (fun h => absurd h (by decide)) ?_
  clear HG1 HW1 y0 y1 y2 y3 z0 z1 z2 z3
  generalize World.setCell _ _ _ = x3 at HGz HWz ⊢
  clear hK K
  try simp only [List.getElem_toArray, List.getElem_cons_succ, List.getElem_cons_zero, Act.put, List.setIfInBounds_toArray, List.set_cons_zero, List.set_cons_succ]
  refine AnyT.nil (by kernel_rfl) ?_
  have HC12 := hide (HC02.out.trans0 HWz.out)
  have q0 : x3.cell? ⟨g, 0, none⟩ = some (.bool true) := HGz.out.cell 0
  have q2 : x3.cell? ⟨g, 2, none⟩ = some (.slice none 0 0) := HGz.out.cell 2
  have fq2 := HGz.out.frozen 2
  have hbx := HB.out.c0 HWz.out
  have p0 : x3.cell? ⟨N, 0, none⟩ = some (.bool true) := hbx.cell 0
  have p2 : x3.cell? ⟨N, 2, none⟩ = some (.slice VA vn vc) := hbx.cell 2
  have hcv := HCK.out.2
  have hg4 := HGz.out.set_ 2 (.slice QA m qc)
  simp at hg4
  have hc4 : Chg (fun k => k = g) x3 (x3.setCell ⟨g, 2, none⟩ (.slice QA m qc)) := Chg.setCell (p := ⟨g, 2, none⟩) (Chg.refl (fun k => k = g) x3) (fun _ => rfl) _
  have HG4 := hide hg4
  have HC4 := hide hc4
  have hgN := HGN.out
  have hnr := HNR.out
  clear hbx hg4 hc4
  go_upto_region 5 with fail
  generalize World.setCell x3 _ _ = w4 at HG4 HC4 ⊢
  have h0 : w4.cell? ⟨g, 0, none⟩ = some (.bool true) := HG4.out.cell 0
  have h1 : w4.cell? ⟨g, 1, none⟩ = some (.slice PA m pc) := HG4.out.cell 1
  have h2 : w4.cell? ⟨g, 2, none⟩ = some (.slice QA m qc) := HG4.out.cell 2
  have h3 : w4.cell? ⟨g, 3, none⟩ = some (.slice none 0 0) := HG4.out.cell 3
  have HC24 := hide (HWz.out.trans HC4.out fun b hb e => by have e : b = g := e; omega)
  have hPl := HP.out.1.lt
  have htw := lfTwin ((HP.out.1.lt.mono fun b hb => hb).c0 HC24.out) ((HP.out.2.lt.mono fun b hb => hb).c0 HC24.out) HLp.out.n (by rw [HLp.out.e]; exact HLp.out.n) ⟨HLp.out.k, HLp.out.v⟩
  have n4 := HC24.out.size
  clear hPl q0 q2 fq2 p0 p2 hcv
  go_wp2_with fail
  refine htw.mono ?_
  rintro e w5 ⟨TA, tn, tc, UA, un, uc, rfl, hT, hU, hc5⟩
  have HT := hide (And.intro hT hU)
  have n5 := hc5.size
  have HC25 := hide (HC24.out.trans0 hc5)
  have hr5 := HR.out.c0 HC25.out
  have r0 : w5.cell? ⟨N + 1, 0, none⟩ = some (.bool false) := hr5.cell 0
  have r1 : w5.cell? ⟨N + 1, 1, none⟩ = some (.slice none 0 0) := hr5.cell 1
  have r2 : w5.cell? ⟨N + 1, 2, none⟩ = some (.slice none 0 0) := hr5.cell 2
  have r3 : w5.cell? ⟨N + 1, 3, none⟩ = some (.slice none 0 0) := hr5.cell 3
  have f0 := hr5.frozen 0
  have f1 := hr5.frozen 1
  have f2 := hr5.frozen 2
  have f3 := hr5.frozen 3
  have hr8 := (((hr5.set_ 0 (.bool true)).set_ 1 (.slice TA tn tc)).set_ 2 (.slice UA un uc)).set_ 3 (.slice none 0 0)
  simp at hr8
  have hc8 : Chg (fun k => k = N + 1) w5 ((((w5.setCell ⟨N + 1, 0, none⟩ (.bool true)).setCell ⟨N + 1, 1, none⟩ (.slice TA tn tc)).setCell ⟨N + 1, 2, none⟩ (.slice UA un uc)).setCell ⟨N + 1, 3, none⟩ (.slice none 0 0)) :=
    Chg.setCell (p := ⟨N + 1, 3, none⟩) (Chg.setCell (p := ⟨N + 1, 2, none⟩) (Chg.setCell (p := ⟨N + 1, 1, none⟩) (Chg.setCell (p := ⟨N + 1, 0, none⟩) (Chg.refl (fun k => k = N + 1) w5) (fun _ => rfl) _) (fun _ => rfl) _) (fun _ => rfl) _) (fun _ => rfl) _
  have HR8 := hide hr8
  have HC8 := hide hc8
  clear htw hT hU hc5 hr5 hr8 hc8 h0 h1 h2 h3
  go_wp2_with fail
  generalize World.setCell _ _ _ = w9 at HR8 HC8 ⊢
  have q0 := HR8.out.cell 0
  have q1 := HR8.out.cell 1
  have q2 := HR8.out.cell 2
  have q3 := HR8.out.cell 3
  simp at q0 q1 q2 q3
  have n9 := HC8.out.size
  have hNw := HNN.out
  refine bodyPost_ret (v := .agg #[.bool true, .slice TA tn tc, .slice UA un uc, .slice none 0 0]) (by simp [results, Tryz.results48, go_sem, q0, q1, q2, q3]) rfl ⟨TA, tn, tc, UA, un, uc, rfl, ?_, ?_, ?_⟩
  · refine (HT.out.1.chg HC8.out fun b hb e => ?_).mono fun b hb => ⟨?_, by omega⟩
    · have e : b = N + 1 := e
      rcases hb.1 with h | h
      · have := hHF b h.1; omega
      · omega
    · rcases hb.1 with h | h
      · exact .inl h.1
      · exact .inr (by omega)
  · refine (HT.out.2.chg HC8.out fun b hb e => ?_).mono fun b hb => ⟨?_, by omega⟩
    · have e : b = N + 1 := e
      rcases hb.1 with h | h
      · have := hHF b h.1; omega
      · omega
    · rcases hb.1 with h | h
      · exact .inl h.1
      · exact .inr (by omega)
  · exact (HC02.out.trans0 HC25.out).trans HC8.out fun b hb e => by have e : b = N + 1 := e; omega
end Go.Proofs.YtfgecgmgbngeaaaGreat
