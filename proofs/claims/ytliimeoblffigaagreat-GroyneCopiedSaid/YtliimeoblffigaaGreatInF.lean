/- The walk of leaf's part, of any node. -/
import Derived.Test.YtliimeoblffigaaGreatInE
import Derived.Deep.RegionHeld3
open List renaming getElem_toArray → lz1, getElem_cons_succ → lz2, getElem_cons_zero → lz3, setIfInBounds_toArray → lz4, set_cons_zero → lz5, set_cons_succ → lz6
set_option linter.unusedVariables false
set_option linter.unusedSimpArgs false
set_option maxRecDepth 100000
namespace Go.Proofs.YtliimeoblffigaaGreat
open Go.RowKit
set_option linter.unusedVariables false
set_option linter.unusedSimpArgs false

theorem size_bbE (w : World) : (sizeOf (Tryz.prog.elem 122)).run Tryz.prog w = .ok 1 w := by kernel_rfl
theorem under_elemBB : Tryz.prog.underlying 122 = some (.slice (Tryz.prog.elem 122)) := by kernel_rfl
theorem RdBB.piece {w : World} {F : Nat → Prop} {A : Option Addr} {c i j : Nat} {ll : List (List UInt8)} (h : RdBB w F (.slice A ll.length c) ll) (hi : i ≤ j) (hj : j ≤ ll.length) :
  RdBB w F (.slice (if c = i then A else A.map (·.add i)) (j - i) (c - i)) ((ll.drop i).take (j - i)) := by
 obtain ⟨vs, h1, h2, h3⟩ := h
 have hp := RdV.piece h2 hi hj
 simp only [Nat.mul_one] at hp
 have hl : ((ll.drop i).take (j - i)).length = j - i := by rw [List.length_take, List.length_drop]; omega
 refine ⟨(vs.drop i).take (j - i), by rw [hl, List.length_take, List.length_drop]; omega, by rw [hl]; exact hp, fun k x l hx hl => ?_⟩
 rw [List.getElem?_take] at hx hl
 split at hx
 ·rename_i hk
  rw [if_pos hk] at hl
  rw [List.getElem?_drop] at hx hl
  exact h3 _ _ _ hx hl
 ·cases hx
/-- 's[i:j]' -/
theorem run_cutBB {w : World} {F : Nat → Prop} {A : Option Addr} {n c i j : Nat} {ll : List (List UInt8)} (h : RdBB w F (.slice A n c) ll) (hi : i ≤ j) (hj : j ≤ ll.length) :
  ∃ A' c', RdBB w F (.slice A' (j - i) c') ((ll.drop i).take (j - i)) ∧ ∀ w' : World, (Instr.slice 122 (.slice A n c) (some (.int .i64 (i : Int))) (some (.int .i64 (j : Int))) none).run Tryz.prog w' = .ok (.slice A' (j - i) c') w' := by
 obtain ⟨_, _, e, hc, hm⟩ := h.shape
 injection e with e1 e2 e3
 subst e1; subst e2; subst e3
 refine ⟨_, _, h.piece hi hj, fun w' => ?_⟩
 rw [run_slice_lh (P := Tryz.prog) w' 122 A ll.length c under_elemBB .i64 .i64 (i : Int) (j : Int) (by omega) (by omega) (by omega), size_bbE]
 simp only [Result.andThen, sliced, Int.toNat_natCast, Nat.mul_one]
theorem RdI.piece {w : World} {F : Nat → Prop} {A : Option Addr} {n c i j : Nat} {l : List Int} (h : RdI w F (.slice A n c) l) (hi : i ≤ j) (hj : j ≤ l.length) :
  ∃ A' c', RdI w F (.slice A' (j - i) c') ((l.drop i).take (j - i)) ∧ ∀ w' : World, (Instr.slice 123 (.slice A n c) (some (.int .i64 (i : Int))) (some (.int .i64 (j : Int))) none).run Tryz.prog w' = .ok (.slice A' (j - i) c') w' := by
 obtain ⟨_, _, e, hc, hm⟩ := h.shape
 injection e with e1 e2 e3
 subst e1; subst e2; subst e3
 have h' : RdV w F 1 (.slice A l.length c) l.length (ivs l) := h
 have hp := RdV.piece h' hi hj
 simp only [Nat.mul_one] at hp
 have hl : ((l.drop i).take (j - i)).length = j - i := by rw [List.length_take, List.length_drop]; omega
 have e2 : ((ivs l).drop i).take (j - i) = ivs ((l.drop i).take (j - i)) := by simp [ivs, List.map_take, List.map_drop]
 rw [e2] at hp
 refine ⟨_, _, by unfold RdI; rw [hl]; exact hp, fun w' => ?_⟩
 rw [run_slice_lh (P := Tryz.prog) w' 123 A l.length c under_ii .i64 .i64 (i : Int) (j : Int) (by omega) (by omega) (by omega), size_ii]
 simp only [Result.andThen, sliced, Int.toNat_natCast, Nat.mul_one]
theorem piece_len {α : Type} {l : List α} {i j : Nat} (hj : j ≤ l.length) : ((l.drop i).take (j - i)).length = j - i := by rw [List.length_take, List.length_drop]; omega
theorem RdBB.nil9 (w : World) (F : Nat → Prop) : RdBB w F (.slice none 0 0) [] := ((OwnBB.nil_ w 0 F).rd).mono fun b hb => by
 rcases hb.1 with h | h
 ·exact h
 ·cases h
set_option maxHeartbeats 8000000 in
theorem lfPart {w : World} {F : Nat → Prop} {KA VA NA : Option Addr} {kn kc vn vc nn nc i j : Nat} {ks : List (List UInt8)} {vs : List (List UInt8)} (hk : RdBB w F (.slice KA kn kc) ks) (hv : RdBB w F (.slice VA vn vc) vs) (hvl : vs.length = ks.length) (hel : (∀ x ∈ ks, x.length ≤ 1000000) ∧ ∀ x ∈ vs, x.length ≤ 1000000) (hkl : ks.length ≤ 10000) (hi : i ≤ j) (hj : j ≤ ks.length) :
  Calls Tryz.prog 188 #[.agg #[.bool true, .slice KA kn kc, .slice VA vn vc, .slice NA nn nc], .int .i64 (i : Int), .int .i64 (j : Int)] w fun e w' => ∃ kA kn' kc' vA vn' vc' nA nn' nc', e = .returned (.agg #[.bool true, .slice kA kn' kc', .slice vA vn' vc', .slice nA nn' nc']) ∧ Th3 w' (fun b => (F b ∧ b < w.heap.size) ∨ w.heap.size ≤ b) w.heap.size (.slice kA kn' kc') (.slice vA vn' vc') (.slice nA nn' nc') ((ks.drop i).take (j - i)) ((vs.drop i).take (j - i)) [] ∧ Chg Non w w' := by
 obtain ⟨PA, pc, hpk, hck⟩ := run_cutBB hk hi hj
 obtain ⟨QA, qc, hqv, hcv⟩ := run_cutBB hv hi (by omega)
 have hpl := piece_len (i := i) hj
 obtain ⟨m, hm⟩ : ∃ m, m = j - i := ⟨_, rfl⟩
 obtain ⟨m1, hm1⟩ : ∃ m1, m1 = j + 1 - i := ⟨_, rfl⟩
 rw [← hm] at hpk hck hqv hcv hpl

 have hLp : ((ks.drop i).take m).length ≤ 1000000 ∧ ((vs.drop i).take m).length ≤ 1000000 ∧ True := ⟨by omega, by rw [List.length_take, List.length_drop]; omega, trivial⟩
 have hw9 : IntKind.i64.wrap ((j : Int) + 1) = ((j + 1 : Nat) : Int) := by rw [IntWalk.i64_in _ (by omega)]; omega
 have hr := Blk.new (w.alloc (.cells #[.bool true, .slice KA kn kc, .slice VA vn vc, .slice NA nn nc] 125)) 125 #[.bool false, .slice none 0 0, .slice none 0 0, .slice none 0 0]
 have hb := Blk.new w 125 #[.bool true, .slice KA kn kc, .slice VA vn vc, .slice NA nn nc]
 have hcb := (Chg.refl Non w).alloc (.cells #[.bool true, .slice KA kn kc, .slice VA vn vc, .slice NA nn nc] 125)
 have hna := sizeAl' w (.cells #[.bool true, .slice KA kn kc, .slice VA vn vc, .slice NA nn nc] 125)
 have hcr := (Chg.refl Non (w.alloc (.cells #[.bool true, .slice KA kn kc, .slice VA vn vc, .slice NA nn nc] 125))).alloc (.cells #[.bool false, .slice none 0 0, .slice none 0 0, .slice none 0 0] 125)
 have hnr := sizeAl' (w.alloc (.cells #[.bool true, .slice KA kn kc, .slice VA vn vc, .slice NA nn nc] 125)) (.cells #[.bool false, .slice none 0 0, .slice none 0 0, .slice none 0 0] 125)
 rw [hna] at hr hnr
 have HM := hide (And.intro hm hm1)
 have HEL := hide hel
 clear hpl hm1
 go_enter Tryz.func188, Tryz.ntmps188
 go_upto_region 1 with fail
 obtain ⟨N, hN⟩ : ∃ N, N = w.heap.size := ⟨_, rfl⟩
 have hc02 := hcb.trans0 hcr
 have hb2 := hb.c0 hcr
 have hpk2 := hpk.lt.c0 hc02
 have hqv2 := hqv.lt.c0 hc02
 rw [← hN] at hb2 hr hnr hpk2 hqv2 ⊢
 have HNN := hide hN
 clear hb hcb hna hcr hN hk hv hpk hqv hi hj hm hel hvl hkl
 generalize World.alloc (World.alloc w _) _ = w2 at hb2 hr hnr hpk2 hqv2 hc02 ⊢
 have HC02 := hide hc02
 have HR := hide hr
 have HB := hide hb2
 have HP := hide (And.intro hpk2 hqv2)
 have HLp := hide hLp
 have HNR := hide hnr
 have HCK := hide (And.intro hck hcv)
 have HW9 := hide hw9
 clear hb2 hr hnr hc02 hpk2 hqv2 hLp hck hcv hw9
 refine wp_region_T (Chg Non w2) 9 (by kernel_rfl) ?_
 have HW0 := hide ((Chg.refl Non w2).drew)
 generalize World.drew w2 = x0 at HW0 ⊢
 refine AnyT.take (i := 0) (v := ?_) rfl (by kernel_rfl) (by kernel_rfl) (fun _ _ _ h => h) (by kernel_rfl) (by kernel_rfl) (Or.inl ⟨by rfl, ?_⟩) HW0.out ?_
 rotate_left
 ·(intro w9 h9; go_simp; try with_reducible rfl)
 try simp only [lz1, lz2, lz3, Act.put, lz4, lz5, lz6]
 refine AnyT.take (i := 1) (v := ?_) rfl (by kernel_rfl) (by kernel_rfl) (fun _ _ _ h => h) (by kernel_rfl) (by kernel_rfl) (Or.inl ⟨by rfl, ?_⟩) HW0.out ?_
 rotate_left
 ·(intro w9 h9; have y1 : w9.cell? ⟨N, 0, none⟩ = some (.bool true) := (HB.out.c0 h9).cell 0; go_simp; try with_reducible rfl)
 try simp only [lz1, lz2, lz3, Act.put, lz4, lz5, lz6]
 refine AnyT.take (i := 2) (v := ?_) rfl (by kernel_rfl) (by kernel_rfl) (fun _ _ _ h => h) (by kernel_rfl) (by kernel_rfl) (Or.inl ⟨by rfl, ?_⟩) HW0.out ?_
 rotate_left
 ·(intro w9 h9; go_simp; try with_reducible rfl)
 try simp only [lz1, lz2, lz3, Act.put, lz4, lz5, lz6]
 refine AnyT.take (i := 3) (v := ?_) rfl (by kernel_rfl) (by kernel_rfl) (fun _ _ _ h => h) (by kernel_rfl) (by kernel_rfl) (Or.inl ⟨by rfl, ?_⟩) HW0.out ?_
 rotate_left
 ·(intro w9 h9; have y1 : w9.cell? ⟨N, 1, none⟩ = some (.slice KA kn kc) := (HB.out.c0 h9).cell 1; go_simp; try with_reducible rfl)
 try simp only [lz1, lz2, lz3, Act.put, lz4, lz5, lz6]
 refine AnyT.take (i := 4) (v := ?_) rfl (by kernel_rfl) (by kernel_rfl) (fun _ _ _ h => h) (by kernel_rfl) (by kernel_rfl) (Or.inl ⟨by rfl, ?_⟩) HW0.out ?_
 rotate_left
 ·(intro w9 h9; go_simp; try with_reducible rfl)
 try simp only [lz1, lz2, lz3, Act.put, lz4, lz5, lz6]
 refine AnyT.take (i := 5) (v := ?_) rfl (by kernel_rfl) (by kernel_rfl) (fun _ _ _ h => h) (by kernel_rfl) (by kernel_rfl) (Or.inl ⟨by rfl, ?_⟩) HW0.out ?_
 rotate_left
 ·(intro w9 h9; go_simp; try with_reducible rfl)
 try simp only [lz1, lz2, lz3, Act.put, lz4, lz5, lz6]
 refine AnyT.take (i := 6) (v := ?_) rfl (by kernel_rfl) (by kernel_rfl) (fun _ _ _ h => h) (by kernel_rfl) (by kernel_rfl) (Or.inl ⟨by rfl, ?_⟩) HW0.out ?_
 rotate_left
 ·(intro w9 h9; have y1 := HCK.out.1; go_simp; try with_reducible rfl)
 try simp only [lz1, lz2, lz3, Act.put, lz4, lz5, lz6]
 refine AnyT.take (i := 7) (v := ?_) rfl (by kernel_rfl) (by kernel_rfl) (fun _ _ _ h => h) (by kernel_rfl) (by kernel_rfl) (Or.inl ⟨by rfl, ?_⟩) HW0.out ?_
 rotate_left
 ·(intro w9 h9; go_simp; try with_reducible rfl)
 try simp only [lz1, lz2, lz3, Act.put, lz4, lz5, lz6]
 refine AnyT.one (i := 8) (by kernel_rfl) rfl (fun K hK => ?_)
 rw [if_pos (by rfl)]
 try simp only [lz1, lz2, lz3, Act.put, lz4, lz5, lz6]
 go_simp
 have hd1 := (Chg.refl Non x0).alloc (.cells #[.bool false, .slice none 0 0, .slice none 0 0, .slice none 0 0] 125)
 have hb1 := Blk.new x0 125 #[.bool false, .slice none 0 0, .slice none 0 0, .slice none 0 0]
 have ngx := HW0.out.size
 obtain ⟨g, hg⟩ : ∃ g, g = x0.heap.size := ⟨_, rfl⟩
 rw [← hg] at hb1 ⊢
 have HGN := hide (show w2.heap.size ≤ g by omega)
 generalize hww : World.alloc x0 _ = x1
 rw [show x0.alloc (.cells #[.bool false, .slice none 0 0, .slice none 0 0, .slice none 0 0] 125) = x1 from hww] at hd1 hb1
 clear hww hg ngx
 have HW1 := hide (HW0.out.trans0 hd1)
 have HG1 := hide hb1
 refine hK.out _ _ (fun _ => HW1.out) ?_
 clear hd1 hb1 HW0
 clear hK K
 try simp only [lz1, lz2, lz3, Act.put, lz4, lz5, lz6]
 refine AnyT.one (i := 9) (by kernel_rfl) rfl (fun K hK => ?_)
 rw [if_pos (by rfl)]
 try simp only [lz1, lz2, lz3, Act.put, lz4, lz5, lz6]
 obtain ⟨⟨y0, y1, y2, y3⟩, z0, z1, z2, z3⟩ := blk4 HG1.out
 obtain ⟨hr8, hc8⟩ := put4 HG1.out (.bool true) (.slice PA m pc) (.slice none 0 0) (.slice none 0 0)
 have HGz := hide hr8
 have HWz := hide (HW1.out.trans hc8 fun b hb e => by have e : b = g := e; have := HGN.out; omega)
 clear hr8 hc8
 go_simp
 refine hK.out _ _ (fun h => absurd h (by decide)) ?_
 clear HG1 HW1 y0 y1 y2 y3 z0 z1 z2 z3
 generalize World.setCell _ _ _ = x3 at HGz HWz ⊢
 clear hK K
 try simp only [lz1, lz2, lz3, Act.put, lz4, lz5, lz6]
 refine AnyT.nil (by kernel_rfl) ?_
 have HC12 := hide (HC02.out.trans0 HWz.out)
 obtain ⟨⟨q0, q1, q2, q3⟩, g0, g1, g2, g3⟩ := blk4 HGz.out
 obtain ⟨⟨p0, p1, p2, p3⟩, _⟩ := blk4 (HB.out.c0 HWz.out)
 have hcv := HCK.out.2
 have hw9 := HW9.out
 obtain ⟨j1, hj1⟩ : ∃ j1, j1 = j + 1 := ⟨_, rfl⟩

 have hg4 := HGz.out.set_ 2 (.slice QA m qc)
 simp at hg4
 have hc4 : Chg (fun k => k = g) x3 (x3.setCell ⟨g, 2, none⟩ (.slice QA m qc)) := Chg.setCell (p := ⟨g, 2, none⟩) (Chg.refl (fun k => k = g) x3) (fun _ => rfl) _
 have HG4 := hide hg4
 have HC4 := hide hc4
 have hgN := HGN.out
 have hnr := HNR.out
 clear hg4 hc4 hj1
 go_upto_region 5 with fail
 generalize World.setCell x3 _ _ = w4 at HG4 HC4 ⊢
 clear q0 q1 q2 q3 g0 g1 g2 g3 p0 p1 p2 p3 hcv hw9
 obtain ⟨⟨h0, h1, h2, h3⟩, _⟩ := blk4 HG4.out
 have HC24 := hide (HWz.out.trans HC4.out fun b hb e => by have e : b = g := e; omega)
 have htw := ndTwin (lf := true) (HP.out.1.c0 HC24.out) (HP.out.2.c0 HC24.out) (ni := []) (show RdI w4 (fun b => F b ∧ b < N) (.slice none 0 0) [] from RdV.nil_ w4 (fun b => F b ∧ b < N) 1) HLp.out.1 HLp.out.2.1 (Nat.zero_le _) ⟨fun x hx => HEL.out.1 x (List.mem_of_mem_drop (List.mem_of_mem_take hx)), fun x hx => HEL.out.2 x (List.mem_of_mem_drop (List.mem_of_mem_take hx))⟩
 have n4 := HC24.out.size
 go_wp2_with fail
 refine htw.mono ?_
 rintro e w5 ⟨TA, tn, tc, UA, un, uc, IA, in_, ic, rfl, hT, hc5⟩
 have HT := hide hT
 have n5 := hc5.size
 have HC25 := hide (HC24.out.trans0 hc5)
 have hr5 := HR.out.c0 HC25.out
 obtain ⟨⟨r0, r1, r2, r3⟩, f0, f1, f2, f3⟩ := blk4 hr5
 obtain ⟨hr8, hc8⟩ := put4 hr5 (.bool true) (.slice TA tn tc) (.slice UA un uc) (.slice IA in_ ic)
 have HR8 := hide hr8
 have HC8 := hide hc8
 clear htw hT hc5 hr5 hr8 hc8 h0 h1 h2 h3
 go_wp2_with fail
 generalize World.setCell _ _ _ = w9 at HR8 HC8 ⊢
 obtain ⟨⟨q0, q1, q2, q3⟩, _⟩ := blk4 HR8.out
 have n9 := HC8.out.size
 have hNw := HNN.out
 have hM := HM.out
 refine bodyPost_ret (v := .agg #[.bool true, .slice TA tn tc, .slice UA un uc, .slice IA in_ ic]) (by simp [results, Tryz.results188, go_sem, q0, q1, q2, q3]) rfl ⟨_, _, _, _, _, _, _, _, _, rfl, ?_, ?_⟩
 ·rw [← hM.1]
  refine ((HT.out.chg HC8.out (fun b hb e => ?_) fun b hb e => ?_).low (by omega)).mono fun b hb => ?_
  ·have e : b = N + 1 := e; omega
  ·have e : b = N + 1 := e
   rcases hb with h | h
   ·have := h.1.2; omega
   ·omega
  ·rcases hb with h | h
   ·exact .inl ⟨h.1.1, by have := h.1.2; omega⟩
   ·exact .inr (by omega)
 ·exact (HC02.out.trans0 HC25.out).trans HC8.out fun b hb e => by have e : b = N + 1 := e; omega
set_option maxHeartbeats 8000000 in
theorem inPart {w : World} {F : Nat → Prop} {KA VA NA : Option Addr} {kn kc vn vc nn nc i j : Nat} {ks : List (List UInt8)} {ni : List Int} (hk : RdBB w F (.slice KA kn kc) ks) (hv : RdI w F (.slice NA nn nc) ni) (hvl : ni.length = ks.length + 1) (hel : ∀ x ∈ ks, x.length ≤ 1000000) (hkl : ks.length ≤ 10000) (hi : i ≤ j) (hj : j ≤ ks.length) :
  Calls Tryz.prog 188 #[.agg #[.bool false, .slice KA kn kc, .slice VA vn vc, .slice NA nn nc], .int .i64 (i : Int), .int .i64 (j : Int)] w fun e w' => ∃ kA kn' kc' vA vn' vc' nA nn' nc', e = .returned (.agg #[.bool false, .slice kA kn' kc', .slice vA vn' vc', .slice nA nn' nc']) ∧ Th3 w' (fun b => (F b ∧ b < w.heap.size) ∨ w.heap.size ≤ b) w.heap.size (.slice kA kn' kc') (.slice vA vn' vc') (.slice nA nn' nc') ((ks.drop i).take (j - i)) [] ((ni.drop i).take (j + 1 - i)) ∧ Chg Non w w' := by
 obtain ⟨PA, pc, hpk, hck⟩ := run_cutBB hk hi hj
 obtain ⟨QA, qc, hqv, hcv⟩ := hv.piece (i := i) (j := j + 1) (by omega) (by omega)
 have hpl := piece_len (i := i) hj
 obtain ⟨m, hm⟩ : ∃ m, m = j - i := ⟨_, rfl⟩
 obtain ⟨m1, hm1⟩ : ∃ m1, m1 = j + 1 - i := ⟨_, rfl⟩
 rw [← hm] at hpk hck hpl
 rw [← hm1] at hqv hcv
 have hLp : ((ks.drop i).take m).length ≤ 1000000 ∧ ((ni.drop i).take m1).length ≤ 1000000 ∧ True := ⟨by omega, by rw [List.length_take, List.length_drop]; omega, trivial⟩
 have hw9 : IntKind.i64.wrap ((j : Int) + 1) = ((j + 1 : Nat) : Int) := by rw [IntWalk.i64_in _ (by omega)]; omega
 have hr := Blk.new (w.alloc (.cells #[.bool false, .slice KA kn kc, .slice VA vn vc, .slice NA nn nc] 125)) 125 #[.bool false, .slice none 0 0, .slice none 0 0, .slice none 0 0]
 have hb := Blk.new w 125 #[.bool false, .slice KA kn kc, .slice VA vn vc, .slice NA nn nc]
 have hcb := (Chg.refl Non w).alloc (.cells #[.bool false, .slice KA kn kc, .slice VA vn vc, .slice NA nn nc] 125)
 have hna := sizeAl' w (.cells #[.bool false, .slice KA kn kc, .slice VA vn vc, .slice NA nn nc] 125)
 have hcr := (Chg.refl Non (w.alloc (.cells #[.bool false, .slice KA kn kc, .slice VA vn vc, .slice NA nn nc] 125))).alloc (.cells #[.bool false, .slice none 0 0, .slice none 0 0, .slice none 0 0] 125)
 have hnr := sizeAl' (w.alloc (.cells #[.bool false, .slice KA kn kc, .slice VA vn vc, .slice NA nn nc] 125)) (.cells #[.bool false, .slice none 0 0, .slice none 0 0, .slice none 0 0] 125)
 rw [hna] at hr hnr
 have HM := hide (And.intro hm hm1)
 have HEL := hide hel
 clear hpl hm1
 go_enter Tryz.func188, Tryz.ntmps188
 go_upto_region 1 with fail
 obtain ⟨N, hN⟩ : ∃ N, N = w.heap.size := ⟨_, rfl⟩
 have hc02 := hcb.trans0 hcr
 have hb2 := hb.c0 hcr
 have hpk2 := hpk.lt.c0 hc02
 have hqv2 := hqv.lt.c0 hc02
 rw [← hN] at hb2 hr hnr hpk2 hqv2 ⊢
 have HNN := hide hN
 clear hb hcb hna hcr hN hk hv hpk hqv hi hj hm hel hvl hkl
 generalize World.alloc (World.alloc w _) _ = w2 at hb2 hr hnr hpk2 hqv2 hc02 ⊢
 have HC02 := hide hc02
 have HR := hide hr
 have HB := hide hb2
 have HP := hide (And.intro hpk2 hqv2)
 have HLp := hide hLp
 have HNR := hide hnr
 have HCK := hide (And.intro hck hcv)
 have HW9 := hide hw9
 clear hb2 hr hnr hc02 hpk2 hqv2 hLp hck hcv hw9
 refine wp_region_T (Chg Non w2) 9 (by kernel_rfl) ?_
 have HW0 := hide ((Chg.refl Non w2).drew)
 generalize World.drew w2 = x0 at HW0 ⊢
 refine AnyT.take (i := 0) (v := ?_) rfl (by kernel_rfl) (by kernel_rfl) (fun _ _ _ h => h) (by kernel_rfl) (by kernel_rfl) (Or.inl ⟨by rfl, ?_⟩) HW0.out ?_
 rotate_left
 ·(intro w9 h9; go_simp; try with_reducible rfl)
 try simp only [lz1, lz2, lz3, Act.put, lz4, lz5, lz6]
 refine AnyT.take (i := 1) (v := ?_) rfl (by kernel_rfl) (by kernel_rfl) (fun _ _ _ h => h) (by kernel_rfl) (by kernel_rfl) (Or.inl ⟨by rfl, ?_⟩) HW0.out ?_
 rotate_left
 ·(intro w9 h9; have y1 : w9.cell? ⟨N, 0, none⟩ = some (.bool false) := (HB.out.c0 h9).cell 0; go_simp; try with_reducible rfl)
 try simp only [lz1, lz2, lz3, Act.put, lz4, lz5, lz6]
 refine AnyT.take (i := 2) (v := ?_) rfl (by kernel_rfl) (by kernel_rfl) (fun _ _ _ h => h) (by kernel_rfl) (by kernel_rfl) (Or.inl ⟨by rfl, ?_⟩) HW0.out ?_
 rotate_left
 ·(intro w9 h9; go_simp; try with_reducible rfl)
 try simp only [lz1, lz2, lz3, Act.put, lz4, lz5, lz6]
 refine AnyT.take (i := 3) (v := ?_) rfl (by kernel_rfl) (by kernel_rfl) (fun _ _ _ h => h) (by kernel_rfl) (by kernel_rfl) (Or.inl ⟨by rfl, ?_⟩) HW0.out ?_
 rotate_left
 ·(intro w9 h9; have y1 : w9.cell? ⟨N, 1, none⟩ = some (.slice KA kn kc) := (HB.out.c0 h9).cell 1; go_simp; try with_reducible rfl)
 try simp only [lz1, lz2, lz3, Act.put, lz4, lz5, lz6]
 refine AnyT.take (i := 4) (v := ?_) rfl (by kernel_rfl) (by kernel_rfl) (fun _ _ _ h => h) (by kernel_rfl) (by kernel_rfl) (Or.inl ⟨by rfl, ?_⟩) HW0.out ?_
 rotate_left
 ·(intro w9 h9; go_simp; try with_reducible rfl)
 try simp only [lz1, lz2, lz3, Act.put, lz4, lz5, lz6]
 refine AnyT.take (i := 5) (v := ?_) rfl (by kernel_rfl) (by kernel_rfl) (fun _ _ _ h => h) (by kernel_rfl) (by kernel_rfl) (Or.inl ⟨by rfl, ?_⟩) HW0.out ?_
 rotate_left
 ·(intro w9 h9; go_simp; try with_reducible rfl)
 try simp only [lz1, lz2, lz3, Act.put, lz4, lz5, lz6]
 refine AnyT.take (i := 6) (v := ?_) rfl (by kernel_rfl) (by kernel_rfl) (fun _ _ _ h => h) (by kernel_rfl) (by kernel_rfl) (Or.inl ⟨by rfl, ?_⟩) HW0.out ?_
 rotate_left
 ·(intro w9 h9; have y1 := HCK.out.1; go_simp; try with_reducible rfl)
 try simp only [lz1, lz2, lz3, Act.put, lz4, lz5, lz6]
 refine AnyT.take (i := 7) (v := ?_) rfl (by kernel_rfl) (by kernel_rfl) (fun _ _ _ h => h) (by kernel_rfl) (by kernel_rfl) (Or.inl ⟨by rfl, ?_⟩) HW0.out ?_
 rotate_left
 ·(intro w9 h9; go_simp; try with_reducible rfl)
 try simp only [lz1, lz2, lz3, Act.put, lz4, lz5, lz6]
 refine AnyT.one (i := 8) (by kernel_rfl) rfl (fun K hK => ?_)
 rw [if_pos (by rfl)]
 try simp only [lz1, lz2, lz3, Act.put, lz4, lz5, lz6]
 go_simp
 have hd1 := (Chg.refl Non x0).alloc (.cells #[.bool false, .slice none 0 0, .slice none 0 0, .slice none 0 0] 125)
 have hb1 := Blk.new x0 125 #[.bool false, .slice none 0 0, .slice none 0 0, .slice none 0 0]
 have ngx := HW0.out.size
 obtain ⟨g, hg⟩ : ∃ g, g = x0.heap.size := ⟨_, rfl⟩
 rw [← hg] at hb1 ⊢
 have HGN := hide (show w2.heap.size ≤ g by omega)
 generalize hww : World.alloc x0 _ = x1
 rw [show x0.alloc (.cells #[.bool false, .slice none 0 0, .slice none 0 0, .slice none 0 0] 125) = x1 from hww] at hd1 hb1
 clear hww hg ngx
 have HW1 := hide (HW0.out.trans0 hd1)
 have HG1 := hide hb1
 refine hK.out _ _ (fun _ => HW1.out) ?_
 clear hd1 hb1 HW0
 clear hK K
 try simp only [lz1, lz2, lz3, Act.put, lz4, lz5, lz6]
 refine AnyT.one (i := 9) (by kernel_rfl) rfl (fun K hK => ?_)
 rw [if_pos (by rfl)]
 try simp only [lz1, lz2, lz3, Act.put, lz4, lz5, lz6]
 obtain ⟨⟨y0, y1, y2, y3⟩, z0, z1, z2, z3⟩ := blk4 HG1.out
 obtain ⟨hr8, hc8⟩ := put4 HG1.out (.bool false) (.slice PA m pc) (.slice none 0 0) (.slice none 0 0)
 have HGz := hide hr8
 have HWz := hide (HW1.out.trans hc8 fun b hb e => by have e : b = g := e; have := HGN.out; omega)
 clear hr8 hc8
 go_simp
 refine hK.out _ _ (fun h => absurd h (by decide)) ?_
 clear HG1 HW1 y0 y1 y2 y3 z0 z1 z2 z3
 generalize World.setCell _ _ _ = x3 at HGz HWz ⊢
 clear hK K
 try simp only [lz1, lz2, lz3, Act.put, lz4, lz5, lz6]
 refine AnyT.nil (by kernel_rfl) ?_
 have HC12 := hide (HC02.out.trans0 HWz.out)
 obtain ⟨⟨q0, q1, q2, q3⟩, g0, g1, g2, g3⟩ := blk4 HGz.out
 obtain ⟨⟨p0, p1, p2, p3⟩, _⟩ := blk4 (HB.out.c0 HWz.out)
 have hcv := HCK.out.2
 have hw9 := HW9.out
 obtain ⟨j1, hj1⟩ : ∃ j1, j1 = j + 1 := ⟨_, rfl⟩
 rw [← hj1] at hcv hw9
 have hg4 := HGz.out.set_ 3 (.slice QA m1 qc)
 simp at hg4
 have hc4 : Chg (fun k => k = g) x3 (x3.setCell ⟨g, 3, none⟩ (.slice QA m1 qc)) := Chg.setCell (p := ⟨g, 3, none⟩) (Chg.refl (fun k => k = g) x3) (fun _ => rfl) _
 have HG4 := hide hg4
 have HC4 := hide hc4
 have hgN := HGN.out
 have hnr := HNR.out
 clear hg4 hc4 hj1
 go_upto_region 5 with fail
 generalize World.setCell x3 _ _ = w4 at HG4 HC4 ⊢
 clear q0 q1 q2 q3 g0 g1 g2 g3 p0 p1 p2 p3 hcv hw9
 obtain ⟨⟨h0, h1, h2, h3⟩, _⟩ := blk4 HG4.out
 have HC24 := hide (HWz.out.trans HC4.out fun b hb e => by have e : b = g := e; omega)
 have htw := ndTwin (lf := false) (HP.out.1.c0 HC24.out) (RdBB.nil9 w4 (fun b => F b ∧ b < N)) (HP.out.2.c0 HC24.out) HLp.out.1 (Nat.zero_le _) HLp.out.2.1 ⟨fun x hx => HEL.out x (List.mem_of_mem_drop (List.mem_of_mem_take hx)), fun x hx => by simp at hx⟩
 have n4 := HC24.out.size
 go_wp2_with fail
 refine htw.mono ?_
 rintro e w5 ⟨TA, tn, tc, UA, un, uc, IA, in_, ic, rfl, hT, hc5⟩
 have HT := hide hT
 have n5 := hc5.size
 have HC25 := hide (HC24.out.trans0 hc5)
 have hr5 := HR.out.c0 HC25.out
 obtain ⟨⟨r0, r1, r2, r3⟩, f0, f1, f2, f3⟩ := blk4 hr5
 obtain ⟨hr8, hc8⟩ := put4 hr5 (.bool false) (.slice TA tn tc) (.slice UA un uc) (.slice IA in_ ic)
 have HR8 := hide hr8
 have HC8 := hide hc8
 clear htw hT hc5 hr5 hr8 hc8 h0 h1 h2 h3
 go_wp2_with fail
 generalize World.setCell _ _ _ = w9 at HR8 HC8 ⊢
 obtain ⟨⟨q0, q1, q2, q3⟩, _⟩ := blk4 HR8.out
 have n9 := HC8.out.size
 have hNw := HNN.out
 have hM := HM.out
 refine bodyPost_ret (v := .agg #[.bool false, .slice TA tn tc, .slice UA un uc, .slice IA in_ ic]) (by simp [results, Tryz.results188, go_sem, q0, q1, q2, q3]) rfl ⟨_, _, _, _, _, _, _, _, _, rfl, ?_, ?_⟩
 ·rw [← hM.1, ← hM.2]
  refine ((HT.out.chg HC8.out (fun b hb e => ?_) fun b hb e => ?_).low (by omega)).mono fun b hb => ?_
  ·have e : b = N + 1 := e; omega
  ·have e : b = N + 1 := e
   rcases hb with h | h
   ·have := h.1.2; omega
   ·omega
  ·rcases hb with h | h
   ·exact .inl ⟨h.1.1, by have := h.1.2; omega⟩
   ·exact .inr (by omega)
 ·exact (HC02.out.trans0 HC25.out).trans HC8.out fun b hb e => by have e : b = N + 1 := e; omega
end Go.Proofs.YtliimeoblffigaaGreat

