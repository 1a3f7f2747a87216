/- The walk of the reference's Put. -/
import Derived.Test.YtliimeoblffigaaGreatRfMG
import Derived.Test.YtliimeoblffigaaGreatVltAG
import Derived.Test.YtliimeoblffigaaGreatPackAG
import Derived.Test.YtliimeoblffigaaGreatLfAG
import Derived.Test.YtliimeoblffigaaGreatNdAG
import Derived.Test.YtliimeoblffigaaGreatDgEG
import Derived.Test.YtliimeoblffigaaGreatTsD
open List renaming getElem_toArray → lz1, getElem_cons_succ → lz2, getElem_cons_zero → lz3, setIfInBounds_toArray → lz4, set_cons_zero → lz5, set_cons_succ → lz6
set_option linter.unusedVariables false
set_option linter.unusedSimpArgs false
set_option maxRecDepth 100000
namespace Go.Proofs.YtliimeoblffigaaGreat
open Go.RowKit Go.Maps
set_option linter.unusedVariables false
set_option linter.unusedSimpArgs false

theorem info_P : (Tryz.prog.info? 71).map (fun i => (i.zero, i.size, i.bytes)) = some (some (.agg #[.slice none 0 0, .slice none 0 0]), 2, 48) := by kernel_rfl
theorem slP : SlT elP Tryz.prog 34 71 := ⟨Tryz.underlying34, by
 obtain ⟨i, hi, hz, h1, h2⟩ := info_parts info_P
 exact ⟨i, _, hi, hz, h1, by omega, rfl⟩⟩
theorem OwnE.shapeH {X α : Type} {E : El X α} {t : TypeId} {w : World} {base : Nat} {F : Nat → Prop} {v : Value} {l : List α} (h : OwnE E t w base F v l) : ∃ A n c, v = .slice A n c := by
 obtain ⟨A, c, e, _, _⟩ := h.shape
 exact ⟨A, _, c, e⟩
/-- the reference's Put, round by round -/
def stP (x : WrS) (l : List KV) (j : Nat) : Bool × List KV := (l.take j).foldl (rStep x.a x.b) (x.f, [])
def putR (x : WrS) (l : List KV) : List KV := if (stP x l l.length).1 = true then (stP x l l.length).2 else (stP x l l.length).2 ++ [(x.a, x.b)]
theorem stP_zero (x : WrS) (l : List KV) : stP x l 0 = (x.f, []) := rfl
theorem stP_succ {x : WrS} {l : List KV} {j : Nat} (h : j < l.length) : stP x l (j + 1) = rStep x.a x.b (stP x l j) l[j] := by
 unfold stP; rw [List.take_succ_eq_append_getElem h, List.foldl_append]; rfl
theorem rStep_len (k v : List UInt8) (s : Bool × List KV) (p : KV) : (rStep k v s p).2.length ≤ s.2.length + 2 := by
 unfold rStep; dsimp only; split <;> split <;> simp
theorem rStep_tru (k v : List UInt8) (s : Bool × List KV) (p : KV) (h : s.1 = true) : (rStep k v s p).1 = true := by
 unfold rStep; dsimp only; split <;> split <;> simp_all
theorem stP_len {x : WrS} {l : List KV} : ∀ {j : Nat}, j ≤ l.length → (stP x l j).2.length ≤ 2 * j
 | 0, _ => by simp [stP_zero]
 | j + 1, h => by
  rw [stP_succ (by omega)]
  have := rStep_len x.a x.b (stP x l j) (l[j]'(by omega))
  have := stP_len (x := x) (l := l) (j := j) (by omega)
  omega
theorem stP_gone {x : WrS} {l : List KV} (hf : x.f = true) : ∀ {j : Nat}, j ≤ l.length → (stP x l j).1 = true
 | 0, _ => by simp [stP_zero, hf]
 | j + 1, h => by rw [stP_succ (by omega)]; exact rStep_tru _ _ _ _ (stP_gone hf (by omega))
theorem putR_apW {x : WrS} {l : List KV} (h : UpL l) : putR x l = apW l x := by
 unfold putR apW stP
 rw [List.take_length]
 cases hf : x.f with
 | true => rw [rStep_gone]; simp
 | false => rw [rStep_put l [] h]; simp
section
variable {w : World} {F G : Nat → Prop} {v : Value} {XA YA : Option Addr} {xn xc yn yc : Nat} {l : List KV} {x : WrS}
set_option maxHeartbeats 16000000 in
theorem refPut (hl : RdE elP w F v l) (hx : RdB w G (.slice XA xn xc) x.a) (hy : RdB w G (.slice YA yn yc) x.b) (hn : l.length ≤ 1000000) (hxa : x.a.length ≤ 140737488355328) (hyb : x.f = false → x.b.length ≤ 140737488355328) :
  Calls Tryz.prog 39 #[v, .agg #[.slice XA xn xc, .slice YA yn yc, .bool x.f]] w fun e w' => ∃ u, e = .returned u ∧ OwnE elP 71 w' w.heap.size (fun b => F b ∨ w.heap.size ≤ b) u (putR x l) ∧ Chg Non w w' := by
 obtain ⟨A, c, rfl, hc, hm⟩ := hl.shape
 unfold maxLen at hm
 have hl0 := hl.lt
 have hr := Blk.new w 86 #[.slice XA xn xc, .slice YA yn yc, .bool x.f]
 have hcr := (Chg.refl Non w).alloc (.cells #[.slice XA xn xc, .slice YA yn yc, .bool x.f] 86)
 have hns := sizeAl' w (.cells #[.slice XA xn xc, .slice YA yn yc, .bool x.f] 86)
 go_enter Tryz.func39, Tryz.ntmps39
 go_upto_region 1 with fail
 have hl1 := hl0.c0 hcr
 have hx1 := (hx.lt).c0 hcr
 have hy1 := (hy.lt).c0 hcr
 obtain ⟨N, hN⟩ : ∃ N, N = w.heap.size := ⟨_, rfl⟩
 rw [← hN] at hr hns hl1 hx1 hy1 ⊢
 generalize World.alloc w _ = w1 at hr hcr hns hl1 hx1 hy1 ⊢
 obtain ⟨r0, r1, r2⟩ := blk3 hr
 have HB := hide hr
 have HL := hide hl1
 have HX := hide (And.intro hx1 (And.intro hy1 (And.intro hxa hyb)))
 have HNS := hide hns
 have HNW := hide (And.intro hN hcr)
 have HN := hide hn
 clear hr hcr hns hl hl0 hl1 hx hx1 hy hy1 hxa hyb hN hn
 go_wp2_with fail
 clear r0 r1 r2
 go_loopw [5, 6, 7] (fun out done i wr => ∃ k : Nat, k ≤ l.length ∧ i = .int .i64 (k : Int) ∧ done = .bool (stP x l k).1 ∧ Hid (OwnE elP 71 wr (N + 1) (fun b => (F b ∧ b < N) ∨ N < b) out (stP x l k).2) ∧ Hid (Chg Non w1 wr)) (fun _ _ i _ => l.length - (intOf i).toNat)
 case atStart => exact ⟨0, Nat.zero_le _, rfl, rfl, hide (OwnE.nil_ _ _ _ _ _), hide (Chg.refl _ _)⟩
 case round =>
  obtain ⟨k, hk, rfl, rfl, hO, hW⟩ := hrel
  rename Value => out
  obtain ⟨OA, on, oc, rfl⟩ := hO.out.shapeH
  obtain ⟨r0, r1, r2⟩ := blk3 (HB.out.c0 hW.out)
  by_cases hlt : k < l.length
  ·obtain ⟨ad, B, bn, bc, D, dn, dc, rfl, hf, h0, h1, hk1, hk2⟩ := (HL.out.c0 hW.out).pair hlt
   obtain ⟨p, hp⟩ : ∃ p, p = l[k] := ⟨_, rfl⟩
   have hst := stP_succ (x := x) hlt
   rw [← hp] at hk1 hk2 hst
   obtain ⟨cv, hcv⟩ : ∃ cv, cv = cmpB p.1 x.a := ⟨_, rfl⟩
   have hcmp := fun n => refCmp (hk1.dn n) ((HX.out.1.c0 hW.out).dn n)
   rw [← hcv] at hcmp
   have hln := stP_len (x := x) hk
   have hgn : x.f = true → (stP x l k).1 = true := fun h => stP_gone h hk
   obtain ⟨⟨sd, sl⟩, hs⟩ : ∃ s, s = stP x l k := ⟨_, rfl⟩
   rw [← hs] at hO hst hln hgn ⊢
   dsimp only at hO hst hln hgn ⊢
   have HST := hide hst
   have HCV := hide hcv
   have HLN := hide (show sl.length ≤ 2 * k ∧ k + 1 ≤ l.length from ⟨hln, hlt⟩)
   have HGN := hide hgn
   have HP := hide (And.intro hk1 hk2)
   clear hs hst hcv hln hgn hp hk1 hk2 hk
   go_upto_region 6 with fail
   go_quiet ((go_at_call 48; exact Calls.quiet_of (hcmp _)))
   clear hcmp
   rcases Int.lt_trichotomy cv 0 with hz | hz | hz
   ·generalize hwq : World.drewN wr nq = wq
    have hc0 : Chg Non wr wq := hwq ▸ (Chg.refl Non wr).drewN nq
    have HOQ := hide (hO.out.c0 hc0)
    have HWQ := hide (hW.out.trans0 hc0)
    have HB9 := hide (HB.out.c0 HWQ.out)
    have HX9 := hide (And.intro (HX.out.1.c0 HWQ.out) (HX.out.2.1.c0 HWQ.out))
    have HPQ := hide (And.intro (HP.out.1.c0 hc0) (HP.out.2.c0 hc0))
    replace h0 := hc0.cell h0 (fun h => h)
    replace h1 := hc0.cell h1 (fun h => h)
    clear hwq hc0 hO hW HP r0 r1 r2
    have e1 : decide (cv ≥ 0) = false := decide_eq_false (by omega)
    have e2 : decide (0 ≤ cv) = false := decide_eq_false (by omega)
    have e3 : (cv != 0) = true := by simp; omega
    have e4 : (cv == 0) = false := beq_eq_false_iff_ne.2 (by omega)
    have HZ := hide (show cmpB p.1 x.a < 0 by rw [← HCV.out]; exact hz)
    clear hz
    go_upto_region 11 with fail
    have hcb := (Chg.refl Non wq).alloc (.cells #[.slice B bn bc, .slice D dn dc] 71)
    have hbb := Blk.new wq 71 #[.slice B bn bc, .slice D dn dc]
    have hO5 := HOQ.out.c0 hcb
    have hrd : RdB (wq.alloc (.cells #[.slice B bn bc, .slice D dn dc] 71)) (fun b => ((F b ∧ b < N) ∨ N < b) ∧ b < (wq.alloc (.cells #[.slice B bn bc, .slice D dn dc] 71)).heap.size ∧ (Value.slice OA on oc).ownBlock ≠ some b) (.slice B bn bc) p.1 ∧ RdB (wq.alloc (.cells #[.slice B bn bc, .slice D dn dc] 71)) (fun b => ((F b ∧ b < N) ∨ N < b) ∧ b < (wq.alloc (.cells #[.slice B bn bc, .slice D dn dc] 71)).heap.size ∧ (Value.slice OA on oc).ownBlock ≠ some b) (.slice D dn dc) p.2 := by
     have h1 := HOQ.out.bl
     have h2 := HWQ.out.size
     have h3 := hcb.size
     have h4 := HNS.out
     exact ⟨(HPQ.out.1.c0 hcb).mono fun b hb => ⟨.inl hb, by omega, fun e => by have := (h1 b e).1; omega⟩, (HPQ.out.2.c0 hcb).mono fun b hb => ⟨.inl hb, by omega, fun e => by have := (h1 b e).1; omega⟩⟩
    have hlb : sl.length + 1 ≤ 1000000000000 := by have := HLN.out; have := HN.out; simp; omega
    have hbs : N + 1 ≤ (wq.alloc (.cells #[.slice B bn bc, .slice D dn dc] 71)).heap.size := by have := HNS.out; have := HWQ.out.size; have := hcb.size; omega
    have hWc := HWQ.out.trans0 hcb
    have HBL := hide HOQ.out.bl
    go_wp2_with (at_builtin; refine append_E slP rfl _ _ rfl hO5 rfl (u := (.slice B bn bc, .slice D dn dc)) (y := p) hrd rfl hbb rfl hlb hbs ?_; intro v6 w6 hO6 hg6 hat6; obtain ⟨WB, wbn, wbc, rfl⟩ := hO6.shapeH)
    have hW6 := hWc.trans (Chg.of_grown hg6) fun b hb e => by have := (HBL.out b e.symm).1; have := HNS.out; omega
    go_roundw
    case rel => exact ⟨k + 1, HLN.out.2, by go_num, by rw [HST.out, step_lt HZ.out], hide (by rw [HST.out, step_lt HZ.out]; exact hO6), hide hW6⟩
    case measure => (have := HLN.out.2; simp [intOf]; omega)
   ·generalize hwq : World.drewN wr nq = wq
    have hc0 : Chg Non wr wq := hwq ▸ (Chg.refl Non wr).drewN nq
    have HOQ := hide (hO.out.c0 hc0)
    have HWQ := hide (hW.out.trans0 hc0)
    have HB9 := hide (HB.out.c0 HWQ.out)
    have HX9 := hide (And.intro (HX.out.1.c0 HWQ.out) (HX.out.2.1.c0 HWQ.out))
    have HPQ := hide (And.intro (HP.out.1.c0 hc0) (HP.out.2.c0 hc0))
    replace h0 := hc0.cell h0 (fun h => h)
    replace h1 := hc0.cell h1 (fun h => h)
    clear hwq hc0 hO hW HP r0 r1 r2
    have e1 : decide (cv ≥ 0) = true := decide_eq_true (by omega)
    have e2 : decide (0 ≤ cv) = true := decide_eq_true (by omega)
    have HZ := hide (show cmpB p.1 x.a = 0 by rw [← HCV.out]; exact hz)
    subst hz
    cases sd with
    | true =>
     go_wp2_with fail
     go_roundw
     case rel => exact ⟨k + 1, HLN.out.2, by go_num, by rw [HST.out, step_eqT HZ.out], hide (by rw [HST.out, step_eqT HZ.out]; exact HOQ.out), HWQ⟩
     case measure => (have := HLN.out.2; simp [intOf]; omega)
    | false =>
     have HXF := hide (show x.f = false from by cases hh : x.f with | false => rfl | true => exact absurd (HGN.out hh) (by decide))
     go_upto_region 8 with fail
     refine wp_region_T (Chg Non wq) 9 (by kernel_rfl) ?_
     have HW0 := hide ((Chg.refl Non wq).drew)
     generalize World.drew wq = x0 at HW0 ⊢
     refine AnyT.takeM (i := 0) (v := ?_) rfl (by kernel_rfl) (by kernel_rfl) (fun _ _ _ h => h) (by kernel_rfl) (by kernel_rfl) (Or.inl ⟨by rfl, ?_⟩) HW0.out ?_
     rotate_left
     ·(intro w9 h9; go_simp; try with_reducible rfl)
     try simp only [lz1, lz2, lz3, Act.put, lz4, lz5, lz6]
     refine AnyT.takeM (i := 1) (v := ?_) rfl (by kernel_rfl) (by kernel_rfl) (fun _ _ _ h => h) (by kernel_rfl) (by kernel_rfl) (Or.inl ⟨by rfl, ?_⟩) HW0.out ?_
     rotate_left
     ·(intro w9 h9; go_simp; try with_reducible rfl)
     try simp only [lz1, lz2, lz3, Act.put, lz4, lz5, lz6]
     refine AnyT.takeM (i := 2) (v := ?_) rfl (by kernel_rfl) (by kernel_rfl) (fun _ _ _ h => h) (by kernel_rfl) (by kernel_rfl) (Or.inl ⟨by rfl, ?_⟩) HW0.out ?_
     rotate_left
     ·(intro w9 h9; obtain ⟨y0, y1, y2⟩ := blk3 (HB9.out.c0 h9); go_simp; try with_reducible rfl)
     try simp only [lz1, lz2, lz3, Act.put, lz4, lz5, lz6]
     refine AnyT.takeM (i := 4) (v := ?_) rfl (by kernel_rfl) (by kernel_rfl) (fun _ _ _ h => h) (by kernel_rfl) (by kernel_rfl) (Or.inl ⟨by rfl, ?_⟩) HW0.out ?_
     rotate_left
     ·(intro w9 h9; go_simp; try with_reducible rfl)
     try simp only [lz1, lz2, lz3, Act.put, lz4, lz5, lz6]
     refine AnyT.takeM (i := 5) (v := ?_) rfl (by kernel_rfl) (by kernel_rfl) (fun _ _ _ h => h) (by kernel_rfl) (by kernel_rfl) (Or.inl ⟨by rfl, ?_⟩) HW0.out ?_
     rotate_left
     ·(intro w9 h9; obtain ⟨y0, y1, y2⟩ := blk3 (HB9.out.c0 h9); go_simp; try with_reducible rfl)
     try simp only [lz1, lz2, lz3, Act.put, lz4, lz5, lz6]
     refine AnyT.one (i := 3) (by kernel_rfl) rfl (fun K hK => ?_)
     rw [if_pos (by rfl)]
     try simp only [lz1, lz2, lz3, Act.put, lz4, lz5, lz6]
     have hcc := refCopy (HX9.out.1.c0 HW0.out) HX.out.2.2.1
     go_wp2_with (go_at_call 47; refine hcc.mono ?_; rintro e x1 ⟨u1, rfl, hu, hc⟩)
     obtain ⟨UA, un, uc, rfl⟩ := hu.shapeH
     have HW1 := hide (HW0.out.trans0 hc)
     refine hK.out _ _ (fun _ => HW1.out) ?_
     have HU1 := hide (And.intro hu HW0.out.size)
     clear hcc hu hc
     clear hK K
     try simp only [lz1, lz2, lz3, Act.put, lz4, lz5, lz6]
     refine AnyT.one (i := 6) (by kernel_rfl) rfl (fun K hK => ?_)
     rw [if_pos (by rfl)]
     try simp only [lz1, lz2, lz3, Act.put, lz4, lz5, lz6]
     have hcc := refCopy (HX9.out.2.c0 HW1.out) (HX.out.2.2.2 HXF.out)
     go_wp2_with (go_at_call 47; refine hcc.mono ?_; rintro e x2 ⟨u2, rfl, hu, hc⟩)
     obtain ⟨VA, vn, vc, rfl⟩ := hu.shapeH
     have HW2 := hide (HW1.out.trans0 hc)
     refine hK.out _ _ (fun _ => HW2.out) ?_
     have HU2 := hide (And.intro hu (And.intro (HU1.out.1.chg hc fun _ _ h => h) (And.intro HU1.out.2 HW1.out.size)))
     clear hcc hu hc
     clear hK K
     try simp only [lz1, lz2, lz3, Act.put, lz4, lz5, lz6]
     refine AnyT.takeM (i := 7) (v := ?_) rfl (by kernel_rfl) (by kernel_rfl) (fun _ _ _ h => h) (by kernel_rfl) (by kernel_rfl) (Or.inl ⟨by rfl, ?_⟩) HW2.out ?_
     rotate_left
     ·(intro w9 h9; go_simp; try with_reducible rfl)
     try simp only [lz1, lz2, lz3, Act.put, lz4, lz5, lz6]
     refine AnyT.one (i := 8) (by kernel_rfl) rfl (fun K hK => ?_)
     rw [if_pos (by rfl)]
     try simp only [lz1, lz2, lz3, Act.put, lz4, lz5, lz6]
     go_simp
     have hd3 := (Chg.refl Non x2).alloc (.cells #[.slice UA un uc, .slice VA vn vc] 71)
     have hb3 := Blk.new x2 71 #[.slice UA un uc, .slice VA vn vc]
     obtain ⟨ghb3, hghb3⟩ : ∃ g, g = x2.heap.size := ⟨_, rfl⟩
     rw [← hghb3] at hb3 ⊢
     generalize hww : World.alloc x2 _ = x3
     rw [show x2.alloc (.cells #[.slice UA un uc, .slice VA vn vc] 71) = x3 from hww] at hd3 hb3
     have HGhb3 := hide hghb3
     clear hww hghb3
     have HW3 := hide (HW2.out.trans0 hd3)
     refine hK.out _ _ (fun _ => HW3.out) ?_
     clear hK K
     try simp only [lz1, lz2, lz3, Act.put, lz4, lz5, lz6]
     refine AnyT.one (i := 9) (by kernel_rfl) rfl (fun K hK => ?_)
     rw [if_pos (by rfl)]
     try simp only [lz1, lz2, lz3, Act.put, lz4, lz5, lz6]
     have hrd : RdB x3 (fun b => ((F b ∧ b < N) ∨ N < b) ∧ b < x3.heap.size ∧ (Value.slice OA on oc).ownBlock ≠ some b) (.slice UA un uc) x.a ∧ RdB x3 (fun b => ((F b ∧ b < N) ∨ N < b) ∧ b < x3.heap.size ∧ (Value.slice OA on oc).ownBlock ≠ some b) (.slice VA vn vc) x.b := by
      have h1 := HU2.out.2.2
      have h3 := hd3.size
      have h4 := HOQ.out.bl
      have h5 := HNS.out
      have h6 := HWQ.out.size
      exact ⟨(HU2.out.2.1.rdB.c0 hd3).mono fun b hb => ⟨.inr (by omega), by omega, fun e => by have := (h4 b e).2; omega⟩, (HU2.out.1.rdB.c0 hd3).mono fun b hb => ⟨.inr (by omega), by omega, fun e => by have := (h4 b e).2; omega⟩⟩
     refine oper_E slP _ _ rfl (HOQ.out.c0 HW3.out) rfl (u := (.slice UA un uc, .slice VA vn vc)) (y := (x.a, x.b)) hrd rfl hb3 rfl (by have := HLN.out; have := HN.out; omega) (by have := HNS.out; have := HWQ.out.size; have := HW3.out.size; omega) ?_
     intro v4 x4 hO4 hg4 hat4
     obtain ⟨VB, vbn, vbc, rfl⟩ := hO4.shapeH
     have HO4 := hide hO4
     have HW4 := hide ((HWQ.out.trans0 HW3.out).trans (Chg.of_grown hg4) fun b hb e => by have := (HOQ.out.bl b e.symm).1; have := HNS.out; omega)
     have HQ4 := hide ((HW3.out.mono (S' := fun b => some b = (Value.slice OA on oc).ownBlock) fun _ _ h => (h : False).elim).trans (Chg.of_grown hg4) fun b hb e => e)
     refine hK.out _ _ (fun h => absurd h (by decide)) ?_
     clear hrd hb3 hd3 hO4 hg4 hat4
     clear hK K
     try simp only [lz1, lz2, lz3, Act.put, lz4, lz5, lz6]
     refine AnyT.takeL (i := 10) (v := ?_) rfl (by kernel_rfl) (by kernel_rfl) (fun _ _ _ h => h) (by kernel_rfl) (by kernel_rfl) (Or.inl ⟨by rfl, ?_⟩) ?_
     rotate_left
     ·(intro w9; go_simp; try with_reducible rfl)
     try simp only [lz1, lz2, lz3, Act.put, lz4, lz5, lz6]
     refine AnyT.nil (by kernel_rfl) ?_
     replace h0 := HQ4.out.cell h0 (fun e => by have := (HOQ.out.bl _ e.symm).1; rw [block_of_add] at this; have := hf.2; omega)
     replace h1 := HQ4.out.cell h1 (fun e => by have := (HOQ.out.bl _ e.symm).1; rw [show (⟨(ad.add (k * 2)).block, (ad.add (k * 2)).off + 1, none⟩ : Addr).block = (ad.add (k * 2)).block from rfl, block_of_add] at this; have := hf.2; omega)
     replace HPQ := hide (show RdB x4 (fun k => F k ∧ k < N) (.slice B bn bc) p.1 ∧ RdB x4 (fun k => F k ∧ k < N) (.slice D dn dc) p.2 from ⟨HPQ.out.1.chg HQ4.out fun b hb e => by have := (HOQ.out.bl _ e.symm).1; omega, HPQ.out.2.chg HQ4.out fun b hb e => by have := (HOQ.out.bl _ e.symm).1; omega⟩)
     go_wp2_with fail
     go_roundw
     case rel => exact ⟨k + 1, HLN.out.2, by go_num, by rw [HST.out, step_eqF HZ.out], hide (by rw [HST.out, step_eqF HZ.out]; exact HO4.out), HW4⟩
     case measure => (have := HLN.out.2; simp [intOf]; omega)
   ·generalize hwq : World.drewN wr nq = wq
    have hc0 : Chg Non wr wq := hwq ▸ (Chg.refl Non wr).drewN nq
    have HOQ := hide (hO.out.c0 hc0)
    have HWQ := hide (hW.out.trans0 hc0)
    have HB9 := hide (HB.out.c0 HWQ.out)
    have HX9 := hide (And.intro (HX.out.1.c0 HWQ.out) (HX.out.2.1.c0 HWQ.out))
    have HPQ := hide (And.intro (HP.out.1.c0 hc0) (HP.out.2.c0 hc0))
    replace h0 := hc0.cell h0 (fun h => h)
    replace h1 := hc0.cell h1 (fun h => h)
    clear hwq hc0 hO hW HP r0 r1 r2
    have e1 : decide (cv ≥ 0) = true := decide_eq_true (by omega)
    have e2 : decide (0 ≤ cv) = true := decide_eq_true (by omega)
    have e3 : (cv != 0) = true := by simp; omega
    have e4 : (cv == 0) = false := beq_eq_false_iff_ne.2 (by omega)
    have HZ := hide (show 0 < cmpB p.1 x.a by rw [← HCV.out]; exact hz)
    clear hz
    cases sd with
    | true =>
     go_upto_region 11 with fail
     have hcb := (Chg.refl Non wq).alloc (.cells #[.slice B bn bc, .slice D dn dc] 71)
     have hbb := Blk.new wq 71 #[.slice B bn bc, .slice D dn dc]
     have hO5 := HOQ.out.c0 hcb
     have hrd : RdB (wq.alloc (.cells #[.slice B bn bc, .slice D dn dc] 71)) (fun b => ((F b ∧ b < N) ∨ N < b) ∧ b < (wq.alloc (.cells #[.slice B bn bc, .slice D dn dc] 71)).heap.size ∧ (Value.slice OA on oc).ownBlock ≠ some b) (.slice B bn bc) p.1 ∧ RdB (wq.alloc (.cells #[.slice B bn bc, .slice D dn dc] 71)) (fun b => ((F b ∧ b < N) ∨ N < b) ∧ b < (wq.alloc (.cells #[.slice B bn bc, .slice D dn dc] 71)).heap.size ∧ (Value.slice OA on oc).ownBlock ≠ some b) (.slice D dn dc) p.2 := by
      have h1 := HOQ.out.bl
      have h2 := HWQ.out.size
      have h3 := hcb.size
      have h4 := HNS.out
      exact ⟨(HPQ.out.1.c0 hcb).mono fun b hb => ⟨.inl hb, by omega, fun e => by have := (h1 b e).1; omega⟩, (HPQ.out.2.c0 hcb).mono fun b hb => ⟨.inl hb, by omega, fun e => by have := (h1 b e).1; omega⟩⟩
     have hlb : sl.length + 1 ≤ 1000000000000 := by have := HLN.out; have := HN.out; simp; omega
     have hbs : N + 1 ≤ (wq.alloc (.cells #[.slice B bn bc, .slice D dn dc] 71)).heap.size := by have := HNS.out; have := HWQ.out.size; have := hcb.size; omega
     have hWc := HWQ.out.trans0 hcb
     have HBL := hide HOQ.out.bl
     go_wp2_with (at_builtin; refine append_E slP rfl _ _ rfl hO5 rfl (u := (.slice B bn bc, .slice D dn dc)) (y := p) hrd rfl hbb rfl hlb hbs ?_; intro v6 w6 hO6 hg6 hat6; obtain ⟨WB, wbn, wbc, rfl⟩ := hO6.shapeH)
     have hW6 := hWc.trans (Chg.of_grown hg6) fun b hb e => by have := (HBL.out b e.symm).1; have := HNS.out; omega
     go_roundw
     case rel => exact ⟨k + 1, HLN.out.2, by go_num, by rw [HST.out, step_gtT HZ.out], hide (by rw [HST.out, step_gtT HZ.out]; exact hO6), hide hW6⟩
     case measure => (have := HLN.out.2; simp [intOf]; omega)
    | false =>
     have HXF := hide (show x.f = false from by cases hh : x.f with | false => rfl | true => exact absurd (HGN.out hh) (by decide))
     go_upto_region 8 with fail
     refine wp_region_T (Chg Non wq) 9 (by kernel_rfl) ?_
     have HW0 := hide ((Chg.refl Non wq).drew)
     generalize World.drew wq = x0 at HW0 ⊢
     refine AnyT.takeM (i := 0) (v := ?_) rfl (by kernel_rfl) (by kernel_rfl) (fun _ _ _ h => h) (by kernel_rfl) (by kernel_rfl) (Or.inl ⟨by rfl, ?_⟩) HW0.out ?_
     rotate_left
     ·(intro w9 h9; go_simp; try with_reducible rfl)
     try simp only [lz1, lz2, lz3, Act.put, lz4, lz5, lz6]
     refine AnyT.takeM (i := 1) (v := ?_) rfl (by kernel_rfl) (by kernel_rfl) (fun _ _ _ h => h) (by kernel_rfl) (by kernel_rfl) (Or.inl ⟨by rfl, ?_⟩) HW0.out ?_
     rotate_left
     ·(intro w9 h9; go_simp; try with_reducible rfl)
     try simp only [lz1, lz2, lz3, Act.put, lz4, lz5, lz6]
     refine AnyT.takeM (i := 2) (v := ?_) rfl (by kernel_rfl) (by kernel_rfl) (fun _ _ _ h => h) (by kernel_rfl) (by kernel_rfl) (Or.inl ⟨by rfl, ?_⟩) HW0.out ?_
     rotate_left
     ·(intro w9 h9; obtain ⟨y0, y1, y2⟩ := blk3 (HB9.out.c0 h9); go_simp; try with_reducible rfl)
     try simp only [lz1, lz2, lz3, Act.put, lz4, lz5, lz6]
     refine AnyT.takeM (i := 4) (v := ?_) rfl (by kernel_rfl) (by kernel_rfl) (fun _ _ _ h => h) (by kernel_rfl) (by kernel_rfl) (Or.inl ⟨by rfl, ?_⟩) HW0.out ?_
     rotate_left
     ·(intro w9 h9; go_simp; try with_reducible rfl)
     try simp only [lz1, lz2, lz3, Act.put, lz4, lz5, lz6]
     refine AnyT.takeM (i := 5) (v := ?_) rfl (by kernel_rfl) (by kernel_rfl) (fun _ _ _ h => h) (by kernel_rfl) (by kernel_rfl) (Or.inl ⟨by rfl, ?_⟩) HW0.out ?_
     rotate_left
     ·(intro w9 h9; obtain ⟨y0, y1, y2⟩ := blk3 (HB9.out.c0 h9); go_simp; try with_reducible rfl)
     try simp only [lz1, lz2, lz3, Act.put, lz4, lz5, lz6]
     refine AnyT.one (i := 3) (by kernel_rfl) rfl (fun K hK => ?_)
     rw [if_pos (by rfl)]
     try simp only [lz1, lz2, lz3, Act.put, lz4, lz5, lz6]
     have hcc := refCopy (HX9.out.1.c0 HW0.out) HX.out.2.2.1
     go_wp2_with (go_at_call 47; refine hcc.mono ?_; rintro e x1 ⟨u1, rfl, hu, hc⟩)
     obtain ⟨UA, un, uc, rfl⟩ := hu.shapeH
     have HW1 := hide (HW0.out.trans0 hc)
     refine hK.out _ _ (fun _ => HW1.out) ?_
     have HU1 := hide (And.intro hu HW0.out.size)
     clear hcc hu hc
     clear hK K
     try simp only [lz1, lz2, lz3, Act.put, lz4, lz5, lz6]
     refine AnyT.one (i := 6) (by kernel_rfl) rfl (fun K hK => ?_)
     rw [if_pos (by rfl)]
     try simp only [lz1, lz2, lz3, Act.put, lz4, lz5, lz6]
     have hcc := refCopy (HX9.out.2.c0 HW1.out) (HX.out.2.2.2 HXF.out)
     go_wp2_with (go_at_call 47; refine hcc.mono ?_; rintro e x2 ⟨u2, rfl, hu, hc⟩)
     obtain ⟨VA, vn, vc, rfl⟩ := hu.shapeH
     have HW2 := hide (HW1.out.trans0 hc)
     refine hK.out _ _ (fun _ => HW2.out) ?_
     have HU2 := hide (And.intro hu (And.intro (HU1.out.1.chg hc fun _ _ h => h) (And.intro HU1.out.2 HW1.out.size)))
     clear hcc hu hc
     clear hK K
     try simp only [lz1, lz2, lz3, Act.put, lz4, lz5, lz6]
     refine AnyT.takeM (i := 7) (v := ?_) rfl (by kernel_rfl) (by kernel_rfl) (fun _ _ _ h => h) (by kernel_rfl) (by kernel_rfl) (Or.inl ⟨by rfl, ?_⟩) HW2.out ?_
     rotate_left
     ·(intro w9 h9; go_simp; try with_reducible rfl)
     try simp only [lz1, lz2, lz3, Act.put, lz4, lz5, lz6]
     refine AnyT.one (i := 8) (by kernel_rfl) rfl (fun K hK => ?_)
     rw [if_pos (by rfl)]
     try simp only [lz1, lz2, lz3, Act.put, lz4, lz5, lz6]
     go_simp
     have hd3 := (Chg.refl Non x2).alloc (.cells #[.slice UA un uc, .slice VA vn vc] 71)
     have hb3 := Blk.new x2 71 #[.slice UA un uc, .slice VA vn vc]
     obtain ⟨ghb3, hghb3⟩ : ∃ g, g = x2.heap.size := ⟨_, rfl⟩
     rw [← hghb3] at hb3 ⊢
     generalize hww : World.alloc x2 _ = x3
     rw [show x2.alloc (.cells #[.slice UA un uc, .slice VA vn vc] 71) = x3 from hww] at hd3 hb3
     have HGhb3 := hide hghb3
     clear hww hghb3
     have HW3 := hide (HW2.out.trans0 hd3)
     refine hK.out _ _ (fun _ => HW3.out) ?_
     clear hK K
     try simp only [lz1, lz2, lz3, Act.put, lz4, lz5, lz6]
     refine AnyT.one (i := 9) (by kernel_rfl) rfl (fun K hK => ?_)
     rw [if_pos (by rfl)]
     try simp only [lz1, lz2, lz3, Act.put, lz4, lz5, lz6]
     have hrd : RdB x3 (fun b => ((F b ∧ b < N) ∨ N < b) ∧ b < x3.heap.size ∧ (Value.slice OA on oc).ownBlock ≠ some b) (.slice UA un uc) x.a ∧ RdB x3 (fun b => ((F b ∧ b < N) ∨ N < b) ∧ b < x3.heap.size ∧ (Value.slice OA on oc).ownBlock ≠ some b) (.slice VA vn vc) x.b := by
      have h1 := HU2.out.2.2
      have h3 := hd3.size
      have h4 := HOQ.out.bl
      have h5 := HNS.out
      have h6 := HWQ.out.size
      exact ⟨(HU2.out.2.1.rdB.c0 hd3).mono fun b hb => ⟨.inr (by omega), by omega, fun e => by have := (h4 b e).2; omega⟩, (HU2.out.1.rdB.c0 hd3).mono fun b hb => ⟨.inr (by omega), by omega, fun e => by have := (h4 b e).2; omega⟩⟩
     refine oper_E slP _ _ rfl (HOQ.out.c0 HW3.out) rfl (u := (.slice UA un uc, .slice VA vn vc)) (y := (x.a, x.b)) hrd rfl hb3 rfl (by have := HLN.out; have := HN.out; omega) (by have := HNS.out; have := HWQ.out.size; have := HW3.out.size; omega) ?_
     intro v4 x4 hO4 hg4 hat4
     obtain ⟨VB, vbn, vbc, rfl⟩ := hO4.shapeH
     have HO4 := hide hO4
     have HW4 := hide ((HWQ.out.trans0 HW3.out).trans (Chg.of_grown hg4) fun b hb e => by have := (HOQ.out.bl b e.symm).1; have := HNS.out; omega)
     have HQ4 := hide ((HW3.out.mono (S' := fun b => some b = (Value.slice OA on oc).ownBlock) fun _ _ h => (h : False).elim).trans (Chg.of_grown hg4) fun b hb e => e)
     refine hK.out _ _ (fun h => absurd h (by decide)) ?_
     clear hrd hb3 hd3 hO4 hg4 hat4
     clear hK K
     try simp only [lz1, lz2, lz3, Act.put, lz4, lz5, lz6]
     refine AnyT.takeL (i := 10) (v := ?_) rfl (by kernel_rfl) (by kernel_rfl) (fun _ _ _ h => h) (by kernel_rfl) (by kernel_rfl) (Or.inl ⟨by rfl, ?_⟩) ?_
     rotate_left
     ·(intro w9; go_simp; try with_reducible rfl)
     try simp only [lz1, lz2, lz3, Act.put, lz4, lz5, lz6]
     refine AnyT.nil (by kernel_rfl) ?_
     replace h0 := HQ4.out.cell h0 (fun e => by have := (HOQ.out.bl _ e.symm).1; rw [block_of_add] at this; have := hf.2; omega)
     replace h1 := HQ4.out.cell h1 (fun e => by have := (HOQ.out.bl _ e.symm).1; rw [show (⟨(ad.add (k * 2)).block, (ad.add (k * 2)).off + 1, none⟩ : Addr).block = (ad.add (k * 2)).block from rfl, block_of_add] at this; have := hf.2; omega)
     replace HPQ := hide (show RdB x4 (fun k => F k ∧ k < N) (.slice B bn bc) p.1 ∧ RdB x4 (fun k => F k ∧ k < N) (.slice D dn dc) p.2 from ⟨HPQ.out.1.chg HQ4.out fun b hb e => by have := (HOQ.out.bl _ e.symm).1; omega, HPQ.out.2.chg HQ4.out fun b hb e => by have := (HOQ.out.bl _ e.symm).1; omega⟩)
     go_upto_region 11 with fail
     have hcb := (Chg.refl Non x4).alloc (.cells #[.slice B bn bc, .slice D dn dc] 71)
     have hbb := Blk.new x4 71 #[.slice B bn bc, .slice D dn dc]
     have hO5 := HO4.out.c0 hcb
     have hrd : RdB (x4.alloc (.cells #[.slice B bn bc, .slice D dn dc] 71)) (fun b => ((F b ∧ b < N) ∨ N < b) ∧ b < (x4.alloc (.cells #[.slice B bn bc, .slice D dn dc] 71)).heap.size ∧ (Value.slice VB vbn vbc).ownBlock ≠ some b) (.slice B bn bc) p.1 ∧ RdB (x4.alloc (.cells #[.slice B bn bc, .slice D dn dc] 71)) (fun b => ((F b ∧ b < N) ∨ N < b) ∧ b < (x4.alloc (.cells #[.slice B bn bc, .slice D dn dc] 71)).heap.size ∧ (Value.slice VB vbn vbc).ownBlock ≠ some b) (.slice D dn dc) p.2 := by
      have h1 := HO4.out.bl
      have h2 := HW4.out.size
      have h3 := hcb.size
      have h4 := HNS.out
      exact ⟨(HPQ.out.1.c0 hcb).mono fun b hb => ⟨.inl hb, by omega, fun e => by have := (h1 b e).1; omega⟩, (HPQ.out.2.c0 hcb).mono fun b hb => ⟨.inl hb, by omega, fun e => by have := (h1 b e).1; omega⟩⟩
     have hlb : (sl ++ [(x.a, x.b)]).length + 1 ≤ 1000000000000 := by have := HLN.out; have := HN.out; simp; omega
     have hbs : N + 1 ≤ (x4.alloc (.cells #[.slice B bn bc, .slice D dn dc] 71)).heap.size := by have := HNS.out; have := HW4.out.size; have := hcb.size; omega
     have hWc := HW4.out.trans0 hcb
     have HBL := hide HO4.out.bl
     go_wp2_with (at_builtin; refine append_E slP rfl _ _ rfl hO5 rfl (u := (.slice B bn bc, .slice D dn dc)) (y := p) hrd rfl hbb rfl hlb hbs ?_; intro v6 w6 hO6 hg6 hat6; obtain ⟨WB, wbn, wbc, rfl⟩ := hO6.shapeH)
     have hW6 := hWc.trans (Chg.of_grown hg6) fun b hb e => by have := (HBL.out b e.symm).1; have := HNS.out; omega
     go_roundw
     case rel => exact ⟨k + 1, HLN.out.2, by go_num, by rw [HST.out, step_gtF HZ.out], hide (by rw [HST.out, step_gtF HZ.out]; exact hO6), hide hW6⟩
     case measure => (have := HLN.out.2; simp [intOf]; omega)
  ·have e : k = l.length := by omega
   subst e
   have hln := stP_len (x := x) (Nat.le_refl l.length)
   have hgn : x.f = true → (stP x l l.length).1 = true := fun h => stP_gone h (Nat.le_refl _)
   have hput : putR x l = if (stP x l l.length).1 = true then (stP x l l.length).2 else (stP x l l.length).2 ++ [(x.a, x.b)] := rfl
   obtain ⟨⟨sd, sl⟩, hs⟩ : ∃ s, s = stP x l l.length := ⟨_, rfl⟩
   rw [← hs] at hO hln hgn hput ⊢
   dsimp only at hO hln hgn hput ⊢
   have HPT := hide hput
   have HLN := hide hln
   have HGN := hide hgn
   clear hs hln hgn hput hk
   cases sd with
   | true =>
    clear r0 r1 r2
    go_wp2_with fail
    go_ret
    refine ⟨_, rfl, ?_, HNW.out.2.trans0 hW.out⟩
    rw [show putR x l = sl by rw [HPT.out]; simp]
    have hn := HNW.out.1
    exact (hO.out.mono fun b hb _ => by rcases hb with h | h; exact .inl h.1; exact .inr (by omega)).low (by omega)
   | false =>
    have HXF := hide (show x.f = false from by cases hh : x.f with | false => rfl | true => exact absurd (HGN.out hh) (by decide))
    have HOQ := hO
    have HWQ := hW
    have HB9 := hide (HB.out.c0 HWQ.out)
    have HX9 := hide (And.intro (HX.out.1.c0 HWQ.out) (HX.out.2.1.c0 HWQ.out))
    clear hO hW r0 r1 r2
    obtain ⟨wq, hwq⟩ : ∃ wq, wq = wr := ⟨_, rfl⟩
    rw [← hwq] at HOQ HWQ HB9 HX9 ⊢
    clear hwq
    go_upto_region 13 with fail
    refine wp_region_T (Chg Non wq) 9 (by kernel_rfl) ?_
    have HW0 := hide ((Chg.refl Non wq).drew)
    generalize World.drew wq = x0 at HW0 ⊢
    refine AnyT.takeM (i := 0) (v := ?_) rfl (by kernel_rfl) (by kernel_rfl) (fun _ _ _ h => h) (by kernel_rfl) (by kernel_rfl) (Or.inl ⟨by rfl, ?_⟩) HW0.out ?_
    rotate_left
    ·(intro w9 h9; go_simp; try with_reducible rfl)
    try simp only [lz1, lz2, lz3, Act.put, lz4, lz5, lz6]
    refine AnyT.takeM (i := 1) (v := ?_) rfl (by kernel_rfl) (by kernel_rfl) (fun _ _ _ h => h) (by kernel_rfl) (by kernel_rfl) (Or.inl ⟨by rfl, ?_⟩) HW0.out ?_
    rotate_left
    ·(intro w9 h9; go_simp; try with_reducible rfl)
    try simp only [lz1, lz2, lz3, Act.put, lz4, lz5, lz6]
    refine AnyT.takeM (i := 2) (v := ?_) rfl (by kernel_rfl) (by kernel_rfl) (fun _ _ _ h => h) (by kernel_rfl) (by kernel_rfl) (Or.inl ⟨by rfl, ?_⟩) HW0.out ?_
    rotate_left
    ·(intro w9 h9; obtain ⟨y0, y1, y2⟩ := blk3 (HB9.out.c0 h9); go_simp; try with_reducible rfl)
    try simp only [lz1, lz2, lz3, Act.put, lz4, lz5, lz6]
    refine AnyT.takeM (i := 4) (v := ?_) rfl (by kernel_rfl) (by kernel_rfl) (fun _ _ _ h => h) (by kernel_rfl) (by kernel_rfl) (Or.inl ⟨by rfl, ?_⟩) HW0.out ?_
    rotate_left
    ·(intro w9 h9; go_simp; try with_reducible rfl)
    try simp only [lz1, lz2, lz3, Act.put, lz4, lz5, lz6]
    refine AnyT.takeM (i := 5) (v := ?_) rfl (by kernel_rfl) (by kernel_rfl) (fun _ _ _ h => h) (by kernel_rfl) (by kernel_rfl) (Or.inl ⟨by rfl, ?_⟩) HW0.out ?_
    rotate_left
    ·(intro w9 h9; obtain ⟨y0, y1, y2⟩ := blk3 (HB9.out.c0 h9); go_simp; try with_reducible rfl)
    try simp only [lz1, lz2, lz3, Act.put, lz4, lz5, lz6]
    refine AnyT.one (i := 3) (by kernel_rfl) rfl (fun K hK => ?_)
    rw [if_pos (by rfl)]
    try simp only [lz1, lz2, lz3, Act.put, lz4, lz5, lz6]
    have hcc := refCopy (HX9.out.1.c0 HW0.out) HX.out.2.2.1
    go_wp2_with (go_at_call 47; refine hcc.mono ?_; rintro e x1 ⟨u1, rfl, hu, hc⟩)
    obtain ⟨UA, un, uc, rfl⟩ := hu.shapeH
    have HW1 := hide (HW0.out.trans0 hc)
    refine hK.out _ _ (fun _ => HW1.out) ?_
    have HU1 := hide (And.intro hu HW0.out.size)
    clear hcc hu hc
    clear hK K
    try simp only [lz1, lz2, lz3, Act.put, lz4, lz5, lz6]
    refine AnyT.one (i := 6) (by kernel_rfl) rfl (fun K hK => ?_)
    rw [if_pos (by rfl)]
    try simp only [lz1, lz2, lz3, Act.put, lz4, lz5, lz6]
    have hcc := refCopy (HX9.out.2.c0 HW1.out) (HX.out.2.2.2 HXF.out)
    go_wp2_with (go_at_call 47; refine hcc.mono ?_; rintro e x2 ⟨u2, rfl, hu, hc⟩)
    obtain ⟨VA, vn, vc, rfl⟩ := hu.shapeH
    have HW2 := hide (HW1.out.trans0 hc)
    refine hK.out _ _ (fun _ => HW2.out) ?_
    have HU2 := hide (And.intro hu (And.intro (HU1.out.1.chg hc fun _ _ h => h) (And.intro HU1.out.2 HW1.out.size)))
    clear hcc hu hc
    clear hK K
    try simp only [lz1, lz2, lz3, Act.put, lz4, lz5, lz6]
    refine AnyT.takeM (i := 7) (v := ?_) rfl (by kernel_rfl) (by kernel_rfl) (fun _ _ _ h => h) (by kernel_rfl) (by kernel_rfl) (Or.inl ⟨by rfl, ?_⟩) HW2.out ?_
    rotate_left
    ·(intro w9 h9; go_simp; try with_reducible rfl)
    try simp only [lz1, lz2, lz3, Act.put, lz4, lz5, lz6]
    refine AnyT.one (i := 8) (by kernel_rfl) rfl (fun K hK => ?_)
    rw [if_pos (by rfl)]
    try simp only [lz1, lz2, lz3, Act.put, lz4, lz5, lz6]
    go_simp
    have hd3 := (Chg.refl Non x2).alloc (.cells #[.slice UA un uc, .slice VA vn vc] 71)
    have hb3 := Blk.new x2 71 #[.slice UA un uc, .slice VA vn vc]
    obtain ⟨ghb3, hghb3⟩ : ∃ g, g = x2.heap.size := ⟨_, rfl⟩
    rw [← hghb3] at hb3 ⊢
    generalize hww : World.alloc x2 _ = x3
    rw [show x2.alloc (.cells #[.slice UA un uc, .slice VA vn vc] 71) = x3 from hww] at hd3 hb3
    have HGhb3 := hide hghb3
    clear hww hghb3
    have HW3 := hide (HW2.out.trans0 hd3)
    refine hK.out _ _ (fun _ => HW3.out) ?_
    clear hK K
    try simp only [lz1, lz2, lz3, Act.put, lz4, lz5, lz6]
    refine AnyT.one (i := 9) (by kernel_rfl) rfl (fun K hK => ?_)
    rw [if_pos (by rfl)]
    try simp only [lz1, lz2, lz3, Act.put, lz4, lz5, lz6]
    have hrd : RdB x3 (fun b => ((F b ∧ b < N) ∨ N < b) ∧ b < x3.heap.size ∧ (Value.slice OA on oc).ownBlock ≠ some b) (.slice UA un uc) x.a ∧ RdB x3 (fun b => ((F b ∧ b < N) ∨ N < b) ∧ b < x3.heap.size ∧ (Value.slice OA on oc).ownBlock ≠ some b) (.slice VA vn vc) x.b := by
     have h1 := HU2.out.2.2
     have h3 := hd3.size
     have h4 := HOQ.out.bl
     have h5 := HNS.out
     have h6 := HWQ.out.size
     exact ⟨(HU2.out.2.1.rdB.c0 hd3).mono fun b hb => ⟨.inr (by omega), by omega, fun e => by have := (h4 b e).2; omega⟩, (HU2.out.1.rdB.c0 hd3).mono fun b hb => ⟨.inr (by omega), by omega, fun e => by have := (h4 b e).2; omega⟩⟩
    refine oper_E slP _ _ rfl (HOQ.out.c0 HW3.out) rfl (u := (.slice UA un uc, .slice VA vn vc)) (y := (x.a, x.b)) hrd rfl hb3 rfl (by have := HLN.out; have := HN.out; omega) (by have := HNS.out; have := HWQ.out.size; have := HW3.out.size; omega) ?_
    intro v4 x4 hO4 hg4 hat4
    obtain ⟨VB, vbn, vbc, rfl⟩ := hO4.shapeH
    have HO4 := hide hO4
    have HW4 := hide ((HWQ.out.trans0 HW3.out).trans (Chg.of_grown hg4) fun b hb e => by have := (HOQ.out.bl b e.symm).1; have := HNS.out; omega)
    have HQ4 := hide ((HW3.out.mono (S' := fun b => some b = (Value.slice OA on oc).ownBlock) fun _ _ h => (h : False).elim).trans (Chg.of_grown hg4) fun b hb e => e)
    refine hK.out _ _ (fun h => absurd h (by decide)) ?_
    clear hrd hb3 hd3 hO4 hg4 hat4
    clear hK K
    try simp only [lz1, lz2, lz3, Act.put, lz4, lz5, lz6]
    refine AnyT.takeL (i := 10) (v := ?_) rfl (by kernel_rfl) (by kernel_rfl) (fun _ _ _ h => h) (by kernel_rfl) (by kernel_rfl) (Or.inl ⟨by rfl, ?_⟩) ?_
    rotate_left
    ·(intro w9; go_simp; try with_reducible rfl)
    try simp only [lz1, lz2, lz3, Act.put, lz4, lz5, lz6]
    refine AnyT.nil (by kernel_rfl) ?_
    go_wp2_with fail
    go_ret
    refine ⟨_, rfl, ?_, HNW.out.2.trans0 HW4.out⟩
    rw [show putR x l = sl ++ [(x.a, x.b)] by rw [HPT.out]; simp]
    have hn := HNW.out.1
    exact (HO4.out.mono fun b hb _ => by rcases hb with h | h; exact .inl h.1; exact .inr (by omega)).low (by omega)
end
end Go.Proofs.YtliimeoblffigaaGreat

