/- The walk of leaf.Decode, of a leaf's page. -/
import Derived.Test.YtliimeoblffigaaGreatNdAG
import Derived.Deep.CutRange
open List renaming getElem_toArray → lz1, getElem_cons_succ → lz2, getElem_cons_zero → lz3, setIfInBounds_toArray → lz4, set_cons_zero → lz5, set_cons_succ → lz6
set_option linter.unusedVariables false
set_option linter.unusedSimpArgs false
set_option maxRecDepth 100000
namespace Go.Proofs.YtliimeoblffigaaGreat
open Go.RowKit
set_option linter.unusedVariables false
set_option linter.unusedSimpArgs false

theorem crTakeP {w : World} {N g n : Nat} {a r : List UInt8} (h : Cur w N g (a ++ r)) (hn : n = a.length) (hl : a.length + r.length ≤ 100000000) :
  Calls Tryz.prog 193 #[.pointer (some ⟨g, 0, none⟩), .int .i64 (n : Int)] w fun e w' => ∃ u, e = .returned u ∧ OwnB w' w.heap.size u a ∧ Cur w' N g r ∧ Chg (fun k => k = g) w w' := by
 have := crTake (n := n) h (by rw [List.length_append]; omega) (by rw [List.length_append]; exact hl)
 rw [hn, List.take_left, List.drop_left, ← hn] at this
 exact this
set_option maxHeartbeats 8000000 in
theorem lfDecode {w : World} {F : Nat → Prop} {pv : Value} {l : List KV} (hp0 : RdB w F pv (pageKV l)) (hg : GoodKV l) (hs : sizeKV l ≤ 512) :
  Calls Tryz.prog 162 #[pv] w fun e w' => ∃ kv vv, e = .returned (.tuple #[.agg #[.bool true, kv, vv, .slice none 0 0], .int .i64 0]) ∧ RdBB w' (fun b => w.heap.size ≤ b ∧ b < w'.heap.size) kv (ksL l) ∧ RdBB w' (fun b => w.heap.size ≤ b ∧ b < w'.heap.size) vv (vsL l) ∧ Chg Non w w' := by
 have hp : RdB w (fun b => b < w.heap.size) pv (pageKV l) := hp0.lt.mono fun b h => h.2
 clear hp0
 have hpl := pageKV_length hs
 have hnl := len_le_size l
 have hlen := fun w' ty => run_len8 hp w' ty
 rw [hpl] at hlen
 obtain ⟨PA, pc, rfl, _, _⟩ := hp.shape
 rw [hpl] at hp hlen ⊢
 go_enter Tryz.func162, Tryz.ntmps162
 go_upto_region 4 with fail
 obtain ⟨N, hN⟩ : ∃ N, N = w.heap.size := ⟨_, rfl⟩
 have hr := Blk.new w 125 #[.bool false, .slice none 0 0, .slice none 0 0, .slice none 0 0]
 have hca := (Chg.refl Non w).alloc (.cells #[.bool false, .slice none 0 0, .slice none 0 0, .slice none 0 0] 125)
 have hna : (w.alloc (.cells #[.bool false, .slice none 0 0, .slice none 0 0, .slice none 0 0] 125)).heap.size = w.heap.size + 1 := Array.size_push ..
 have hcb := (Chg.refl Non (w.alloc (.cells #[.bool false, .slice none 0 0, .slice none 0 0, .slice none 0 0] 125))).alloc (.cells #[.slice PA 512 pc, .bool false] 288)
 have hgc := Blk.new (w.alloc (.cells #[.bool false, .slice none 0 0, .slice none 0 0, .slice none 0 0] 125)) 288 #[.slice PA 512 pc, .bool false]
 rw [hna] at hgc
 have hr2 := hr.c0 hcb
 have hc02 := hca.trans0 hcb
 have hp2 := hp.c0 hc02
 rw [← hN] at hgc hr2 hp2 hna hp ⊢
 have hn2 := sizeAl' (w.alloc (.cells #[.bool false, .slice none 0 0, .slice none 0 0, .slice none 0 0] 125)) (.cells #[.slice PA 512 pc, .bool false] 288)
 rw [hna] at hn2
 have HNN := hide hN
 clear hN hr hca hcb hna hlen hp
 generalize World.alloc (World.alloc w _) _ = w2 at hgc hr2 hc02 hp2 hn2 ⊢
 have hpg : pageKV l = 1 :: hi8 l.length :: lo8 l.length :: (l.flatMap encP ++ List.replicate (512 - sizeKV l) 0) := by
  unfold pageKV encKV; rfl
 rw [hpg] at hp2
 obtain ⟨zs, hzs⟩ : ∃ zs : List UInt8, zs = List.replicate (512 - sizeKV l) 0 := ⟨_, rfl⟩
 have hz0 : ∀ x ∈ zs, x = 0 := fun x hx => by rw [hzs] at hx; exact List.eq_of_mem_replicate hx
 have hfl : (l.flatMap encP).length + zs.length + 3 = 512 := by
  have h1 := encKV_length l
  unfold encKV at h1
  simp only [List.length_cons] at h1
  rw [hzs, List.length_replicate]; omega
 rw [← hzs] at hp2
 have hcur : Cur w2 N (N + 1) (1 :: hi8 l.length :: lo8 l.length :: (l.flatMap encP ++ zs)) := ⟨⟨_, hgc, hp2⟩, by omega⟩
 have hone := crOne hcur (by simp only [List.length_cons, List.length_append]; omega)
 have HR2 := hide hr2
 have HC02 := hide hc02
 have HZ := hide hz0
 clear hgc hp2 hpg hzs hcur hr2 hc02 hz0
 go_wp2_with fail
 refine hone.mono ?_
 rintro e w3 ⟨rfl, hcur3, hc3⟩
 have n3 := hc3.size
 clear hone
 go_upto_region 6 with fail
 have hgn := Blk.new w3 125 #[.bool true, .slice none 0 0, .slice none 0 0, .slice none 0 0]
 have hc4 := (Chg.refl Non w3).alloc (.cells #[.bool true, .slice none 0 0, .slice none 0 0, .slice none 0 0] 125)
 have n4 := sizeAl' w3 (.cells #[.bool true, .slice none 0 0, .slice none 0 0, .slice none 0 0] 125)
 obtain ⟨gn, hgne⟩ : ∃ g, g = w3.heap.size := ⟨_, rfl⟩
 rw [← hgne] at hgn n4 ⊢
 have hcur4 := hcur3.c0 hc4
 have HN3 := hide hgne
 generalize World.alloc w3 _ = w4 at hgn hc4 n4 hcur4 ⊢
 have hgnN : N + 2 ≤ gn := by omega
 have htwo := crTwo hcur4 (by simp only [List.length_append]; omega)
 have hlc : (hi8 l.length).toNat * 256 + (lo8 l.length).toNat = l.length := hilo _ (by omega)
 rw [hlc] at htwo
 have hc24 : Chg (fun k => k = N + 1) w2 w4 := hc3.trans hc4 fun _ _ h => h.elim
 have HGN := hide hgn
 have HC24 := hide hc24
 clear hgne hcur3 hcur4 hlc hgn hc3 hc4 hc24
 go_wp2_with fail
 refine htwo.mono ?_
 rintro e w5 ⟨rfl, hcur5, hc5⟩
 have hgn5 := HGN.out.chg hc5 (show ¬ gn = N + 1 by omega)
 have b0 : w5.cell? ⟨gn, 0, none⟩ = some (.bool true) := hgn5.cell 0
 have HC25 := hide (HC24.out.trans hc5 fun _ _ h => h)
 have HGN5 := hide hgn5
 have HCUR5 := hide hcur5
 have n5 := hc5.size
 clear htwo hgn5 hcur5 hc5
 go_wp2_with fail
 go_loopw [8] (fun iv wr => ∃ (i : Nat) (kv vv : Value), i ≤ l.length ∧ iv = .int .i64 (i : Int) ∧ Blk wr gn 125 #[.bool true, kv, vv, .slice none 0 0] ∧ Two wr w5.heap.size kv vv (ksL (l.take i)) (vsL (l.take i)) ∧ Cur wr N (N + 1) ((l.drop i).flatMap encP ++ zs) ∧ Chg (fun k => k = N + 1 ∨ k = gn) w5 wr) (fun iv _ => l.length - (intOf iv).toNat)
 case atStart => exact ⟨0, _, _, Nat.zero_le _, rfl, HGN5.out, Two.nil_ _ _, HCUR5.out, Chg.refl _ _⟩
 case round =>
  obtain ⟨i, kv, vv, hi, rfl, hbn, hT, hC, hcw⟩ := hrel
  have hcu := hC
  obtain ⟨cv, hcb, hcr⟩ := hcu.ex
  have c1 : wr.cell? ⟨N + 1, 1, none⟩ = some (.bool false) := hcb.cell 1
  have c0 : wr.cell? ⟨N + 1, 0, none⟩ = some cv := hcb.cell 0
  have nr := hcw.size
  by_cases hil : i < l.length
  ·obtain ⟨p, hp⟩ : ∃ p, p = l[i] := ⟨_, rfl⟩
   have hpm : p ∈ l := by rw [hp]; exact List.getElem_mem hil
   have hpl := hg.len p hpm
   have hdr : l.drop i = p :: l.drop (i + 1) := by rw [hp]; exact List.drop_eq_getElem_cons hil
   have hkt : ksL (l.take (i + 1)) = ksL (l.take i) ++ [p.1] := by rw [List.take_succ_eq_append_getElem hil, ksL_app, ← hp]; rfl
   have hvt : vsL (l.take (i + 1)) = vsL (l.take i) ++ [p.2] := by rw [List.take_succ_eq_append_getElem hil, vsL_app, ← hp]; rfl
   obtain ⟨rs, hrs⟩ : ∃ rs, rs = (l.drop (i + 1)).flatMap encP ++ zs := ⟨_, rfl⟩
   have hst : (l.drop i).flatMap encP ++ zs = UInt8.ofNat p.1.length :: (p.1 ++ (hi8 p.2.length :: lo8 p.2.length :: (p.2 ++ rs))) := by
    rw [hdr, List.flatMap_cons, hrs]; simp [encP]
   have hrl : rs.length + p.1.length + p.2.length + 3 ≤ 512 := by
    have h1 := congrArg List.length hst
    have h2 : ((l.drop i).flatMap encP).length ≤ (l.flatMap encP).length := by
     conv => rhs; rw [← List.take_append_drop i l, List.flatMap_append, List.length_append]
     omega
    simp only [List.length_append, List.length_cons] at h1
    omega
   rw [hst] at hC
   obtain ⟨KA, kn, kc, rfl⟩ := hT.k.shapeH
   obtain ⟨VA, vn, vc, rfl⟩ := hT.v.shapeH
   obtain ⟨L1, hL1⟩ : ∃ L1, L1 = p.1.length := ⟨_, rfl⟩
   obtain ⟨L2, hL2⟩ : ∃ L2, L2 = p.2.length := ⟨_, rfl⟩
   rw [← hL1] at hC hrl hpl
   rw [← hL2] at hC hrl hpl
   have t8 := toNat8 (n := L1) (by omega)
   have hlt1 : (ksL (l.take i)).length ≤ 1000 := by rw [ksL_length, List.length_take]; omega
   have hlt2 : (vsL (l.take i)).length ≤ 1000 := by rw [vsL_length, List.length_take]; omega
   have hdi : ¬ l.length ≤ i := by omega
   have HC := hide hC
   have H8 := hide t8
   have HIL := hide hil
   have HKT := hide (And.intro hkt hvt)
   have HRS := hide hrs
   have HL := hide (And.intro hL1 (And.intro hL2 (And.intro hlt1 hlt2)))
   have HTW := hide hT
   have HBN := hide hbn
   have HCW := hide hcw
   clear hp hpm hdr hkt hvt hrs hst hL1 hL2 t8 hlt1 hlt2 hT hC hcu hcb hcr hbn hcw hi b0
   go_upto_region 12 with fail
   have HRL := hide hrl
   have HPL := hide hpl
   clear hrl hpl c0 c1
   refine wp_region_T (fun wx => Blk wx gn 125 #[.bool true, .slice KA kn kc, .slice VA vn vc, .slice none 0 0]) 9 (by kernel_rfl) ?_
   have HT0 : Hid (Two wr.drew w5.heap.size (.slice KA kn kc) (.slice VA vn vc) (ksL (l.take i)) (vsL (l.take i))) := hide (HTW.out.c0 ((Chg.refl Non wr).drew))
   have HB0 : Hid (Blk wr.drew gn 125 #[.bool true, .slice KA kn kc, .slice VA vn vc, .slice none 0 0]) := hide (HBN.out.c0 ((Chg.refl Non wr).drew))
   have HC0 : Hid (Cur wr.drew N (N + 1) (UInt8.ofNat L1 :: (p.1 ++ (hi8 L2 :: lo8 L2 :: (p.2 ++ rs))))) := hide (HC.out.c0 ((Chg.refl Non wr).drew))
   have HW0 : Hid (Chg (fun k => k = N + 1 ∨ k = gn) w5 wr.drew) := hide HCW.out.drew
   clear HTW HBN HC HCW nr
   generalize World.drew wr = x0 at HT0 HB0 HC0 HW0 ⊢
   have HW0s := HW0.out.size
   have HL9 := hide True.intro
   refine AnyT.take (i := 0) (v := ?_) rfl (by kernel_rfl) (by kernel_rfl) (fun _ _ _ h => h) (by kernel_rfl) (by kernel_rfl) (Or.inl ⟨by rfl, ?_⟩) HB0.out ?_
   rotate_left
   ·(intro w9 h9; go_simp; try with_reducible rfl)
   try simp only [lz1, lz2, lz3, Act.put, lz4, lz5, lz6]
   refine AnyT.take (i := 1) (v := ?_) rfl (by kernel_rfl) (by kernel_rfl) (fun _ _ _ h => h) (by kernel_rfl) (by kernel_rfl) (Or.inl ⟨by rfl, ?_⟩) HB0.out ?_
   rotate_left
   ·(intro w9 h9; have y1 : w9.cell? ⟨gn, 1, none⟩ = some (.slice KA kn kc) := h9.cell 1; go_simp; try with_reducible rfl)
   try simp only [lz1, lz2, lz3, Act.put, lz4, lz5, lz6]
   refine AnyT.take (i := 2) (v := ?_) rfl (by kernel_rfl) (by kernel_rfl) (fun _ _ _ h => h) (by kernel_rfl) (by kernel_rfl) (Or.inl ⟨by rfl, ?_⟩) HB0.out ?_
   rotate_left
   ·(intro w9 h9; go_simp; try with_reducible rfl)
   try simp only [lz1, lz2, lz3, Act.put, lz4, lz5, lz6]
   refine AnyT.take (i := 3) (v := ?_) rfl (by kernel_rfl) (by kernel_rfl) (fun _ _ _ h => h) (by kernel_rfl) (by kernel_rfl) (Or.inl ⟨by rfl, ?_⟩) HB0.out ?_
   rotate_left
   ·(intro w9 h9; go_simp; try with_reducible rfl)
   try simp only [lz1, lz2, lz3, Act.put, lz4, lz5, lz6]
   refine AnyT.one (i := 4) (by kernel_rfl) rfl (fun K hK => ?_)
   rw [if_pos (by rfl)]
   try simp only [lz1, lz2, lz3, Act.put, lz4, lz5, lz6]
   have hcc := crOne HC0.out (by simp only [List.length_append, List.length_cons]; have := HRL.out; have := HL.out; omega)
   rw [H8.out] at hcc
   go_wp2_with (go_at_call 191; refine hcc.mono ?_; rintro e x1 ⟨rfl, hC1, hd1⟩)
   have HC1 := hide hC1
   have HB1 := hide (HB0.out.chg hd1 (show ¬ gn = N + 1 by omega))
   have HT1 := hide (HT0.out.chg hd1 fun b hb e => by have e : b = N + 1 := e; omega)
   have HW1 := hide (HW0.out.trans hd1 fun b hb e => .inl e)
   have n1 := hd1.size
   refine hK.out _ _ (fun _ => HB1.out) ?_
   clear hcc hC1 hd1 HC0 HB0 HT0 HW0
   clear hK K
   try simp only [lz1, lz2, lz3, Act.put, lz4, lz5, lz6]
   refine AnyT.one (i := 5) (by kernel_rfl) rfl (fun K hK => ?_)
   rw [if_pos (by rfl)]
   try simp only [lz1, lz2, lz3, Act.put, lz4, lz5, lz6]
   have hcc := crTakeP HC1.out HL.out.1 (by first | (have := HRL.out; have := HL.out; omega) | (simp only [List.length_append, List.length_cons]; have := HRL.out; have := HL.out; omega))
   go_wp2_with (go_at_call 193; refine hcc.mono ?_; rintro e x2 ⟨u, rfl, hu, hC2, hd2⟩)
   obtain ⟨UA, un, uc, rfl⟩ := hu.shapeH
   have HC2 := hide hC2
   have HB2 := hide (HB1.out.chg hd2 (show ¬ gn = N + 1 by omega))
   have HT2 := hide (HT1.out.chg hd2 fun b hb e => by have e : b = N + 1 := e; omega)
   have HW2 := hide (HW1.out.trans hd2 fun b hb e => .inl e)
   have n2 := hd2.size
   refine hK.out _ _ (fun _ => HB2.out) ?_
   clear hcc hC2 hd2 HC1 HB1 HW1
   clear hK K
   try simp only [lz1, lz2, lz3, Act.put, lz4, lz5, lz6]
   refine AnyT.one (i := 6) (by kernel_rfl) rfl (fun K hK => ?_)
   rw [if_pos (by rfl)]
   try simp only [lz1, lz2, lz3, Act.put, lz4, lz5, lz6]
   go_simp
   have hd3 := (Chg.refl Non x2).alloc (.cells #[.slice UA un uc] 30)
   have hb3 := Blk.new x2 30 #[.slice UA un uc]
   obtain ⟨g3, hg3⟩ : ∃ g, g = x2.heap.size := ⟨_, rfl⟩
   rw [← hg3] at hb3 ⊢
   generalize hww : World.alloc x2 _ = x3
   rw [show x2.alloc (.cells #[.slice UA un uc] 30) = x3 from hww] at hd3 hb3
   clear hww hg3
   replace hu := hu.chg hd3 fun _ _ h => h
   have hfr := HT1.out.fresh hu (by have := HW0s; omega)
   have HC3 := hide (HC2.out.c0 hd3)
   have HB3 := hide (HB2.out.c0 hd3)
   have HT3 := hide (HT2.out.c0 hd3)
   have HW3 := hide (HW2.out.trans0 hd3)
   have n3' := hd3.size
   refine hK.out _ _ (fun _ => HB3.out) ?_
   clear hd3 hu HC2 HB2 HT2 HW2 HT1
   clear hK K
   try simp only [lz1, lz2, lz3, Act.put, lz4, lz5, lz6]
   refine AnyT.one (i := 7) (by kernel_rfl) rfl (fun K hK => ?_)
   rw [if_pos (by rfl)]
   try simp only [lz1, lz2, lz3, Act.put, lz4, lz5, lz6]
   refine oper_BB _ _ rfl HT3.out.k rfl hfr.1 hb3 rfl (by have := HL.out.2.2.1; omega) HW3.out.size ?_
   intro kv4 x4 hO4 hg4 hat4
   obtain ⟨KB, kbn, kbc, rfl⟩ := hO4.shapeH
   have HT4 := hide (HT3.out.putK hO4 hg4 hat4)
   have hd4 : Chg (fun b => Value.ownBlock (.slice KA kn kc) = some b) x3 x4 := (Chg.of_grown hg4).mono fun b _ e => e.symm
   have hge : ∀ b, Value.ownBlock (.slice KA kn kc) = some b → w5.heap.size ≤ b := fun b e => (HT3.out.k.lt b e).1
   have HC4 := hide (HC3.out.chg hd4 (fun e => by have := hge _ e; omega) fun b hb e => by have := hge _ e; omega)
   have HB4 := hide (HB3.out.chg hd4 (fun e => by have := hge _ e; omega))
   have HW4 := hide (HW3.out.trans hd4 fun b hb e => by have := hge _ e; omega)
   have n4' := hd4.size
   refine hK.out _ _ (fun _ => HB4.out) ?_
   clear hfr hb3 hO4 hg4 hat4 hd4 hge HC3 HB3 HT3 HW3
   clear hK K
   try simp only [lz1, lz2, lz3, Act.put, lz4, lz5, lz6]
   refine AnyT.take (i := 8) (v := ?_) rfl (by kernel_rfl) (by kernel_rfl) (fun _ _ _ h => h) (by kernel_rfl) (by kernel_rfl) (Or.inl ⟨by rfl, ?_⟩) HB4.out ?_
   rotate_left
   ·(intro w9 h9; go_simp; try with_reducible rfl)
   try simp only [lz1, lz2, lz3, Act.put, lz4, lz5, lz6]
   refine AnyT.one (i := 9) (by kernel_rfl) rfl (fun K hK => ?_)
   rw [if_pos (by rfl)]
   try simp only [lz1, lz2, lz3, Act.put, lz4, lz5, lz6]
   have y1 : x4.cell? ⟨gn, 1, none⟩ = some (.slice KA kn kc) := HB4.out.cell 1
   have z1 := HB4.out.frozen 1
   have hb6 := HB4.out.set_ 1 (.slice KB kbn kbc)
   simp at hb6
   have hd6 : Chg (fun k => k = gn) x4 (x4.setCell ⟨gn, 1, none⟩ (.slice KB kbn kbc)) := Chg.setCell (p := ⟨gn, 1, none⟩) (Chg.refl (fun k => k = gn) x4) (fun _ => rfl) _
   have HB6 := hide hb6
   have HT6 := hide (HT4.out.chg hd6 fun b hb e => by have e : b = gn := e; omega)
   have HC6 := hide (HC4.out.chg hd6 (show ¬ N + 1 = gn by omega) fun b hb e => by have e : b = gn := e; omega)
   have HW6 := hide (HW4.out.trans hd6 fun b hb e => .inr e)
   have b06 := HB6.out.cell 0
   simp at b06
   go_simp
   refine hK.out _ _ (fun h => absurd h (by decide)) ?_
   clear hb6 hd6 y1 z1
   generalize World.setCell x4 _ _ = x6 at HB6 HT6 HC6 HW6 b06 ⊢
   clear hK K
   try simp only [lz1, lz2, lz3, Act.put, lz4, lz5, lz6]
   refine AnyT.nil (by kernel_rfl) ?_
   clear HB4 HT4 HC4 HW4
   clear HL9
   go_upto_region 14 with fail
   refine wp_region_T (fun wx => Blk wx gn 125 #[.bool true, .slice KB kbn kbc, .slice VA vn vc, .slice none 0 0]) 9 (by kernel_rfl) ?_
   have HT0 : Hid (Two x6.drew w5.heap.size (.slice KB kbn kbc) (.slice VA vn vc) (ksL (l.take i) ++ [p.1]) (vsL (l.take i))) := hide (HT6.out.c0 ((Chg.refl Non x6).drew))
   have HB0 : Hid (Blk x6.drew gn 125 #[.bool true, .slice KB kbn kbc, .slice VA vn vc, .slice none 0 0]) := hide (HB6.out.c0 ((Chg.refl Non x6).drew))
   have HC0 : Hid (Cur x6.drew N (N + 1) (hi8 L2 :: lo8 L2 :: (p.2 ++ rs))) := hide (HC6.out.c0 ((Chg.refl Non x6).drew))
   have HW0 : Hid (Chg (fun k => k = N + 1 ∨ k = gn) w5 x6.drew) := hide HW6.out.drew
   clear HT6 HB6 HC6 HW6 b06
   generalize World.drew x6 = x0 at HT0 HB0 HC0 HW0 ⊢
   replace HW0s := HW0.out.size
   refine AnyT.take (i := 0) (v := ?_) rfl (by kernel_rfl) (by kernel_rfl) (fun _ _ _ h => h) (by kernel_rfl) (by kernel_rfl) (Or.inl ⟨by rfl, ?_⟩) HB0.out ?_
   rotate_left
   ·(intro w9 h9; go_simp; try with_reducible rfl)
   try simp only [lz1, lz2, lz3, Act.put, lz4, lz5, lz6]
   refine AnyT.take (i := 1) (v := ?_) rfl (by kernel_rfl) (by kernel_rfl) (fun _ _ _ h => h) (by kernel_rfl) (by kernel_rfl) (Or.inl ⟨by rfl, ?_⟩) HB0.out ?_
   rotate_left
   ·(intro w9 h9; have y1 : w9.cell? ⟨gn, 2, none⟩ = some (.slice VA vn vc) := h9.cell 2; go_simp; try with_reducible rfl)
   try simp only [lz1, lz2, lz3, Act.put, lz4, lz5, lz6]
   refine AnyT.take (i := 2) (v := ?_) rfl (by kernel_rfl) (by kernel_rfl) (fun _ _ _ h => h) (by kernel_rfl) (by kernel_rfl) (Or.inl ⟨by rfl, ?_⟩) HB0.out ?_
   rotate_left
   ·(intro w9 h9; go_simp; try with_reducible rfl)
   try simp only [lz1, lz2, lz3, Act.put, lz4, lz5, lz6]
   refine AnyT.take (i := 3) (v := ?_) rfl (by kernel_rfl) (by kernel_rfl) (fun _ _ _ h => h) (by kernel_rfl) (by kernel_rfl) (Or.inl ⟨by rfl, ?_⟩) HB0.out ?_
   rotate_left
   ·(intro w9 h9; go_simp; try with_reducible rfl)
   try simp only [lz1, lz2, lz3, Act.put, lz4, lz5, lz6]
   refine AnyT.one (i := 4) (by kernel_rfl) rfl (fun K hK => ?_)
   rw [if_pos (by rfl)]
   try simp only [lz1, lz2, lz3, Act.put, lz4, lz5, lz6]
   have hcc := crTwo HC0.out (by simp only [List.length_append, List.length_cons]; have := HRL.out; have := HL.out; omega)
   rw [hilo _ (by have := HPL.out; omega)] at hcc
   go_wp2_with (go_at_call 192; refine hcc.mono ?_; rintro e x1 ⟨rfl, hC1, hd1⟩)
   have HC1 := hide hC1
   have HB1 := hide (HB0.out.chg hd1 (show ¬ gn = N + 1 by omega))
   have HT1 := hide (HT0.out.chg hd1 fun b hb e => by have e : b = N + 1 := e; omega)
   have HW1 := hide (HW0.out.trans hd1 fun b hb e => .inl e)
   have n1 := hd1.size
   refine hK.out _ _ (fun _ => HB1.out) ?_
   clear hcc hC1 hd1 HC0 HB0 HT0 HW0
   clear hK K
   try simp only [lz1, lz2, lz3, Act.put, lz4, lz5, lz6]
   refine AnyT.one (i := 5) (by kernel_rfl) rfl (fun K hK => ?_)
   rw [if_pos (by rfl)]
   try simp only [lz1, lz2, lz3, Act.put, lz4, lz5, lz6]
   have hcc := crTakeP HC1.out HL.out.2.1 (by first | (have := HRL.out; have := HL.out; omega) | (simp only [List.length_append, List.length_cons]; have := HRL.out; have := HL.out; omega))
   go_wp2_with (go_at_call 193; refine hcc.mono ?_; rintro e x2 ⟨u, rfl, hu, hC2, hd2⟩)
   obtain ⟨UA, un, uc, rfl⟩ := hu.shapeH
   have HC2 := hide hC2
   have HB2 := hide (HB1.out.chg hd2 (show ¬ gn = N + 1 by omega))
   have HT2 := hide (HT1.out.chg hd2 fun b hb e => by have e : b = N + 1 := e; omega)
   have HW2 := hide (HW1.out.trans hd2 fun b hb e => .inl e)
   have n2 := hd2.size
   refine hK.out _ _ (fun _ => HB2.out) ?_
   clear hcc hC2 hd2 HC1 HB1 HW1
   clear hK K
   try simp only [lz1, lz2, lz3, Act.put, lz4, lz5, lz6]
   refine AnyT.one (i := 6) (by kernel_rfl) rfl (fun K hK => ?_)
   rw [if_pos (by rfl)]
   try simp only [lz1, lz2, lz3, Act.put, lz4, lz5, lz6]
   go_simp
   have hd3 := (Chg.refl Non x2).alloc (.cells #[.slice UA un uc] 30)
   have hb3 := Blk.new x2 30 #[.slice UA un uc]
   obtain ⟨g3, hg3⟩ : ∃ g, g = x2.heap.size := ⟨_, rfl⟩
   rw [← hg3] at hb3 ⊢
   generalize hww : World.alloc x2 _ = x3
   rw [show x2.alloc (.cells #[.slice UA un uc] 30) = x3 from hww] at hd3 hb3
   clear hww hg3
   replace hu := hu.chg hd3 fun _ _ h => h
   have hfr := HT1.out.fresh hu (by have := HW0s; omega)
   have HC3 := hide (HC2.out.c0 hd3)
   have HB3 := hide (HB2.out.c0 hd3)
   have HT3 := hide (HT2.out.c0 hd3)
   have HW3 := hide (HW2.out.trans0 hd3)
   have n3' := hd3.size
   refine hK.out _ _ (fun _ => HB3.out) ?_
   clear hd3 hu HC2 HB2 HT2 HW2 HT1
   clear hK K
   try simp only [lz1, lz2, lz3, Act.put, lz4, lz5, lz6]
   refine AnyT.one (i := 7) (by kernel_rfl) rfl (fun K hK => ?_)
   rw [if_pos (by rfl)]
   try simp only [lz1, lz2, lz3, Act.put, lz4, lz5, lz6]
   refine oper_BB _ _ rfl HT3.out.v rfl hfr.2 hb3 rfl (by have := HL.out.2.2.2; omega) HW3.out.size ?_
   intro kv4 x4 hO4 hg4 hat4
   obtain ⟨VB, vbn, vbc, rfl⟩ := hO4.shapeH
   have HT4 := hide (HT3.out.putV hO4 hg4 hat4)
   have hd4 : Chg (fun b => Value.ownBlock (.slice VA vn vc) = some b) x3 x4 := (Chg.of_grown hg4).mono fun b _ e => e.symm
   have hge : ∀ b, Value.ownBlock (.slice VA vn vc) = some b → w5.heap.size ≤ b := fun b e => (HT3.out.v.lt b e).1
   have HC4 := hide (HC3.out.chg hd4 (fun e => by have := hge _ e; omega) fun b hb e => by have := hge _ e; omega)
   have HB4 := hide (HB3.out.chg hd4 (fun e => by have := hge _ e; omega))
   have HW4 := hide (HW3.out.trans hd4 fun b hb e => by have := hge _ e; omega)
   have n4' := hd4.size
   refine hK.out _ _ (fun _ => HB4.out) ?_
   clear hfr hb3 hO4 hg4 hat4 hd4 hge HC3 HB3 HT3 HW3
   clear hK K
   try simp only [lz1, lz2, lz3, Act.put, lz4, lz5, lz6]
   refine AnyT.take (i := 8) (v := ?_) rfl (by kernel_rfl) (by kernel_rfl) (fun _ _ _ h => h) (by kernel_rfl) (by kernel_rfl) (Or.inl ⟨by rfl, ?_⟩) HB4.out ?_
   rotate_left
   ·(intro w9 h9; go_simp; try with_reducible rfl)
   try simp only [lz1, lz2, lz3, Act.put, lz4, lz5, lz6]
   refine AnyT.one (i := 9) (by kernel_rfl) rfl (fun K hK => ?_)
   rw [if_pos (by rfl)]
   try simp only [lz1, lz2, lz3, Act.put, lz4, lz5, lz6]
   have y1 : x4.cell? ⟨gn, 2, none⟩ = some (.slice VA vn vc) := HB4.out.cell 2
   have z1 := HB4.out.frozen 2
   have hb6 := HB4.out.set_ 2 (.slice VB vbn vbc)
   simp at hb6
   have hd6 : Chg (fun k => k = gn) x4 (x4.setCell ⟨gn, 2, none⟩ (.slice VB vbn vbc)) := Chg.setCell (p := ⟨gn, 2, none⟩) (Chg.refl (fun k => k = gn) x4) (fun _ => rfl) _
   have HB6 := hide hb6
   have HT6 := hide (HT4.out.chg hd6 fun b hb e => by have e : b = gn := e; omega)
   have HC6 := hide (HC4.out.chg hd6 (show ¬ N + 1 = gn by omega) fun b hb e => by have e : b = gn := e; omega)
   have HW6 := hide (HW4.out.trans hd6 fun b hb e => .inr e)
   have b06 := HB6.out.cell 0
   simp at b06
   go_simp
   refine hK.out _ _ (fun h => absurd h (by decide)) ?_
   clear hb6 hd6 y1 z1
   generalize World.setCell x4 _ _ = x6 at HB6 HT6 HC6 HW6 b06 ⊢
   clear hK K
   try simp only [lz1, lz2, lz3, Act.put, lz4, lz5, lz6]
   refine AnyT.nil (by kernel_rfl) ?_
   clear HB4 HT4 HC4 HW4
   go_wp2_with fail
   go_roundw
   case rel => exact ⟨i + 1, _, _, HIL.out, by go_num, HB6.out, by rw [HKT.out.1, HKT.out.2]; exact HT6.out, by rw [← HRS.out]; exact HC6.out, HW6.out⟩
   case measure => (have := HIL.out; simp [intOf]; omega)
  ·have hik : i = l.length := by omega
   subst hik
   rw [List.take_length] at hT
   rw [List.drop_length] at hC hcr
   have hcr : RdB wr (fun b => b < N) cv zs := hcr
   have hzero := idxZero hcr HZ.out
   have HTW := hide hT
   have HBN := hide hbn
   have HCW := hide hcw
   have b0 : wr.cell? ⟨gn, 0, none⟩ = some (.bool true) := hbn.cell 0
   have b1 : wr.cell? ⟨gn, 1, none⟩ = some kv := hbn.cell 1
   have b2 : wr.cell? ⟨gn, 2, none⟩ = some vv := hbn.cell 2
   have b3 : wr.cell? ⟨gn, 3, none⟩ = some (.slice none 0 0) := hbn.cell 3
   obtain ⟨KA, kn, kc, rfl⟩ := hT.k.shapeH
   obtain ⟨VA, vn, vc, rfl⟩ := hT.v.shapeH
   have hchk := lfCheck (NA := none) (nc := 0) hT.rdK hT.rdV (by rw [ksL_length, vsL_length]) hg.upK (fun x hx => by obtain ⟨p, hp, rfl⟩ := List.mem_map.1 hx; exact (hg.len p hp).1) (fun x hx => by obtain ⟨p, hp, rfl⟩ := List.mem_map.1 hx; exact (hg.len p hp).2)
   have hgr : ¬ l.length < l.length := Nat.lt_irrefl _
   clear hT hC hcr hcu hcb hbn hcw hi hil
   go_wp2_with fail
   refine hzero.mono ?_
   rintro e w6 ⟨rfl, hw6⟩
   subst w6
   clear hzero
   go_wp2_with fail
   refine hchk.mono ?_
   rintro e w7 ⟨rfl, hc7⟩
   have hb7 := HBN.out.c0 hc7
   have b07 : w7.cell? ⟨gn, 0, none⟩ = some (.bool true) := hb7.cell 0
   have b17 : w7.cell? ⟨gn, 1, none⟩ = some (.slice KA kn kc) := hb7.cell 1
   have b27 : w7.cell? ⟨gn, 2, none⟩ = some (.slice VA vn vc) := hb7.cell 2
   have b37 : w7.cell? ⟨gn, 3, none⟩ = some (.slice none 0 0) := hb7.cell 3
   have hr7 := ((HR2.out.chg HC25.out (show ¬ N = N + 1 by omega)).chg HCW.out (show ¬ (N = N + 1 ∨ N = gn) by omega)).c0 hc7
   have r0 : w7.cell? ⟨N, 0, none⟩ = some (.bool false) := hr7.cell 0
   have r1 : w7.cell? ⟨N, 1, none⟩ = some (.slice none 0 0) := hr7.cell 1
   have r2 : w7.cell? ⟨N, 2, none⟩ = some (.slice none 0 0) := hr7.cell 2
   have r3 : w7.cell? ⟨N, 3, none⟩ = some (.slice none 0 0) := hr7.cell 3
   have f0 := hr7.frozen 0
   have f1 := hr7.frozen 1
   have f2 := hr7.frozen 2
   have f3 := hr7.frozen 3
   have hr8 := (((hr7.set_ 0 (.bool true)).set_ 1 (.slice KA kn kc)).set_ 2 (.slice VA vn vc)).set_ 3 (.slice none 0 0)
   simp at hr8
   have hc8 : Chg (fun k => k = N) w7 ((((w7.setCell ⟨N, 0, none⟩ (.bool true)).setCell ⟨N, 1, none⟩ (.slice KA kn kc)).setCell ⟨N, 2, none⟩ (.slice VA vn vc)).setCell ⟨N, 3, none⟩ (.slice none 0 0)) :=
    Chg.setCell (p := ⟨N, 3, none⟩) (Chg.setCell (p := ⟨N, 2, none⟩) (Chg.setCell (p := ⟨N, 1, none⟩) (Chg.setCell (p := ⟨N, 0, none⟩) (Chg.refl (fun k => k = N) w7) (fun _ => rfl) _) (fun _ => rfl) _) (fun _ => rfl) _) (fun _ => rfl) _
   have HR8 := hide hr8
   have HC8 := hide hc8
   have HC7 := hide hc7
   clear hchk b0 b1 b2 b3 c0 c1 hr7 hr8 hc8 hc7 hb7
   go_wp2_with fail
   generalize World.setCell _ _ _ = w9 at HR8 HC8 ⊢
   have q0 := HR8.out.cell 0
   have q1 := HR8.out.cell 1
   have q2 := HR8.out.cell 2
   have q3 := HR8.out.cell 3
   simp at q0 q1 q2 q3
   refine bodyPost_ret (v := .tuple #[.agg #[.bool true, .slice KA kn kc, .slice VA vn vc, .slice none 0 0], .int .i64 0]) (by simp [results, Tryz.results162, go_sem, q0, q1, q2, q3]) rfl ⟨_, _, rfl, ?_, ?_, ?_⟩
   ·have h1 := HNN.out
    have n7 := HC7.out.size
    have n8 := HC8.out.size
    exact ((HTW.out.rdK.c0 HC7.out).chg HC8.out fun b hb e => by have e : b = N := e; omega).mono fun b hb => by omega
   ·have h1 := HNN.out
    have n7 := HC7.out.size
    have n8 := HC8.out.size
    exact ((HTW.out.rdV.c0 HC7.out).chg HC8.out fun b hb e => by have e : b = N := e; omega).mono fun b hb => by omega
   ·have h1 := HNN.out
    exact (((HC02.out.trans HC25.out fun b hb e => by have e : b = N + 1 := e; omega).trans HCW.out fun b hb e => by have e : b = N + 1 ∨ b = gn := e; omega).trans0 HC7.out).trans HC8.out fun b hb e => by have e : b = N := e; omega
end Go.Proofs.YtliimeoblffigaaGreat

