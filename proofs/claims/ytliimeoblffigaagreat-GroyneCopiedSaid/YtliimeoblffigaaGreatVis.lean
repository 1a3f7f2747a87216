/- The walks of the closures of btree's Scan. -/
import Derived.Test.YtliimeoblffigaaGreatPackCG
import Derived.Test.YtliimeoblffigaaGreatTsNG
import Derived.Test.YtliimeoblffigaaGreatInDG
open List renaming getElem_toArray → lz1, getElem_cons_succ → lz2, getElem_cons_zero → lz3, setIfInBounds_toArray → lz4, set_cons_zero → lz5, set_cons_succ → lz6
set_option linter.unusedVariables false
set_option linter.unusedSimpArgs false
set_option maxRecDepth 100000
namespace Go.Proofs.YtliimeoblffigaaGreat
open Go.RowKit Go.Maps
set_option linter.unusedVariables false
set_option linter.unusedSimpArgs false

/-- the boxes of a scan: most, full, from, to; and out's -/
structure ScE (w : World) (bM bO bFu bF bT : Nat) (m : Int) (fv tv : Value) : Prop where
 m : Blk w bM 3 #[.int .i64 m]
 fu : Blk w bFu 117 #[.func (.func 59) #[] #[.pointer (some ⟨bM, 0, none⟩), .pointer (some ⟨bO, 0, none⟩)]]
 fr : Blk w bF 30 #[fv]
 tt : Blk w bT 30 #[tv]
theorem ScE.chg {w w' : World} {bM bO bFu bF bT : Nat} {m : Int} {fv tv : Value} {Sx : Nat → Prop} (h : ScE w bM bO bFu bF bT m fv tv) (hc : Chg Sx w w') (hS : ¬ Sx bM ∧ ¬ Sx bFu ∧ ¬ Sx bF ∧ ¬ Sx bT) : ScE w' bM bO bFu bF bT m fv tv :=
 ⟨h.m.chg hc hS.1, h.fu.chg hc hS.2.1, h.fr.chg hc hS.2.2.1, h.tt.chg hc hS.2.2.2⟩
theorem ScE.c0 {w w' : World} {bM bO bFu bF bT : Nat} {m : Int} {fv tv : Value} (h : ScE w bM bO bFu bF bT m fv tv) (hc : Chg Non w w') : ScE w' bM bO bFu bF bT m fv tv := h.chg hc ⟨fun h => h, fun h => h, fun h => h, fun h => h⟩
theorem blk1 {w : World} {g : Nat} {t : TypeId} {a : Value} (h : Blk w g t #[a]) : w.cell? ⟨g, 0, none⟩ = some a := h.cell 0
theorem scFull {w : World} {bM bO : Nat} {m : Int} {A : Option Addr} {n c : Nat} (hm : Blk w bM 3 #[.int .i64 m]) (ho : Blk w bO 34 #[.slice A n c]) :
  Calls Tryz.prog 59 #[.pointer (some ⟨bM, 0, none⟩), .pointer (some ⟨bO, 0, none⟩)] w fun e w' => e = .returned (.bool (decide (0 < m) && decide (m ≤ (n : Int)))) ∧ w' = w := by
 have c0 := blk1 hm
 have c1 := blk1 ho
 by_cases h : 0 < m
 ·have d1 : decide (m > 0) = true := decide_eq_true h
  have d2 : decide (0 < m) = true := decide_eq_true h
  go_enter Tryz.func59, Tryz.ntmps59
  go_wp2_with fail
  go_ret
  exact ⟨ret_bool (by simp [h]), rfl⟩
 ·have d1 : decide (m > 0) = false := decide_eq_false h
  have d2 : decide (0 < m) = false := decide_eq_false h
  go_enter Tryz.func59, Tryz.ntmps59
  go_wp2_with fail
  go_ret
  exact ⟨ret_bool (by simp [h]), rfl⟩
/-- is it full, as a fact of the list -/
theorem scFull' {w : World} {bM bO : Nat} {m : Int} {v : Value} {acc : List KV} {base : Nat} {F : Nat → Prop} {t : TypeId} (hm : Blk w bM 3 #[.int .i64 m]) (ho : Blk w bO 34 #[v]) (hO : OwnE elP t w base F v acc) {fb : Bool} (hf : fullM m acc = fb) :
  Calls Tryz.prog 59 #[.pointer (some ⟨bM, 0, none⟩), .pointer (some ⟨bO, 0, none⟩)] w fun e w' => e = .returned (.bool fb) ∧ w' = w := by
 obtain ⟨A, c, rfl, _, _⟩ := hO.shape
 exact (scFull hm ho).mono fun _ _ ⟨h1, h2⟩ => ⟨by rw [h1, ← hf]; rfl, h2⟩
/-- what the closure that takes a node comes to -/
def TakeP (w : World) (base bO : Nat) (F : Nat → Prop) (m : Int) (v : Value) (acc : List KV) (e : Ending) (w' : World) : Prop :=
 e = .returned (.bool (!fullM m acc)) ∧ ∃ v', Blk w' bO 34 #[v'] ∧ OwnE elP 71 w' base F v' acc ∧ Chg (fun b => b = bO ∨ v.ownBlock = some b) w w' ∧ (v'.ownBlock = v.ownBlock ∨ ∀ b, v'.ownBlock = some b → w.heap.size ≤ b)
section
variable {w : World} {bM bO bFu bF bT base : Nat} {m : Int} {FA TA KA VA NA : Option Addr} {fn fc tn tc kn kc vn vc nn nc : Nat} {v : Value} {acc l : List KV} {f t : List UInt8} {KB G F : Nat → Prop} {id d : Int}
set_option maxHeartbeats 8000000 in
theorem scTakeI (E : ScE w bM bO bFu bF bT m (.slice FA fn fc) (.slice TA tn tc)) (hbo : Blk w bO 34 #[v]) (ho : OwnE elP 71 w base F v acc) :
  Calls Tryz.prog 61 #[.int .i64 id, .int .i64 d, .agg #[.bool false, .slice KA kn kc, .slice VA vn vc, .slice NA nn nc], .pointer (some ⟨bFu, 0, none⟩), .pointer (some ⟨bF, 0, none⟩), .pointer (some ⟨bT, 0, none⟩), .pointer (some ⟨bO, 0, none⟩)] w (TakeP w base bO F m v acc) := by
 have hb := Blk.new w 125 #[.bool false, .slice KA kn kc, .slice VA vn vc, .slice NA nn nc]
 have hc := (Chg.refl Non w).alloc (.cells #[.bool false, .slice KA kn kc, .slice VA vn vc, .slice NA nn nc] 125)
 go_enter Tryz.func61, Tryz.ntmps61
 go_upto_region 1 with fail
 generalize hww : World.alloc w _ = w1
 rw [show w.alloc (.cells #[.bool false, .slice KA kn kc, .slice VA vn vc, .slice NA nn nc] 125) = w1 from hww] at hb hc
 have hE := E.c0 hc
 have hbo1 := hbo.c0 hc
 have ho1 := ho.c0 hc
 obtain ⟨⟨b0, b1, b2, b3⟩, _⟩ := blk4 hb
 have c0 := blk1 hE.fu
 have hfl := scFull' hE.m hbo1 ho1 rfl
 have HF := hide (And.intro hbo1 (And.intro ho1 hc))
 clear hww hb hc E hE hbo hbo1 ho ho1
 go_wp2_with (go_at_call 59; refine hfl.mono ?_; rintro e w2 ⟨rfl, hw2⟩; subst hw2)
 unfold TakeP
 go_ret
 exact ⟨rfl, v, HF.out.1, HF.out.2.1, HF.out.2.2.mono fun _ _ h => (h : False).elim, .inl rfl⟩
/-- how far the loop of a leaf has come -/
structure LfSt (w : World) (base bO : Nat) (F : Nat → Prop) (m : Int) (v : Value) (acc l : List KV) (f t : List UInt8) (i0 j : Nat) (w' : World) (v' : Value) : Prop where
 le : i0 ≤ j ∧ j ≤ l.length
 bo : Blk w' bO 34 #[v']
 own : OwnE elP 71 w' base F v' (acc ++ (l.drop i0).take (j - i0))
 chg : Chg (fun b => b = bO ∨ v.ownBlock = some b) w w'
 at_ : v'.ownBlock = v.ownBlock ∨ ∀ b, v'.ownBlock = some b → w.heap.size ≤ b
 rng : rngL f t ((l.drop i0).take (j - i0)) = (l.drop i0).take (j - i0)
 cut : cutM m (acc ++ (l.drop i0).take (j - i0)) = acc ++ (l.drop i0).take (j - i0)
theorem take_snoc_kv {l : List KV} {i0 j : Nat} (h0 : i0 ≤ j) (h : j < l.length) : (l.drop i0).take (j + 1 - i0) = (l.drop i0).take (j - i0) ++ [l[j]] := by
 rw [show j + 1 - i0 = (j - i0) + 1 by omega, List.take_succ_eq_append_getElem (by rw [List.length_drop]; omega), List.getElem_drop]
 congr 3
 omega
/-- the end of it: nothing that follows is wanted -/
theorem LfSt.fin {w' : World} {v' : Value} {i0 j : Nat} {ok : Bool} (h : LfSt w base bO F m v acc l f t i0 j w' v') (hf : Fnd (ksL l) f i0 ok) (hu : UpL l) (hr : rngL f t (l.drop j) = [] ∨ fullM m (acc ++ (l.drop i0).take (j - i0)) = true) : acc ++ (l.drop i0).take (j - i0) = cutM m (acc ++ rngL f t l) := by
 have e1 : rngL f t l = (l.drop i0).take (j - i0) ++ rngL f t (l.drop j) := by
  rw [(rng_leaf hf hu).1]
  conv => lhs; rw [← List.take_append_drop (j - i0) (l.drop i0)]
  rw [rngL_app, h.rng, List.drop_drop, show i0 + (j - i0) = j by have := h.le; omega]
 rw [e1, ← List.append_assoc]
 rcases hr with hr | hr
 ·rw [hr, List.append_nil, h.cut]
 ·rw [cutM_full (by rw [h.cut]; exact hr), h.cut]
theorem LfSt.step {w' w2 : World} {v' v2 : Value} {i0 j : Nat} {ok : Bool} (h : LfSt w base bO F m v acc l f t i0 j w' v') (hf : Fnd (ksL l) f i0 ok) (hu : UpL l) (hj : j < l.length) (hnf : fullM m (acc ++ (l.drop i0).take (j - i0)) = false) (ht : t = [] ∨ cmpB (l[j]).1 t < 0)
  (hbo : Blk w2 bO 34 #[v2]) (ho : OwnE elP 71 w2 base F v2 (acc ++ (l.drop i0).take (j - i0) ++ [l[j]])) (hc : Chg (fun b => b = bO ∨ v'.ownBlock = some b) w' w2) (hat : v2.ownBlock = v'.ownBlock ∨ ∀ b, v2.ownBlock = some b → w'.heap.size ≤ b) : LfSt w base bO F m v acc l f t i0 (j + 1) w2 v2 := by
 have hts := take_snoc_kv h.le.1 hj
 have hjm : l[j] ∈ l.drop i0 := by
  rw [List.mem_iff_getElem]
  refine ⟨j - i0, by rw [List.length_drop]; have := h.le.1; omega, ?_⟩
  rw [List.getElem_drop]; congr 1; have := h.le.1; omega
 have hin : inR f t l[j] = true := by
  unfold inR
  rw [decide_eq_true ((rng_leaf (t := t) hf hu).2 _ hjm)]
  rcases ht with rfl | ht
  ·rfl
  ·rw [decide_eq_true ht]; simp
 have hsz := h.chg.size
 refine ⟨⟨by have := h.le.1; omega, hj⟩, hbo, by rw [hts, ← List.append_assoc]; exact ho, h.chg.trans hc fun b hb e => ?_, ?_, ?_, ?_⟩
 ·rcases e with e | e
  ·exact .inl e
  ·rcases h.at_ with h1 | h1
   ·exact .inr (h1 ▸ e)
   ·have := h1 b e; omega
 ·rcases hat with h1 | h1
  ·rw [h1]; exact h.at_
  ·exact .inr fun b hb => by have := h1 b hb; omega
 ·rw [hts, rngL_app, h.rng]
  congr 1
  unfold rngL
  rw [List.filter_cons, if_pos hin]; rfl
 ·rw [hts, ← List.append_assoc, cutM_snoc hnf]
set_option maxHeartbeats 32000000 in
theorem scTakeL (E : ScE w bM bO bFu bF bT m (.slice FA fn fc) (.slice TA tn tc)) (hbo : Blk w bO 34 #[v]) (ho : OwnE elP 71 w base F v acc) (hk : RdBB w KB (.slice KA kn kc) (ksL l)) (hv : RdBB w KB (.slice VA vn vc) (vsL l)) (hf : RdB w G (.slice FA fn fc) f) (ht : RdB w G (.slice TA tn tc) t)
  (hK : ∀ b, KB b → F b ∧ v.ownBlock ≠ some b ∧ b < w.heap.size) (hG : ∀ b, G b → b < base ∧ b ≠ bO) (hF : ∀ b, F b → base ≤ b) (hbx : bO < base ∧ (bM < base ∧ bM ≠ bO) ∧ (bFu < base ∧ bFu ≠ bO) ∧ (bF < base ∧ bF ≠ bO) ∧ (bT < base ∧ bT ≠ bO)) (hbs : base ≤ w.heap.size) (hu : UpL l) (hlen : l.length ≤ 1000) (hacc : acc.length ≤ 1000000) (hcut : cutM m acc = acc) :
  Calls Tryz.prog 61 #[.int .i64 id, .int .i64 d, .agg #[.bool true, .slice KA kn kc, .slice VA vn vc, .slice NA nn nc], .pointer (some ⟨bFu, 0, none⟩), .pointer (some ⟨bF, 0, none⟩), .pointer (some ⟨bT, 0, none⟩), .pointer (some ⟨bO, 0, none⟩)] w (TakeP w base bO F m v (cutM m (acc ++ rngL f t l))) := by
 have hb := Blk.new w 125 #[.bool true, .slice KA kn kc, .slice VA vn vc, .slice NA nn nc]
 have hc := (Chg.refl Non w).alloc (.cells #[.bool true, .slice KA kn kc, .slice VA vn vc, .slice NA nn nc] 125)
 have hkn : kn = l.length := by obtain ⟨_, _, e, _, _⟩ := hk.shape; injection e with _ e _; rw [e, ksL_length]
 have hvn : vn = l.length := by obtain ⟨_, _, e, _, _⟩ := hv.shape; injection e with _ e _; rw [e, vsL_length]
 have htn : tn = t.length := by obtain ⟨_, _, e, _, _⟩ := ht.shape; injection e
 have HNV := hide (And.intro hkn (And.intro hvn htn))
 have HBL := hide ho.bl
 clear hkn hvn htn
 go_enter Tryz.func61, Tryz.ntmps61
 go_upto_region 1 with fail
 obtain ⟨N, hN⟩ : ∃ N, N = w.heap.size := ⟨_, rfl⟩
 rw [← hN] at hb ⊢
 generalize hww : World.alloc w _ = w1
 rw [show w.alloc (.cells #[.bool true, .slice KA kn kc, .slice VA vn vc, .slice NA nn nc] 125) = w1 from hww] at hb hc
 have hE := E.c0 hc
 have hbo1 := hbo.c0 hc
 have ho1 := ho.c0 hc
 have hk1 := hk.c0 hc
 have hv1 := hv.c0 hc
 have hf1 := hf.c0 hc
 have ht1 := ht.c0 hc
 have hfi := lfFind (lf := true) (VA := VA) (vn := vn) (vc := vc) (NA := NA) (nn := nn) (nc := nc) hk1 hf1 (by have h := hu; unfold UpL at h; unfold ksL; exact List.pairwise_map.2 h) (by rw [ksL_length]; omega)
 obtain ⟨⟨b0, b1, b2, b3⟩, _⟩ := blk4 hb
 have c1 := blk1 hE.fr
 have HB := hide hb
 have HE := hide hE
 have HO1 := hide (And.intro hbo1 ho1)
 have HR := hide (And.intro hk1 (And.intro hv1 ht1))
 have HC := hide hc
 have HN := hide hN
 have HKG := hide (And.intro hK (And.intro hG (And.intro hF (And.intro hbx hbs))))
 have HU := hide hu
 have HL := hide (And.intro hlen hacc)
 have HCU := hide hcut
 clear hww hb hc E hE hbo hbo1 ho ho1 hk hk1 hv hv1 hf hf1 ht ht1 hN hK hG hF hbx hbs hu hlen hacc hcut
 go_upto_region 4 with (go_at_call 62; refine hfi.mono ?_; rintro e w2 ⟨i0, ok, rfl, hfd, hc2⟩)
 have n2 := hc2.size
 have n1 := HC.out.size
 have hnN : N < w1.heap.size := HB.out.lt
 have hbN : N ≠ bO ∧ v.ownBlock ≠ some N ∧ base ≤ N := ⟨by have := HKG.out.2.2.2.1.1; have := HKG.out.2.2.2.2; have := HN.out; omega, fun e => by have := (HBL.out N e).2; have := HN.out; omega, by have := HKG.out.2.2.2.2; have := HN.out; omega⟩
 have hi0 : i0 ≤ l.length := by have := hfd.le; rw [ksL_length] at this; exact this
 have hst : LfSt w2 base bO F m v acc l f t i0 i0 w2 v := ⟨⟨Nat.le_refl _, hi0⟩, HO1.out.1.c0 hc2, by rw [Nat.sub_self, List.take_zero, List.append_nil]; exact HO1.out.2.c0 hc2, Chg.refl _ _, .inl rfl, by rw [Nat.sub_self, List.take_zero]; rfl, by rw [Nat.sub_self, List.take_zero, List.append_nil]; exact HCU.out⟩
 have HST := hide hst
 have HB2 := hide (HB.out.c0 hc2)
 have HE2 := hide (HE.out.c0 hc2)
 have HR2 := hide (And.intro (HR.out.1.c0 hc2) (And.intro (HR.out.2.1.c0 hc2) (HR.out.2.2.c0 hc2)))
 have HC2 := hide (HC.out.trans0 hc2)
 have HBN := hide hbN
 have HFD := hide hfd
 clear hfi b0 b1 b2 b3 c1 n1 n2 hnN hbN hi0 hst hfd hc2 HB HE HR HC HO1 HCU
 go_loopw [11] (fun i wr => ∃ (j : Nat) (v' : Value), i = .int .i64 (j : Int) ∧ Hid (LfSt w2 base bO F m v acc l f t i0 j wr v')) (fun i _ => l.length - (intOf i).toNat)
 case atStart => exact ⟨i0, v, rfl, HST⟩
 case round =>
  obtain ⟨j, v', rfl, hst⟩ := hrel
  obtain ⟨VO, vo, vq, rfl⟩ := hst.out.own.shapeH
  have hw := hst.out.chg
  have hne : ∀ b, base ≤ b → b < w2.heap.size → v.ownBlock ≠ some b → ¬ (b = bO ∨ v.ownBlock = some b) := fun b h1 h2 h3 h => h.elim (fun h => by have := HKG.out.2.2.2.1.1; omega) h3
  have hbx : ∀ b, b < base ∧ b ≠ bO → ¬ (b = bO ∨ v.ownBlock = some b) := fun b h1 h => h.elim h1.2 fun h => by have := (HBL.out b h).1; omega
  have HBr := hide (HB2.out.chg hw (fun h => h.elim HBN.out.1 HBN.out.2.1))
  have HEr := hide (HE2.out.chg hw ⟨hbx _ HKG.out.2.2.2.1.2.1, hbx _ HKG.out.2.2.2.1.2.2.1, hbx _ HKG.out.2.2.2.1.2.2.2.1, hbx _ HKG.out.2.2.2.1.2.2.2.2⟩)
  have hkk : ∀ b, KB b → ¬ (b = bO ∨ v.ownBlock = some b) := fun b hb h => h.elim (fun h => by have := HKG.out.2.2.1 b (HKG.out.1 b hb).1; have := HKG.out.2.2.2.1.1; omega) (HKG.out.1 b hb).2.1
  have hgg : ∀ b, G b → ¬ (b = bO ∨ v.ownBlock = some b) := fun b hb => hbx b (HKG.out.2.1 b hb)
  have HRr := hide (And.intro (HR2.out.1.chg hw hkk) (And.intro (HR2.out.2.1.chg hw hkk) (HR2.out.2.2.chg hw hgg)))
  obtain ⟨⟨b0, b1, b2, b3⟩, _⟩ := blk4 HBr.out
  have d3 := blk1 HEr.out.fu
  have d5 := blk1 HEr.out.tt
  clear hne hbx hkk hgg hw
  obtain ⟨fb, hfb⟩ : ∃ fb, fb = fullM m (acc ++ (l.drop i0).take (j - i0)) := ⟨_, rfl⟩
  have hfull : ∀ n, Calls Tryz.prog 59 #[.pointer (some ⟨bM, 0, none⟩), .pointer (some ⟨bO, 0, none⟩)] (wr.drewN n) fun e w' => e = .returned (.bool fb) ∧ ∃ k, w' = (wr.drewN n).drewN k := fun n => (scFull' (HEr.out.m.dn n) (hst.out.bo.dn n) (hst.out.own.c0 ((Chg.refl Non wr).drewN n)) hfb.symm).mono fun _ _ ⟨h1, h2⟩ => ⟨h1, 0, h2⟩
  have HFB := hide hfb
  clear hfb
  have hjle := hst.out.le.2
  have hjb : j ≤ 1000 := by have := HL.out; omega
  by_cases hj : j < l.length
  ·obtain ⟨ad, x, rfl, _, kcell, kr⟩ := HRr.out.1.at_ (k := j) (by rw [ksL_length]; exact hj)
   obtain ⟨bd, y, rfl, _, vcell, vr⟩ := HRr.out.2.1.at_ (k := j) (by rw [vsL_length]; exact hj)
   obtain ⟨p, hp⟩ : ∃ p, p = l[j] := ⟨_, rfl⟩
   have ek : (ksL l)[j]'(by rw [ksL_length]; exact hj) = p.1 := by rw [hp]; simp [ksL]
   have ev : (vsL l)[j]'(by rw [vsL_length]; exact hj) = p.2 := by rw [hp]; simp [vsL]
   rw [ek] at kr
   rw [ev] at vr
   obtain ⟨XA, xc, rfl, _, _⟩ := kr.shape
   obtain ⟨YA, yc, rfl, _, _⟩ := vr.shape
   obtain ⟨xn, hxn⟩ : ∃ n, n = p.1.length := ⟨_, rfl⟩
   obtain ⟨yn, hyn⟩ : ∃ n, n = p.2.length := ⟨_, rfl⟩
   rw [← hxn] at kcell kr
   rw [← hyn] at vcell vr
   have hjk : j < kn := by rw [HNV.out.1]; exact hj
   have hjv : j < vn := by rw [HNV.out.2.1]; exact hj
   have hjd : decide ((j : Int) < (kn : Int)) = true := decide_eq_true (by omega)
   obtain ⟨cv, hcv⟩ : ∃ cv, cv = cmpB p.1 t := ⟨_, rfl⟩
   have hcmp := fun n => packCompare (kr.dn n) (HRr.out.2.2.dn n)
   rw [← hcv] at hcmp
   have HP := hide (And.intro (show ∀ h : j < l.length, p = l[j] from fun _ => hp) hcv)
   have HJ := hide hj
   have HC0 := hide (And.intro kcell (And.intro vcell (And.intro kr vr)))
   clear hp hcv ek ev hxn hyn kr vr hj hjle
   cases fb with
   | true =>
    go_upto_region 4 with fail
    go_quiet ((first | (go_at_call 59; exact Calls.quiet_of (hfull _)) | (go_at_call 63; exact Calls.quiet_of (hcmp _))))
    go_wp2_with (go_at_call 59; refine (hfull _).mono ?_; rintro e w9 ⟨rfl, k9, rfl⟩)
    unfold TakeP
    go_ret
    have hfin := hst.out.fin HFD.out HU.out (.inr HFB.out.symm)
    rw [← hfin, ← HFB.out]
    have hcx := hst.out.chg
    exact ⟨rfl, _, hst.out.bo.c0 ((Chg.refl Non wr).drewN _), hst.out.own.c0 ((Chg.refl Non wr).drewN _), ((HC2.out.mono fun _ _ h => (h : False).elim).trans hcx fun _ _ h => h).trans0 ((Chg.refl Non wr).drewN _), hst.out.at_.imp_right fun h b hb => by have := h b hb; have := HC2.out.size; omega⟩
   | false =>
    by_cases ht0 : tn = 0
    ·subst ht0
     have HT := hide (show t = [] from List.eq_nil_of_length_eq_zero HNV.out.2.2.symm)
     go_upto_region 4 with fail
     go_quiet ((go_at_call 59; exact Calls.quiet_of (hfull _)))
     generalize hwq : World.drewN wr nq = wq
     have hc0 : Chg Non wr wq := hwq ▸ (Chg.refl Non wr).drewN nq
     have hst9 : LfSt w2 base bO F m v acc l f t i0 j wq (.slice VO vo vq) := ⟨hst.out.le, hst.out.bo.c0 hc0, hst.out.own.c0 hc0, hst.out.chg.trans0 hc0, hst.out.at_, hst.out.rng, hst.out.cut⟩
     have HSQ := hide hst9
     have HBQ := hide (HBr.out.c0 hc0)
     have HCE := hide (And.intro (hc0.cell HC0.out.1 (fun h => h)) (hc0.cell HC0.out.2.1 (fun h => h)))
     have HKV := hide (And.intro (HC0.out.2.2.1.c0 hc0) (HC0.out.2.2.2.c0 hc0))
     have HWS := hide (show w.heap.size ≤ w2.heap.size ∧ w2.heap.size ≤ wq.heap.size from ⟨HC2.out.size, hst9.chg.size⟩)
     clear hwq hc0 hst9 hst hfull b0 b1 b2 b3 d3 d5 kcell vcell hcmp
     go_upto_region 6 with fail
     refine wp_region_T (Chg Non wq) 13 (by kernel_rfl) ?_
     have HW0 := hide ((Chg.refl Non wq).drew)
     generalize World.drew wq = x0 at HW0 ⊢
     refine AnyT.takeM (i := 0) (v := ?_) rfl (by kernel_rfl) (by kernel_rfl) (fun _ _ _ h => h) (by kernel_rfl) (by kernel_rfl) (Or.inl ⟨by rfl, ?_⟩) HW0.out ?_
     rotate_left
     ·(intro w9 h9; have y0 := blk1 (HSQ.out.bo.c0 h9); go_simp; try with_reducible rfl)
     try simp only [lz1, lz2, lz3, Act.put, lz4, lz5, lz6]
     refine AnyT.takeM (i := 1) (v := ?_) rfl (by kernel_rfl) (by kernel_rfl) (fun _ _ _ h => h) (by kernel_rfl) (by kernel_rfl) (Or.inl ⟨by rfl, ?_⟩) HW0.out ?_
     rotate_left
     ·(intro w9 h9; go_simp; try with_reducible rfl)
     try simp only [lz1, lz2, lz3, Act.put, lz4, lz5, lz6]
     refine AnyT.takeM (i := 2) (v := ?_) rfl (by kernel_rfl) (by kernel_rfl) (fun _ _ _ h => h) (by kernel_rfl) (by kernel_rfl) (Or.inl ⟨by rfl, ?_⟩) HW0.out ?_
     rotate_left
     ·(intro w9 h9; obtain ⟨⟨y0, y1, y2, y3⟩, _⟩ := blk4 (HBQ.out.c0 h9); go_simp; try with_reducible rfl)
     try simp only [lz1, lz2, lz3, Act.put, lz4, lz5, lz6]
     refine AnyT.takeM (i := 3) (v := ?_) rfl (by kernel_rfl) (by kernel_rfl) (fun _ _ _ h => h) (by kernel_rfl) (by kernel_rfl) (Or.inl ⟨by rfl, ?_⟩) HW0.out ?_
     rotate_left
     ·(intro w9 h9; go_simp; try with_reducible rfl)
     try simp only [lz1, lz2, lz3, Act.put, lz4, lz5, lz6]
     refine AnyT.takeM (i := 4) (v := ?_) rfl (by kernel_rfl) (by kernel_rfl) (fun _ _ _ h => h) (by kernel_rfl) (by kernel_rfl) (Or.inl ⟨by rfl, ?_⟩) HW0.out ?_
     rotate_left
     ·(intro w9 h9; go_simp; try with_reducible rfl)
     try simp only [lz1, lz2, lz3, Act.put, lz4, lz5, lz6]
     refine AnyT.takeM (i := 5) (v := ?_) rfl (by kernel_rfl) (by kernel_rfl) (fun _ _ _ h => h) (by kernel_rfl) (by kernel_rfl) (Or.inl ⟨by rfl, ?_⟩) HW0.out ?_
     rotate_left
     ·(intro w9 h9; have y0 := h9.cell HCE.out.1 (fun h => h); go_simp; try with_reducible rfl)
     try simp only [lz1, lz2, lz3, Act.put, lz4, lz5, lz6]
     refine AnyT.takeM (i := 6) (v := ?_) rfl (by kernel_rfl) (by kernel_rfl) (fun _ _ _ h => h) (by kernel_rfl) (by kernel_rfl) (Or.inl ⟨by rfl, ?_⟩) HW0.out ?_
     rotate_left
     ·(intro w9 h9; go_simp; try with_reducible rfl)
     try simp only [lz1, lz2, lz3, Act.put, lz4, lz5, lz6]
     refine AnyT.takeM (i := 7) (v := ?_) rfl (by kernel_rfl) (by kernel_rfl) (fun _ _ _ h => h) (by kernel_rfl) (by kernel_rfl) (Or.inl ⟨by rfl, ?_⟩) HW0.out ?_
     rotate_left
     ·(intro w9 h9; obtain ⟨⟨y0, y1, y2, y3⟩, _⟩ := blk4 (HBQ.out.c0 h9); go_simp; try with_reducible rfl)
     try simp only [lz1, lz2, lz3, Act.put, lz4, lz5, lz6]
     refine AnyT.takeM (i := 8) (v := ?_) rfl (by kernel_rfl) (by kernel_rfl) (fun _ _ _ h => h) (by kernel_rfl) (by kernel_rfl) (Or.inl ⟨by rfl, ?_⟩) HW0.out ?_
     rotate_left
     ·(intro w9 h9; go_simp; try with_reducible rfl)
     try simp only [lz1, lz2, lz3, Act.put, lz4, lz5, lz6]
     refine AnyT.takeM (i := 9) (v := ?_) rfl (by kernel_rfl) (by kernel_rfl) (fun _ _ _ h => h) (by kernel_rfl) (by kernel_rfl) (Or.inl ⟨by rfl, ?_⟩) HW0.out ?_
     rotate_left
     ·(intro w9 h9; go_simp; try with_reducible rfl)
     try simp only [lz1, lz2, lz3, Act.put, lz4, lz5, lz6]
     refine AnyT.takeM (i := 10) (v := ?_) rfl (by kernel_rfl) (by kernel_rfl) (fun _ _ _ h => h) (by kernel_rfl) (by kernel_rfl) (Or.inl ⟨by rfl, ?_⟩) HW0.out ?_
     rotate_left
     ·(intro w9 h9; have y0 := h9.cell HCE.out.2 (fun h => h); go_simp; try with_reducible rfl)
     try simp only [lz1, lz2, lz3, Act.put, lz4, lz5, lz6]
     refine AnyT.takeM (i := 11) (v := ?_) rfl (by kernel_rfl) (by kernel_rfl) (fun _ _ _ h => h) (by kernel_rfl) (by kernel_rfl) (Or.inl ⟨by rfl, ?_⟩) HW0.out ?_
     rotate_left
     ·(intro w9 h9; go_simp; try with_reducible rfl)
     try simp only [lz1, lz2, lz3, Act.put, lz4, lz5, lz6]
     refine AnyT.one (i := 12) (by kernel_rfl) rfl (fun K hK => ?_)
     rw [if_pos (by rfl)]
     try simp only [lz1, lz2, lz3, Act.put, lz4, lz5, lz6]
     go_simp
     have hd1 := (Chg.refl Non x0).alloc (.cells #[.slice XA xn xc, .slice YA yn yc] 71)
     have hb3 := Blk.new x0 71 #[.slice XA xn xc, .slice YA yn yc]
     obtain ⟨ghb3, hghb3⟩ : ∃ g, g = x0.heap.size := ⟨_, rfl⟩
     rw [← hghb3] at hb3 ⊢
     generalize hww : World.alloc x0 _ = x1
     rw [show x0.alloc (.cells #[.slice XA xn xc, .slice YA yn yc] 71) = x1 from hww] at hd1 hb3
     have HGhb3 := hide hghb3
     clear hww hghb3
     have HW1 := hide (HW0.out.trans0 hd1)
     refine hK.out _ _ (fun _ => HW1.out) ?_
     clear hK K
     try simp only [lz1, lz2, lz3, Act.put, lz4, lz5, lz6]
     refine AnyT.one (i := 13) (by kernel_rfl) rfl (fun K hK => ?_)
     rw [if_pos (by rfl)]
     try simp only [lz1, lz2, lz3, Act.put, lz4, lz5, lz6]
     have hrd : RdB x1 (fun b => F b ∧ b < x1.heap.size ∧ (Value.slice VO vo vq).ownBlock ≠ some b) (.slice XA xn xc) p.1 ∧ RdB x1 (fun b => F b ∧ b < x1.heap.size ∧ (Value.slice VO vo vq).ownBlock ≠ some b) (.slice YA yn yc) p.2 := by
      have h3 := HWS.out
      have h4 := HW1.out.size
      have hkb : ∀ b, KB b → F b ∧ b < x1.heap.size ∧ (Value.slice VO vo vq).ownBlock ≠ some b := fun b hb => ⟨(HKG.out.1 b hb).1, by have := (HKG.out.1 b hb).2.2; omega, fun e => by
       rcases HSQ.out.at_ with h | h
       ·exact (HKG.out.1 b hb).2.1 (h ▸ e)
       ·have h5 := h b e; have := (HKG.out.1 b hb).2.2; omega⟩
      exact ⟨(HKV.out.1.c0 HW1.out).mono hkb, (HKV.out.2.c0 HW1.out).mono hkb⟩
     refine oper_E slP _ _ rfl (HSQ.out.own.c0 HW1.out) rfl (u := (.slice XA xn xc, .slice YA yn yc)) (y := p) hrd rfl hb3 rfl (by have := HL.out; have := HJ.out; simp only [List.length_append, List.length_take, List.length_drop]; omega) (by have := HWS.out; have := HW1.out.size; have := HKG.out.2.2.2.2; omega) ?_
     intro v4 x2 hO4 hg4 hat4
     obtain ⟨VB, vbn, vbc, rfl⟩ := hO4.shapeH
     have hnb : (Value.slice VO vo vq).ownBlock ≠ some bO := fun e => by have := (HSQ.out.own.bl _ e).1; have := HKG.out.2.2.2.1.1; omega
     have hx4 : Chg (fun b => b = bO ∨ (Value.slice VO vo vq).ownBlock = some b) wq x2 := (HW1.out.mono fun _ _ h => (h : False).elim).trans (Chg.of_grown hg4) fun b hb e => .inr e.symm
     have hb4 := (HSQ.out.bo.c0 HW1.out).chg (Chg.of_grown hg4) (fun e => hnb e.symm)
     have HO4 := hide (And.intro hO4 (And.intro hx4 (And.intro hb4 (And.intro hat4 HW1.out.size))))
     refine hK.out _ _ (fun h => absurd h (by decide)) ?_
     clear hrd hb3 hd1 hO4 hg4 hat4 hnb hx4 hb4
     clear hK K
     try simp only [lz1, lz2, lz3, Act.put, lz4, lz5, lz6]
     refine AnyT.one (i := 14) (by kernel_rfl) rfl (fun K hK => ?_)
     rw [if_pos (by rfl)]
     try simp only [lz1, lz2, lz3, Act.put, lz4, lz5, lz6]
     have y0 := blk1 HO4.out.2.2.1
     have y1 := HO4.out.2.2.1.frozen 0
     have hb5 := HO4.out.2.2.1.set_ 0 (.slice VB vbn vbc)
     simp at hb5
     have hx5 : Chg (fun b => b = bO) x2 (x2.setCell ⟨bO, 0, none⟩ (.slice VB vbn vbc)) := Chg.setCell (p := ⟨bO, 0, none⟩) (Chg.refl (fun b => b = bO) x2) (fun _ => rfl) _
     have hO5 := HO4.out.1.chg hx5 (fun b e e2 => by have e2 : b = bO := e2; have := (HO4.out.1.bl b e).1; have := HKG.out.2.2.2.1.1; omega) (fun b hb e2 => by have e2 : b = bO := e2; have := HKG.out.2.2.1 b hb; have := HKG.out.2.2.2.1.1; omega)
     go_simp
     refine hK.out _ _ (fun h => absurd h (by decide)) ?_
     have HF5 := hide (And.intro hb5 (And.intro hO5 (HO4.out.2.1.trans hx5 fun b _ e => .inl e)))
     clear y0 y1 hb5 hx5 hO5
     generalize World.setCell x2 _ _ = x3 at HF5 ⊢
     clear hK K
     try simp only [lz1, lz2, lz3, Act.put, lz4, lz5, lz6]
     refine AnyT.nil (by kernel_rfl) ?_
     go_wp2_with fail
     go_roundw
     case rel =>
      refine ⟨j + 1, _, by go_num, hide (HSQ.out.step HFD.out HU.out HJ.out (by rw [← HFB.out]) (.inl HT.out) HF5.out.1 (by rw [← HP.out.1 HJ.out]; exact HF5.out.2.1) HF5.out.2.2 ?_)⟩
      rcases HO4.out.2.2.2.1 with h | h
      ·exact .inl h
      ·exact .inr fun b hb => by rw [h] at hb; injection hb with hb; have := HO4.out.2.2.2.2; omega
     case measure => (have := HJ.out; simp [intOf]; omega)
    ·have htb : ((tn : Int) == 0) = false := beq_eq_false_iff_ne.2 (by omega)
     by_cases hlt : cv < 0
     ·have hd1 : decide (cv < 0) = true := decide_eq_true hlt
      go_upto_region 4 with fail
      go_quiet ((first | (go_at_call 59; exact Calls.quiet_of (hfull _)) | (go_at_call 63; exact Calls.quiet_of (hcmp _))))
      generalize hwq : World.drewN wr nq = wq
      have hc0 : Chg Non wr wq := hwq ▸ (Chg.refl Non wr).drewN nq
      have hst9 : LfSt w2 base bO F m v acc l f t i0 j wq (.slice VO vo vq) := ⟨hst.out.le, hst.out.bo.c0 hc0, hst.out.own.c0 hc0, hst.out.chg.trans0 hc0, hst.out.at_, hst.out.rng, hst.out.cut⟩
      have HSQ := hide hst9
      have HBQ := hide (HBr.out.c0 hc0)
      have HCE := hide (And.intro (hc0.cell HC0.out.1 (fun h => h)) (hc0.cell HC0.out.2.1 (fun h => h)))
      have HKV := hide (And.intro (HC0.out.2.2.1.c0 hc0) (HC0.out.2.2.2.c0 hc0))
      have HWS := hide (show w.heap.size ≤ w2.heap.size ∧ w2.heap.size ≤ wq.heap.size from ⟨HC2.out.size, hst9.chg.size⟩)
      clear hwq hc0 hst9 hst hfull b0 b1 b2 b3 d3 d5 kcell vcell hcmp
      go_upto_region 6 with fail
      refine wp_region_T (Chg Non wq) 13 (by kernel_rfl) ?_
      have HW0 := hide ((Chg.refl Non wq).drew)
      generalize World.drew wq = x0 at HW0 ⊢
      refine AnyT.takeM (i := 0) (v := ?_) rfl (by kernel_rfl) (by kernel_rfl) (fun _ _ _ h => h) (by kernel_rfl) (by kernel_rfl) (Or.inl ⟨by rfl, ?_⟩) HW0.out ?_
      rotate_left
      ·(intro w9 h9; have y0 := blk1 (HSQ.out.bo.c0 h9); go_simp; try with_reducible rfl)
      try simp only [lz1, lz2, lz3, Act.put, lz4, lz5, lz6]
      refine AnyT.takeM (i := 1) (v := ?_) rfl (by kernel_rfl) (by kernel_rfl) (fun _ _ _ h => h) (by kernel_rfl) (by kernel_rfl) (Or.inl ⟨by rfl, ?_⟩) HW0.out ?_
      rotate_left
      ·(intro w9 h9; go_simp; try with_reducible rfl)
      try simp only [lz1, lz2, lz3, Act.put, lz4, lz5, lz6]
      refine AnyT.takeM (i := 2) (v := ?_) rfl (by kernel_rfl) (by kernel_rfl) (fun _ _ _ h => h) (by kernel_rfl) (by kernel_rfl) (Or.inl ⟨by rfl, ?_⟩) HW0.out ?_
      rotate_left
      ·(intro w9 h9; obtain ⟨⟨y0, y1, y2, y3⟩, _⟩ := blk4 (HBQ.out.c0 h9); go_simp; try with_reducible rfl)
      try simp only [lz1, lz2, lz3, Act.put, lz4, lz5, lz6]
      refine AnyT.takeM (i := 3) (v := ?_) rfl (by kernel_rfl) (by kernel_rfl) (fun _ _ _ h => h) (by kernel_rfl) (by kernel_rfl) (Or.inl ⟨by rfl, ?_⟩) HW0.out ?_
      rotate_left
      ·(intro w9 h9; go_simp; try with_reducible rfl)
      try simp only [lz1, lz2, lz3, Act.put, lz4, lz5, lz6]
      refine AnyT.takeM (i := 4) (v := ?_) rfl (by kernel_rfl) (by kernel_rfl) (fun _ _ _ h => h) (by kernel_rfl) (by kernel_rfl) (Or.inl ⟨by rfl, ?_⟩) HW0.out ?_
      rotate_left
      ·(intro w9 h9; go_simp; try with_reducible rfl)
      try simp only [lz1, lz2, lz3, Act.put, lz4, lz5, lz6]
      refine AnyT.takeM (i := 5) (v := ?_) rfl (by kernel_rfl) (by kernel_rfl) (fun _ _ _ h => h) (by kernel_rfl) (by kernel_rfl) (Or.inl ⟨by rfl, ?_⟩) HW0.out ?_
      rotate_left
      ·(intro w9 h9; have y0 := h9.cell HCE.out.1 (fun h => h); go_simp; try with_reducible rfl)
      try simp only [lz1, lz2, lz3, Act.put, lz4, lz5, lz6]
      refine AnyT.takeM (i := 6) (v := ?_) rfl (by kernel_rfl) (by kernel_rfl) (fun _ _ _ h => h) (by kernel_rfl) (by kernel_rfl) (Or.inl ⟨by rfl, ?_⟩) HW0.out ?_
      rotate_left
      ·(intro w9 h9; go_simp; try with_reducible rfl)
      try simp only [lz1, lz2, lz3, Act.put, lz4, lz5, lz6]
      refine AnyT.takeM (i := 7) (v := ?_) rfl (by kernel_rfl) (by kernel_rfl) (fun _ _ _ h => h) (by kernel_rfl) (by kernel_rfl) (Or.inl ⟨by rfl, ?_⟩) HW0.out ?_
      rotate_left
      ·(intro w9 h9; obtain ⟨⟨y0, y1, y2, y3⟩, _⟩ := blk4 (HBQ.out.c0 h9); go_simp; try with_reducible rfl)
      try simp only [lz1, lz2, lz3, Act.put, lz4, lz5, lz6]
      refine AnyT.takeM (i := 8) (v := ?_) rfl (by kernel_rfl) (by kernel_rfl) (fun _ _ _ h => h) (by kernel_rfl) (by kernel_rfl) (Or.inl ⟨by rfl, ?_⟩) HW0.out ?_
      rotate_left
      ·(intro w9 h9; go_simp; try with_reducible rfl)
      try simp only [lz1, lz2, lz3, Act.put, lz4, lz5, lz6]
      refine AnyT.takeM (i := 9) (v := ?_) rfl (by kernel_rfl) (by kernel_rfl) (fun _ _ _ h => h) (by kernel_rfl) (by kernel_rfl) (Or.inl ⟨by rfl, ?_⟩) HW0.out ?_
      rotate_left
      ·(intro w9 h9; go_simp; try with_reducible rfl)
      try simp only [lz1, lz2, lz3, Act.put, lz4, lz5, lz6]
      refine AnyT.takeM (i := 10) (v := ?_) rfl (by kernel_rfl) (by kernel_rfl) (fun _ _ _ h => h) (by kernel_rfl) (by kernel_rfl) (Or.inl ⟨by rfl, ?_⟩) HW0.out ?_
      rotate_left
      ·(intro w9 h9; have y0 := h9.cell HCE.out.2 (fun h => h); go_simp; try with_reducible rfl)
      try simp only [lz1, lz2, lz3, Act.put, lz4, lz5, lz6]
      refine AnyT.takeM (i := 11) (v := ?_) rfl (by kernel_rfl) (by kernel_rfl) (fun _ _ _ h => h) (by kernel_rfl) (by kernel_rfl) (Or.inl ⟨by rfl, ?_⟩) HW0.out ?_
      rotate_left
      ·(intro w9 h9; go_simp; try with_reducible rfl)
      try simp only [lz1, lz2, lz3, Act.put, lz4, lz5, lz6]
      refine AnyT.one (i := 12) (by kernel_rfl) rfl (fun K hK => ?_)
      rw [if_pos (by rfl)]
      try simp only [lz1, lz2, lz3, Act.put, lz4, lz5, lz6]
      go_simp
      have hd1 := (Chg.refl Non x0).alloc (.cells #[.slice XA xn xc, .slice YA yn yc] 71)
      have hb3 := Blk.new x0 71 #[.slice XA xn xc, .slice YA yn yc]
      obtain ⟨ghb3, hghb3⟩ : ∃ g, g = x0.heap.size := ⟨_, rfl⟩
      rw [← hghb3] at hb3 ⊢
      generalize hww : World.alloc x0 _ = x1
      rw [show x0.alloc (.cells #[.slice XA xn xc, .slice YA yn yc] 71) = x1 from hww] at hd1 hb3
      have HGhb3 := hide hghb3
      clear hww hghb3
      have HW1 := hide (HW0.out.trans0 hd1)
      refine hK.out _ _ (fun _ => HW1.out) ?_
      clear hK K
      try simp only [lz1, lz2, lz3, Act.put, lz4, lz5, lz6]
      refine AnyT.one (i := 13) (by kernel_rfl) rfl (fun K hK => ?_)
      rw [if_pos (by rfl)]
      try simp only [lz1, lz2, lz3, Act.put, lz4, lz5, lz6]
      have hrd : RdB x1 (fun b => F b ∧ b < x1.heap.size ∧ (Value.slice VO vo vq).ownBlock ≠ some b) (.slice XA xn xc) p.1 ∧ RdB x1 (fun b => F b ∧ b < x1.heap.size ∧ (Value.slice VO vo vq).ownBlock ≠ some b) (.slice YA yn yc) p.2 := by
       have h3 := HWS.out
       have h4 := HW1.out.size
       have hkb : ∀ b, KB b → F b ∧ b < x1.heap.size ∧ (Value.slice VO vo vq).ownBlock ≠ some b := fun b hb => ⟨(HKG.out.1 b hb).1, by have := (HKG.out.1 b hb).2.2; omega, fun e => by
        rcases HSQ.out.at_ with h | h
        ·exact (HKG.out.1 b hb).2.1 (h ▸ e)
        ·have h5 := h b e; have := (HKG.out.1 b hb).2.2; omega⟩
       exact ⟨(HKV.out.1.c0 HW1.out).mono hkb, (HKV.out.2.c0 HW1.out).mono hkb⟩
      refine oper_E slP _ _ rfl (HSQ.out.own.c0 HW1.out) rfl (u := (.slice XA xn xc, .slice YA yn yc)) (y := p) hrd rfl hb3 rfl (by have := HL.out; have := HJ.out; simp only [List.length_append, List.length_take, List.length_drop]; omega) (by have := HWS.out; have := HW1.out.size; have := HKG.out.2.2.2.2; omega) ?_
      intro v4 x2 hO4 hg4 hat4
      obtain ⟨VB, vbn, vbc, rfl⟩ := hO4.shapeH
      have hnb : (Value.slice VO vo vq).ownBlock ≠ some bO := fun e => by have := (HSQ.out.own.bl _ e).1; have := HKG.out.2.2.2.1.1; omega
      have hx4 : Chg (fun b => b = bO ∨ (Value.slice VO vo vq).ownBlock = some b) wq x2 := (HW1.out.mono fun _ _ h => (h : False).elim).trans (Chg.of_grown hg4) fun b hb e => .inr e.symm
      have hb4 := (HSQ.out.bo.c0 HW1.out).chg (Chg.of_grown hg4) (fun e => hnb e.symm)
      have HO4 := hide (And.intro hO4 (And.intro hx4 (And.intro hb4 (And.intro hat4 HW1.out.size))))
      refine hK.out _ _ (fun h => absurd h (by decide)) ?_
      clear hrd hb3 hd1 hO4 hg4 hat4 hnb hx4 hb4
      clear hK K
      try simp only [lz1, lz2, lz3, Act.put, lz4, lz5, lz6]
      refine AnyT.one (i := 14) (by kernel_rfl) rfl (fun K hK => ?_)
      rw [if_pos (by rfl)]
      try simp only [lz1, lz2, lz3, Act.put, lz4, lz5, lz6]
      have y0 := blk1 HO4.out.2.2.1
      have y1 := HO4.out.2.2.1.frozen 0
      have hb5 := HO4.out.2.2.1.set_ 0 (.slice VB vbn vbc)
      simp at hb5
      have hx5 : Chg (fun b => b = bO) x2 (x2.setCell ⟨bO, 0, none⟩ (.slice VB vbn vbc)) := Chg.setCell (p := ⟨bO, 0, none⟩) (Chg.refl (fun b => b = bO) x2) (fun _ => rfl) _
      have hO5 := HO4.out.1.chg hx5 (fun b e e2 => by have e2 : b = bO := e2; have := (HO4.out.1.bl b e).1; have := HKG.out.2.2.2.1.1; omega) (fun b hb e2 => by have e2 : b = bO := e2; have := HKG.out.2.2.1 b hb; have := HKG.out.2.2.2.1.1; omega)
      go_simp
      refine hK.out _ _ (fun h => absurd h (by decide)) ?_
      have HF5 := hide (And.intro hb5 (And.intro hO5 (HO4.out.2.1.trans hx5 fun b _ e => .inl e)))
      clear y0 y1 hb5 hx5 hO5
      generalize World.setCell x2 _ _ = x3 at HF5 ⊢
      clear hK K
      try simp only [lz1, lz2, lz3, Act.put, lz4, lz5, lz6]
      refine AnyT.nil (by kernel_rfl) ?_
      go_wp2_with fail
      go_roundw
      case rel =>
       refine ⟨j + 1, _, by go_num, hide (HSQ.out.step HFD.out HU.out HJ.out (by rw [← HFB.out]) (.inr (by rw [← HP.out.1 HJ.out, ← HP.out.2]; exact hlt)) HF5.out.1 (by rw [← HP.out.1 HJ.out]; exact HF5.out.2.1) HF5.out.2.2 ?_)⟩
       rcases HO4.out.2.2.2.1 with h | h
       ·exact .inl h
       ·exact .inr fun b hb => by rw [h] at hb; injection hb with hb; have := HO4.out.2.2.2.2; omega
      case measure => (have := HJ.out; simp [intOf]; omega)
     ·have hd1 : decide (cv < 0) = false := decide_eq_false hlt
      go_upto_region 4 with fail
      go_quiet ((first | (go_at_call 59; exact Calls.quiet_of (hfull _)) | (go_at_call 63; exact Calls.quiet_of (hcmp _))))
      go_wp2_with (go_at_call 59; refine (hfull _).mono ?_; rintro e w9 ⟨rfl, k9, rfl⟩)
      unfold TakeP
      go_ret
      have hfin := hst.out.fin HFD.out HU.out (.inl (rng_stop HU.out HJ.out (fun e => by have := HNV.out.2.2; rw [e] at this; exact ht0 this) (by rw [← HP.out.1 HJ.out, ← HP.out.2]; omega)))
      rw [← hfin, ← HFB.out]
      have hcx := hst.out.chg
      exact ⟨rfl, _, hst.out.bo.c0 ((Chg.refl Non wr).drewN _), hst.out.own.c0 ((Chg.refl Non wr).drewN _), ((HC2.out.mono fun _ _ h => (h : False).elim).trans hcx fun _ _ h => h).trans0 ((Chg.refl Non wr).drewN _), hst.out.at_.imp_right fun h b hb => by have := h b hb; have := HC2.out.size; omega⟩
  ·have hjk : ¬ j < kn := by rw [HNV.out.1]; exact hj
   have hjd : decide ((j : Int) < (kn : Int)) = false := decide_eq_false (by omega)
   have HJ := hide hj
   clear hjle hj
   go_upto_region 4 with fail
   go_quiet ((go_at_call 59; exact Calls.quiet_of (hfull _)))
   go_wp2_with (go_at_call 59; refine (hfull _).mono ?_; rintro e w9 ⟨rfl, k9, rfl⟩)
   unfold TakeP
   go_ret
   have hfin := hst.out.fin HFD.out HU.out (.inl (by rw [List.drop_eq_nil_of_le (by have := HJ.out; omega)]; rfl))
   rw [← hfin, ← HFB.out]
   have hcx := hst.out.chg
   exact ⟨rfl, _, hst.out.bo.c0 ((Chg.refl Non wr).drewN _), hst.out.own.c0 ((Chg.refl Non wr).drewN _), ((HC2.out.mono fun _ _ h => (h : False).elim).trans hcx fun _ _ h => h).trans0 ((Chg.refl Non wr).drewN _), hst.out.at_.imp_right fun h b hb => by have := h b hb; have := HC2.out.size; omega⟩
end
end Go.Proofs.YtliimeoblffigaaGreat

