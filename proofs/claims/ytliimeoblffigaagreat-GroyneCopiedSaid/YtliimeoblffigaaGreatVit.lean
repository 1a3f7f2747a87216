/- The walk of btree's visit with Scan's closure. -/
import Derived.Test.YtliimeoblffigaaGreatVis
set_option linter.unusedVariables false
set_option linter.unusedSimpArgs false
set_option maxRecDepth 100000
namespace Go.Proofs.YtliimeoblffigaaGreat
open Go.RowKit Go.Maps
set_option linter.unusedVariables false
set_option linter.unusedSimpArgs false

/-- what a scan is asked, and where its boxes lie -/
structure ScK where
 base : Nat
 bM : Nat
 bO : Nat
 bFu : Nat
 bF : Nat
 bT : Nat
 m : Int
 FA : Option Addr
 fn : Nat
 fc : Nat
 TA : Option Addr
 tn : Nat
 tc : Nat
 G : Nat → Prop
 f : List UInt8
 t : List UInt8
 g : Nat
 hand : Nat
 gt : Nat
 root : Int
 pre : ByteArray
/-- the closure that takes -/
def ScK.take (c : ScK) : Value := .func (.func 61) #[] #[.pointer (some ⟨c.bFu, 0, none⟩), .pointer (some ⟨c.bF, 0, none⟩), .pointer (some ⟨c.bT, 0, none⟩), .pointer (some ⟨c.bO, 0, none⟩)]
/-- a scan under way: acc has been taken, and stands in v -/
structure VSt (c : ScK) (w : World) (T : Nat → Prop) (q : Nat) (ids : List Nat) (ct : Nat → List UInt8) (v : Value) (acc : List KV) : Prop where
 ts : TS w T c.g c.hand c.pre q ids ct
 tr : Blk w c.gt 121 #[.pointer (some ⟨c.g, 0, none⟩), .int .i64 c.root]
 off : ¬ T c.gt ∧ c.gt ≠ c.bO ∧ c.gt < c.base
 E : ScE w c.bM c.bO c.bFu c.bF c.bT c.m (.slice c.FA c.fn c.fc) (.slice c.TA c.tn c.tc)
 bx : c.bO < c.base ∧ (c.bM < c.base ∧ c.bM ≠ c.bO) ∧ (c.bFu < c.base ∧ c.bFu ≠ c.bO) ∧ (c.bF < c.base ∧ c.bF ≠ c.bO) ∧ (c.bT < c.base ∧ c.bT ≠ c.bO)
 bt : ¬ T c.bO ∧ ¬ T c.bM ∧ ¬ T c.bFu ∧ ¬ T c.bF ∧ ¬ T c.bT
 rf : RdB w c.G (.slice c.FA c.fn c.fc) c.f
 rt : RdB w c.G (.slice c.TA c.tn c.tc) c.t
 gG : ∀ b, c.G b → b < c.base ∧ b ≠ c.bO ∧ ¬ T b
 bo : Blk w c.bO 34 #[v]
 own : OwnE elP 71 w c.base (fun b => c.base ≤ b ∧ ¬ T b) v acc
 ov : ∀ b, v.ownBlock = some b → ¬ T b
 bs : c.base ≤ w.heap.size
 cut : cutM c.m acc = acc
section
variable {c : ScK} {w w' : World} {T T' : Nat → Prop} {q q' n id d h : Nat} {ids : List Nat} {ct : Nat → List UInt8} {v v' : Value} {acc acc' : List KV}
/-- the pool has turned -/
theorem VSt.tree (H : VSt c w T q ids ct v acc) (hc : Chg T w w') (hS : TS w' T' c.g c.hand c.pre q' ids ct) (hs : ∀ b, T' b → Ext T w w' b) : VSt c w' T' q' ids ct v acc := by
 have hlt : ∀ b, b < w.heap.size → ¬ T b → ¬ T' b := fun b h1 h2 h => (hs b h).elim h2 fun h => by omega
 have hb : ∀ b, b < c.base → ¬ T b → ¬ T' b := fun b h1 => hlt b (by have := H.bs; omega)
 exact ⟨hS, H.tr.chg hc H.off.1, ⟨hb _ H.off.2.2 H.off.1, H.off.2⟩, H.E.chg hc ⟨H.bt.2.1, H.bt.2.2.1, H.bt.2.2.2.1, H.bt.2.2.2.2⟩, H.bx, ⟨hb _ H.bx.1 H.bt.1, hb _ H.bx.2.1.1 H.bt.2.1, hb _ H.bx.2.2.1.1 H.bt.2.2.1, hb _ H.bx.2.2.2.1.1 H.bt.2.2.2.1, hb _ H.bx.2.2.2.2.1 H.bt.2.2.2.2⟩,
  H.rf.chg hc fun b hb => (H.gG b hb).2.2, H.rt.chg hc fun b hb => (H.gG b hb).2.2, fun b hx => ⟨(H.gG b hx).1, (H.gG b hx).2.1, hb b (H.gG b hx).1 (H.gG b hx).2.2⟩, H.bo.chg hc H.bt.1,
  (H.own.mono (F' := fun b => (c.base ≤ b ∧ ¬ T b) ∧ b < w.heap.size) fun b h1 h2 => ⟨h1, h2⟩).chg hc H.ov (fun b hb => hb.1.2) |>.mono fun b h1 _ => ⟨h1.1.1, hlt b h1.2 h1.1.2⟩,
  fun b e => hlt b (H.own.bl b e).2 (H.ov b e), Nat.le_trans H.bs hc.size, H.cut⟩
theorem VSt.c0 (H : VSt c w T q ids ct v acc) (hc : Chg Non w w') : VSt c w' T q ids ct v acc :=
 H.tree (hc.mono fun _ _ h => h.elim) (H.ts.c0 hc) fun b hb => .inl hb
/-- a node was taken -/
theorem VSt.took (H : VSt c w T q ids ct v acc) (hbo : Blk w' c.bO 34 #[v']) (ho : OwnE elP 71 w' c.base (fun b => c.base ≤ b ∧ ¬ T b) v' acc') (hc : Chg (fun b => b = c.bO ∨ v.ownBlock = some b) w w') (hat : v'.ownBlock = v.ownBlock ∨ ∀ b, v'.ownBlock = some b → w.heap.size ≤ b) (hcut : cutM c.m acc' = acc') : VSt c w' T q ids ct v' acc' := by
 have hne : ∀ b, b < c.base → b ≠ c.bO → ¬ (b = c.bO ∨ v.ownBlock = some b) := fun b h1 h2 h => h.elim h2 fun h => by have := (H.own.bl b h).1; omega
 exact ⟨H.ts.chg hc fun b hb h => h.elim (fun h => H.bt.1 (h ▸ hb)) fun h => H.ov b h hb, H.tr.chg hc (hne _ H.off.2.2 H.off.2.1), H.off, H.E.chg hc ⟨hne _ H.bx.2.1.1 H.bx.2.1.2, hne _ H.bx.2.2.1.1 H.bx.2.2.1.2, hne _ H.bx.2.2.2.1.1 H.bx.2.2.2.1.2, hne _ H.bx.2.2.2.2.1 H.bx.2.2.2.2.2⟩, H.bx, H.bt,
  H.rf.chg hc fun b hb => hne b (H.gG b hb).1 (H.gG b hb).2.1, H.rt.chg hc fun b hb => hne b (H.gG b hb).1 (H.gG b hb).2.1, H.gG, hbo, ho, fun b e => by
   rcases hat with h | h
   ·exact H.ov b (h ▸ e)
   ·exact fun h2 => by have := h b e; have := H.ts.lt b h2; omega, Nat.le_trans H.bs hc.size, hcut⟩
theorem VSt.le_q (H : VSt c w T q ids ct v acc) (hq : q ≤ q') : VSt c w T q' ids ct v acc := ⟨H.ts.le_q hq, H.tr, H.off, H.E, H.bx, H.bt, H.rf, H.rt, H.gG, H.bo, H.own, H.ov, H.bs, H.cut⟩
/-- what a visit leaves: the pairs of the range were taken, up to the number that was asked for -/
def VisP (c : ScK) (w : World) (T : Nat → Prop) (q : Nat) (ids : List Nat) (ct : Nat → List UInt8) (v : Value) (acc : List KV) (n : Nat) (e : Ending) (w' : World) : Prop :=
 e = .returned (.tuple #[.bool (!fullM c.m acc), .int .i64 0]) ∧ ∃ (T' : Nat → Prop) (v' : Value), VSt c w' T' (q + n) ids ct v' acc ∧ (∀ b, T' b → Ext T w w' b) ∧ Chg (fun b => T b ∨ b = c.bO ∨ v.ownBlock = some b) w w' ∧ (v'.ownBlock = v.ownBlock ∨ ∀ b, v'.ownBlock = some b → w.heap.size ≤ b)
def VisAt (h : Nat) : Prop := ∀ {c : ScK} {w : World} {T : Nat → Prop} {q id d : Nat} {ids ps : List Nat} {ct : Nat → List UInt8} {v : Value} {acc l : List KV} (_ : VSt c w T q ids ct v acc) (_ : TR ct h id ps l) (_ : ps.Nodup) (_ : ∀ j ∈ ps, j ∈ ids) (_ : q + ps.length ≤ 900000) (_ : d + h ≤ 64) (_ : fullM c.m acc = false) (_ : acc.length + l.length ≤ 900000),
  Calls Tryz.prog 60 #[.pointer (some ⟨c.gt, 0, none⟩), .int .i64 (id : Int), .int .i64 (d : Int), .slice c.FA c.fn c.fc, .slice c.TA c.tn c.tc, c.take] w (VisP c w T q ids ct v (cutM c.m (acc ++ rngL c.f c.t l)) ps.length)
set_option maxHeartbeats 16000000 in
theorem visit0 : VisAt 0 := by
 intro c w T q id d ids ps ct v acc l H hT hnd hin hq hd hnf hlen
 obtain ⟨rfl, hil, hct, hg, hs⟩ := hT
 have hch := tChildL H.ts H.tr H.off.1 (hin id (by simp)) (by omega) hct hg hs
 have hl200 : l.length ≤ 200 := by have := len_le_size l; omega
 have d1 : decide (64 < (d : Int)) = false := decide_eq_false (by omega)
 have d2 : decide ((d : Int) > 64) = false := decide_eq_false (by omega)
 have HH := hide H
 have HU := hide hg.upL
 have HL := hide (And.intro hl200 hlen)
 clear H hg hs hnd hin hct hl200 hlen
 obtain ⟨acc2, hacc2⟩ : ∃ a, a = cutM c.m (acc ++ rngL c.f c.t l) := ⟨_, rfl⟩
 rw [← hacc2]
 have HA := hide hacc2
 clear hacc2
 unfold ScK.take
 go_enter Tryz.func60, Tryz.ntmps60
 go_upto_region 4 with (go_at_call 92; refine hch.mono ?_; rintro e w2 ⟨T2, B, KA, kn, kc, VA, vn, vc, NA, nn, nc, rfl, hO⟩)
 have hbb := Blk.new w2 125 #[.bool true, .slice KA kn kc, .slice VA vn vc, .slice NA nn nc]
 have hcB := (Chg.refl Non w2).alloc (.cells #[.bool true, .slice KA kn kc, .slice VA vn vc, .slice NA nn nc] 125)
 generalize hww : World.alloc w2 _ = w3
 rw [show w2.alloc (.cells #[.bool true, .slice KA kn kc, .slice VA vn vc, .slice NA nn nc] 125) = w3 from hww] at hbb hcB
 obtain ⟨gb, hgb⟩ : ∃ g, g = w2.heap.size := ⟨_, rfl⟩
 rw [← hgb] at hbb ⊢
 have H3 := (HH.out.tree hO.chg hO.ts hO.sub).c0 hcB
 have hw2 := hO.chg.size
 have hw3 := hcB.size
 have hlo := hO.lo
 have hbs := HH.out.bs
 have htk := scTakeL (id := (id : Int)) (d := (d : Int)) (NA := NA) (nn := nn) (nc := nc) (F := fun b => c.base ≤ b ∧ ¬ T2 b) H3.E H3.bo H3.own (hO.k.c0 hcB) (hO.v.c0 hcB) H3.rf H3.rt (fun b hb => ⟨⟨by omega, fun h => by have := hO.low b h; omega⟩, fun e => by have := (HH.out.own.bl b e).2; omega, by omega⟩) (fun b hb => ⟨(H3.gG b hb).1, (H3.gG b hb).2.1⟩) (fun b hb => hb.1) H3.bx H3.bs HU.out (by have := HL.out; omega) (by have := HL.out; omega) H3.cut
 obtain ⟨⟨b0, b1, b2, b3⟩, _⟩ := blk4 hbb
 have HB := hide hbb
 have HF := hide (And.intro H3 (And.intro hO.sub (And.intro (hO.chg.trans0 hcB) (And.intro hw2 hw3))))
 have HGB := hide hgb
 clear hch hww hbb hcB hO H3 hw2 hw3 hlo hbs hgb
 rw [← HA.out] at htk
 have fin : ∀ (w5 : World) (v5 : Value), Blk w5 c.bO 34 #[v5] → OwnE elP 71 w5 c.base (fun b => c.base ≤ b ∧ ¬ T2 b) v5 acc2 → Chg (fun b => b = c.bO ∨ v.ownBlock = some b) w3 w5 → (v5.ownBlock = v.ownBlock ∨ ∀ b, v5.ownBlock = some b → w3.heap.size ≤ b) → ∃ (T' : Nat → Prop) (v' : Value), VSt c w5 T' (q + [id].length) ids ct v' acc2 ∧ (∀ b, T' b → Ext T w w5 b) ∧ Chg (fun b => T b ∨ b = c.bO ∨ v.ownBlock = some b) w w5 ∧ (v'.ownBlock = v.ownBlock ∨ ∀ b, v'.ownBlock = some b → w.heap.size ≤ b) := fun w5 v5 h1 h2 h3 h4 => by
  have hf := HF.out
  have n5 := h3.size
  refine ⟨T2, v5, hf.1.took h1 h2 h3 h4 (by rw [HA.out, cutM_idem]), fun b hb => ((hf.2.1 b hb).up (by omega)), (hf.2.2.1.mono fun b _ h => .inl h).trans h3 fun b _ h => .inr h, h4.imp_right fun h b hb => by have := h b hb; omega⟩
 have HFIN := hide fin
 clear fin
 unfold TakeP at htk
 obtain ⟨fb, hfb⟩ : ∃ fb, fb = fullM c.m acc2 := ⟨_, rfl⟩
 rw [← hfb] at htk
 have HFB := hide hfb
 clear hfb
 cases fb with
 | true =>
  go_wp2_with (go_at_call 61; refine htk.mono ?_; rintro e w4 ⟨rfl, v4, hb4, ho4, hc4, hat4⟩)
  unfold VisP
  rw [← HFB.out]
  go_ret2
  exact ⟨rfl, HFIN.out _ _ hb4 ho4 hc4 hat4⟩
 | false =>
  go_upto_region 8 with (go_at_call 61; refine htk.mono ?_; rintro e w4 ⟨rfl, v4, hb4, ho4, hc4, hat4⟩)
  have hbb4 := HB.out.chg hc4 fun h => by
   have := HGB.out
   have := HF.out.2.2.2
   have := HH.out.bs
   rcases h with h | h
   ·have := HH.out.bx.1; omega
   ·have := (HH.out.own.bl _ h).2; omega
  have HX := hide (And.intro hb4 (And.intro ho4 (And.intro hc4 hat4)))
  clear b0 b1 b2 b3 htk hb4 ho4 hc4 hat4
  obtain ⟨⟨b0, b1, b2, b3⟩, _⟩ := blk4 hbb4
  clear hbb4
  go_wp2_with fail
  unfold VisP
  rw [← HFB.out]
  go_ret2
  exact ⟨rfl, HFIN.out _ _ HX.out.1 HX.out.2.1 HX.out.2.2.1 HX.out.2.2.2⟩
/-- how far the loop over a node's kids has come -/
structure VLp (c : ScK) (w : World) (T : Nat → Prop) (q : Nat) (ids : List Nat) (ct : Nat → List UInt8) (v : Value) (acc : List KV) (E : List Ent) (w3 : World) (KB : Nat → Prop) (k : Nat) (w' : World) (T1 : Nat → Prop) (v1 : Value) : Prop where
 le : k ≤ E.length
 st : VSt c w' T1 (q + 1 + (psE (E.take k)).length) ids ct v1 (cutM c.m (acc ++ rngL c.f c.t (lE (E.take k))))
 nf : fullM c.m (cutM c.m (acc ++ rngL c.f c.t (lE (E.take k)))) = false
 sub : ∀ b, T1 b → Ext T w w' b
 chg : Chg (fun b => T b ∨ b = c.bO ∨ v.ownBlock = some b) w w'
 at_ : v1.ownBlock = v.ownBlock ∨ ∀ b, v1.ownBlock = some b → w.heap.size ≤ b
 far : ∃ S : Nat → Prop, Chg S w3 w' ∧ ∀ b, KB b → ¬ S b
 kT : ∀ b, KB b → ¬ T1 b ∧ v1.ownBlock ≠ some b
theorem psE_step {E : List Ent} {k : Nat} {x : Ent} (h : E[k]? = some x) : psE (E.take (k + 1)) = psE (E.take k) ++ x.2.ps ∧ lE (E.take (k + 1)) = lE (E.take k) ++ x.2.l := by
 obtain ⟨hk, rfl⟩ := List.getElem?_eq_some_iff.1 h
 rw [List.take_succ_eq_append_getElem hk, psE_app, lE_app]
 simp [psE, lE]
theorem psE_take_le (E : List Ent) (k : Nat) : (psE (E.take k)).length ≤ (psE E).length := by
 conv => rhs; rw [← List.take_append_drop k E, psE_app, List.length_append]
 omega
theorem rng_step {m : Int} {f t : List UInt8} {acc : List KV} {E : List Ent} {k : Nat} {x : Ent} (h : E[k]? = some x) : cutM m (cutM m (acc ++ rngL f t (lE (E.take k))) ++ rngL f t x.2.l) = cutM m (acc ++ rngL f t (lE (E.take (k + 1)))) := by
 rw [cutM_app, (psE_step h).2, rngL_app, List.append_assoc]
theorem rng_full {m : Int} {f t : List UInt8} {acc : List KV} {E : List Ent} {k : Nat} (h : fullM m (cutM m (acc ++ rngL f t (lE (E.take k)))) = true) : cutM m (acc ++ rngL f t (lE E)) = cutM m (acc ++ rngL f t (lE (E.take k))) := by
 conv => lhs; rw [← List.take_append_drop k E]
 rw [lE_app, rngL_app, ← List.append_assoc, cutM_full h]
theorem rng_rest {m : Int} {f t : List UInt8} {acc : List KV} {E : List Ent} {k : Nat} (h : rngL f t (lE (E.drop k)) = []) : cutM m (acc ++ rngL f t (lE E)) = cutM m (acc ++ rngL f t (lE (E.take k))) := by
 conv => lhs; rw [← List.take_append_drop k E]
 rw [lE_app, rngL_app, h, List.append_nil]
/-- a kid was visited -/
theorem VLp.step {E : List Ent} {w3 w2 : World} {KB T1 T2 : Nat → Prop} {k : Nat} {v1 v2 : Value} {x : Ent} (H : VLp c w T q ids ct v acc E w3 KB k w' T1 v1) (hx : E[k]? = some x) (hKB : ∀ b, KB b → b < w3.heap.size ∧ b ≠ c.bO) {acc2 : List KV} (ha : acc2 = cutM c.m (acc ++ rngL c.f c.t (lE (E.take (k + 1)))))
  (hs : VSt c w2 T2 (q + 1 + (psE (E.take k)).length + x.2.ps.length) ids ct v2 acc2) (hsub : ∀ b, T2 b → Ext T1 w' w2 b) (hc : Chg (fun b => T1 b ∨ b = c.bO ∨ v1.ownBlock = some b) w' w2) (hat : v2.ownBlock = v1.ownBlock ∨ ∀ b, v2.ownBlock = some b → w'.heap.size ≤ b) :
  VSt c w2 T2 (q + 1 + (psE (E.take (k + 1))).length) ids ct v2 acc2 ∧ (∀ b, T2 b → Ext T w w2 b) ∧ Chg (fun b => T b ∨ b = c.bO ∨ v.ownBlock = some b) w w2 ∧ (v2.ownBlock = v.ownBlock ∨ ∀ b, v2.ownBlock = some b → w.heap.size ≤ b) ∧ (∃ S : Nat → Prop, Chg S w3 w2 ∧ ∀ b, KB b → ¬ S b) ∧ (∀ b, KB b → ¬ T2 b ∧ v2.ownBlock ≠ some b) := by
 have n1 := H.chg.size
 have n2 := hc.size
 obtain ⟨S, f1, f2⟩ := H.far
 have n3 := f1.size
 have hk : k < E.length := (List.getElem?_eq_some_iff.1 hx).1
 refine ⟨by rw [(psE_step hx).1, List.length_append, ← Nat.add_assoc]; exact hs, fun b hb => ?_, H.chg.trans hc fun b hb h => ?_, ?_, ⟨fun b => S b ∨ (T1 b ∨ b = c.bO ∨ v1.ownBlock = some b), (f1.mono fun b _ h => .inl h).trans hc fun b _ h => .inr h, fun b hb h => ?_⟩, fun b hb => ⟨fun h => ?_, fun e => ?_⟩⟩
 ·rcases hsub b hb with h | h
  ·exact (H.sub b h).up n2
  ·exact .inr ⟨by omega, h.2⟩
 ·rcases h with h | h | h
  ·rcases H.sub b h with h | h
   ·exact .inl h
   ·omega
  ·exact .inr (.inl h)
  ·rcases H.at_ with e | e
   ·exact .inr (.inr (e ▸ h))
   ·have := e b h; omega
 ·rcases hat with e | e
  ·rw [e]; exact H.at_
  ·exact .inr fun b hb => by have := e b hb; omega
 ·rcases h with h | h | h | h
  ·exact f2 b hb h
  ·exact (H.kT b hb).1 h
  ·exact (hKB b hb).2 h
  ·exact (H.kT b hb).2 h
 ·rcases hsub b h with h | h
  ·exact (H.kT b hb).1 h
  ·have := (hKB b hb).1; omega
 ·rcases hat with e2 | e2
  ·exact (H.kT b hb).2 (e2 ▸ e)
  ·have := e2 b e; have := (hKB b hb).1; omega
theorem VLp.fin {E : List Ent} {w3 : World} {KB T1 : Nat → Prop} {k : Nat} {v1 : Value} (H : VLp c w T q ids ct v acc E w3 KB k w' T1 v1) (ha : cutM c.m (acc ++ rngL c.f c.t (lE E)) = cutM c.m (acc ++ rngL c.f c.t (lE (E.take k)))) : fullM c.m (cutM c.m (acc ++ rngL c.f c.t (lE E))) = false ∧ ∃ (T' : Nat → Prop) (v' : Value), VSt c w' T' (q + (id :: psE E).length) ids ct v' (cutM c.m (acc ++ rngL c.f c.t (lE E))) ∧ (∀ b, T' b → Ext T w w' b) ∧ Chg (fun b => T b ∨ b = c.bO ∨ v.ownBlock = some b) w w' ∧ (v'.ownBlock = v.ownBlock ∨ ∀ b, v'.ownBlock = some b → w.heap.size ≤ b) := by
 have h1 := psE_take_le E k
 rw [ha]
 exact ⟨H.nf, T1, v1, H.st.le_q (by rw [List.length_cons]; omega), H.sub, H.chg, H.at_⟩
theorem VLp.c0 {E : List Ent} {w3 w2 : World} {KB T1 : Nat → Prop} {k : Nat} {v1 : Value} (H : VLp c w T q ids ct v acc E w3 KB k w' T1 v1) (hc : Chg Non w' w2) : VLp c w T q ids ct v acc E w3 KB k w2 T1 v1 := by
 obtain ⟨S, f1, f2⟩ := H.far
 exact ⟨H.le, H.st.c0 hc, H.nf, fun b hb => (H.sub b hb).up hc.size, H.chg.trans0 hc, H.at_, ⟨S, f1.trans0 hc, f2⟩, H.kT⟩
set_option maxHeartbeats 32000000 in
theorem visit1 (IH : VisAt h) {E : List Ent} (H : VSt c w T q ids ct v acc) (n : Nod ct ids h id E) (hq : q + (id :: psE E).length ≤ 900000) (hd : d + h + 1 ≤ 64) (hnf : fullM c.m acc = false) (hlen : acc.length + (lE E).length ≤ 900000) :
  Calls Tryz.prog 60 #[.pointer (some ⟨c.gt, 0, none⟩), .int .i64 (id : Int), .int .i64 (d : Int), .slice c.FA c.fn c.fc, .slice c.TA c.tn c.tc, c.take] w (VisP c w T q ids ct v (cutM c.m (acc ++ rngL c.f c.t (lE E))) (id :: psE E).length) := by
 have nf := nod_facts n
 have hch := tChildI H.ts H.tr H.off.1 (n.sub id (by simp)) (by omega) nf.1 nf.2.1 nf.2.2.1 nf.2.2.2.1 nf.2.2.2.2.1 nf.2.2.2.2.2
 have hkl : (keysE E).length ≤ 600 := by have := sizeIn_len (keysE E) (idsE E).length; have := nf.2.2.2.2.2; omega
 have hEl : E.length = (keysE E).length + 1 := n.brn.len
 have d1 : decide (64 < (d : Int)) = false := decide_eq_false (by omega)
 have d2 : decide ((d : Int) > 64) = false := decide_eq_false (by omega)
 obtain ⟨d1x, hd1x⟩ : ∃ d', d' = d + 1 := ⟨_, rfl⟩
 have wd : IntKind.i64.wrap ((d : Int) + 1) = (d1x : Int) := by rw [IntWalk.i64_in _ (by omega)]; omega
 have htn : c.tn = c.t.length := by obtain ⟨_, _, e, _, _⟩ := H.rt.shape; injection e
 obtain ⟨acc2, hacc2⟩ : ∃ a, a = cutM c.m (acc ++ rngL c.f c.t (lE E)) := ⟨_, rfl⟩
 rw [← hacc2]
 have HA := hide hacc2
 have HH := hide H
 have HD := hide hd1x
 have HL := hide (And.intro hlen (And.intro hkl (And.intro hEl htn)))
 have HNF := hide hnf
 clear H hacc2 hlen hkl hEl htn hnf hd1x nf
 unfold ScK.take
 go_enter Tryz.func60, Tryz.ntmps60
 go_upto_region 4 with (go_at_call 92; refine hch.mono ?_; rintro e w2 ⟨T2, B, KA, kn, kc, VA, vn, vc, NA, nn, nc, rfl, hO⟩)
 have hbb := Blk.new w2 125 #[.bool false, .slice KA kn kc, .slice VA vn vc, .slice NA nn nc]
 have hcB := (Chg.refl Non w2).alloc (.cells #[.bool false, .slice KA kn kc, .slice VA vn vc, .slice NA nn nc] 125)
 generalize hww : World.alloc w2 _ = w3
 rw [show w2.alloc (.cells #[.bool false, .slice KA kn kc, .slice VA vn vc, .slice NA nn nc] 125) = w3 from hww] at hbb hcB
 obtain ⟨gb, hgb⟩ : ∃ g, g = w2.heap.size := ⟨_, rfl⟩
 rw [← hgb] at hbb ⊢
 have H3 := (HH.out.tree hO.chg hO.ts hO.sub).c0 hcB
 have hw2 := hO.chg.size
 have hw3 := hbb.lt
 have hlo := hO.lo
 have hbs := HH.out.bs
 have htk := scTakeI (id := (id : Int)) (d := (d : Int)) (KA := KA) (kn := kn) (kc := kc) (VA := VA) (vn := vn) (vc := vc) (NA := NA) (nn := nn) (nc := nc) H3.E H3.bo H3.own
 obtain ⟨⟨b0, b1, b2, b3⟩, _⟩ := blk4 hbb
 have hknE : kn = (keysE E).length := by obtain ⟨_, _, e, _, _⟩ := hO.k.shape; injection e
 have hnnE : nn = E.length := by obtain ⟨_, _, e, _, _⟩ := hO.n.shape; injection e with _ e _; rw [e, izs_len, idsE_len]
 have hBT : ∀ b, B ≤ b → ¬ T2 b ∧ v.ownBlock ≠ some b := fun b hb => ⟨fun h => by have := hO.low b h; omega, fun e => by have := (HH.out.own.bl b e).2; omega⟩
 have HB := hide hbb
 have HR := hide (And.intro ((hO.k.c0 hcB).mono (F' := fun b => B ≤ b ∧ b < w3.heap.size) fun b hb => ⟨hb.1, by omega⟩) ((hO.n.c0 hcB).mono (F' := fun b => B ≤ b ∧ b < w3.heap.size) fun b hb => ⟨hb.1, by omega⟩))
 have HF := hide (And.intro H3 (And.intro (show ∀ b, T2 b → Ext T w w3 b from fun b hb => (hO.sub b hb).up hcB.size) (hO.chg.trans0 hcB)))
 have HG := hide (show gb < w3.heap.size ∧ c.base ≤ B ∧ B ≤ gb ∧ w.heap.size ≤ B ∧ w.heap.size ≤ w3.heap.size from ⟨hw3, by omega, by
  obtain ⟨A, cc, e, _, _⟩ := hO.n.shape
  obtain ⟨ad, eA, hf, _⟩ := RdI.at_ (k := 0) hO.n (by rw [izs_len, idsE_len]; have := HL.out.2.2.1; omega)
  omega, hlo, by omega⟩)
 have HBT := hide hBT
 have HKN := hide (And.intro hknE hnnE)
 clear hch hww hbb hcB hO H3 hw2 hw3 hlo hbs hgb hBT hknE hnnE
 unfold TakeP at htk
 rw [HNF.out] at htk
 go_upto_region 8 with (go_at_call 61; refine htk.mono ?_; rintro e w4 ⟨rfl, v4, hb4, ho4, hc4, hat4⟩)
 have hf := HF.out
 have H4 := hf.1.took hb4 ho4 hc4 hat4 HH.out.cut
 have n4 := hc4.size
 have hfar : ∀ b, (B ≤ b ∧ b < w3.heap.size) → ¬ (b = c.bO ∨ v.ownBlock = some b) := fun b hb h => h.elim (fun h => by have := HH.out.bx.1; have := HG.out.2.1; omega) (HBT.out b hb.1).2
 have HB4 := hide (HB.out.chg hc4 (hfar _ ⟨HG.out.2.2.1, HG.out.1⟩))
 have HR4 := hide (And.intro (HR.out.1.chg hc4 hfar) (HR.out.2.chg hc4 hfar))
 have HX4 := hide (And.intro H4 (And.intro (show ∀ b, T2 b → Ext T w w4 b from fun b hb => (hf.2.1 b hb).up n4) (And.intro ((hf.2.2.mono (S' := fun b => T b ∨ b = c.bO ∨ v.ownBlock = some b) fun b _ h => .inl h).trans hc4 fun b _ h => .inr h) (And.intro (show v4.ownBlock = v.ownBlock ∨ ∀ b, v4.ownBlock = some b → w.heap.size ≤ b from hat4.imp_right fun h b hb => by have := h b hb; have := HG.out.2.2.2.2; omega) (And.intro (show Chg (fun b => b = c.bO ∨ v.ownBlock = some b) w3 w4 from hc4) (show v4.ownBlock = v.ownBlock ∨ ∀ b, v4.ownBlock = some b → w3.heap.size ≤ b from hat4))))))
 have HFA := hide hfar
 have HB3 := HB
 have HR3 := HR
 clear hf H4 n4 hfar hb4 ho4 hc4 hat4 htk b0 b1 b2 b3 HF HB HR
 obtain ⟨⟨b0, b1, b2, b3⟩, _⟩ := blk4 HB4.out
 have hwy := btWay (lf := false) (VA := VA) (vn := vn) (vc := vc) (NA := NA) (nn := nn) (nc := nc) HR4.out.1 HX4.out.1.rf (keysE_up n.brn) (by have := HL.out.2.1; omega)
 go_upto_region 10 with fail
 go_wp2_with (go_at_call 93; refine hwy.mono ?_; rintro e w5 ⟨i, ok, he, hfd, hc5⟩; obtain ⟨EA, EB, k0, x, hE, hlen, wy⟩ := n.brn.way hfd; rw [← hlen] at he; subst he; clear hlen)
 have hle0 : EA.length ≤ E.length := by rw [hE, List.length_append]; omega
 have hr0 : rngL c.f c.t (lE (E.take EA.length)) = [] := by
  have hnb := n.brn
  rw [hE] at hnb
  rw [hE, List.take_left]
  exact rng_left hnb wy
 have HST : Hid (VLp c w T q ids ct v acc E w3 (fun b => B ≤ b ∧ b < w3.heap.size) EA.length w5 T2 v4) := hide (by
  have hx := HX4.out
  refine VLp.c0 ⟨hle0, ?_, ?_, hx.2.1, hx.2.2.1, hx.2.2.2.1, ⟨_, hx.2.2.2.2.1, HFA.out⟩, fun b hb => ⟨(HBT.out b hb.1).1, fun e => ?_⟩⟩ hc5
  ·rw [hr0, List.append_nil, hx.1.cut]; exact hx.1.le_q (by omega)
  ·rw [hr0, List.append_nil, hx.1.cut]; exact HNF.out
  ·rcases hx.2.2.2.2.2 with h | h
   ·exact (HBT.out b hb.1).2 (h ▸ e)
   ·have := h b e; omega)
 have HC45 := hide (HX4.out.2.2.2.2.1.trans0 hc5)
 clear hwy hfd hE wy hle0 hr0 b0 b1 b2 b3 hc5
 obtain ⟨i0, hi0⟩ : ∃ i, i = EA.length := ⟨_, rfl⟩
 rw [← hi0] at HST ⊢
 clear hi0 EA EB k0 x HX4 HB4
 have hbb3 : Blk w3 gb 125 #[.bool false, .slice KA kn kc, .slice VA vn vc, .slice NA nn nc] := HB3.out
 go_loopw [16] (fun i wr => ∃ (k : Nat) (T1 : Nat → Prop) (v1 : Value), i = .int .i64 (k : Int) ∧ Hid (VLp c w T q ids ct v acc E w3 (fun b => B ≤ b ∧ b < w3.heap.size) k wr T1 v1)) (fun i _ => E.length - (intOf i).toNat)
 case atStart => exact ⟨i0, T2, v4, rfl, HST⟩
 case round =>
  clear hbb3
  obtain ⟨k, T1, v1, rfl, hst⟩ := hrel
  obtain ⟨Sx, f1, f2⟩ := hst.out.far
  have HBr := hide (HB3.out.chg f1 (f2 _ ⟨HG.out.2.2.1, HG.out.1⟩))
  have HRr := hide (And.intro (HR3.out.1.chg f1 f2) (HR3.out.2.chg f1 f2))
  obtain ⟨⟨b0, b1, b2, b3⟩, _⟩ := blk4 HBr.out
  clear f1 f2
  have hke := hst.out.le
  have hkb : k ≤ 700 := by have := HL.out; omega
  by_cases hk : k < E.length
  ·have hkn : decide ((k : Int) < (nn : Int)) = true := decide_eq_true (by have := HKN.out.2; omega)
   have hkn2 : k < nn := by have := HKN.out.2; omega
   obtain ⟨⟨k0, x⟩, hx⟩ : ∃ e, e = E[k] := ⟨_, rfl⟩
   have hxe : E[k]? = some (k0, x) := by rw [hx]; exact List.getElem?_eq_getElem hk
   obtain ⟨na, rfl, _, hkid⟩ := HRr.out.2.at_ (k := k) (by rw [izs_len, idsE_len]; exact hk)
   have hkv : (izs (idsE E))[k]'(by rw [izs_len, idsE_len]; exact hk) = (x.id : Int) := by
    simp only [izs, idsE, List.getElem_map, ← hx]
   rw [hkv] at hkid
   have HXE := hide hxe
   have HK := hide hk
   have hbrn : Brn (TR ct h) (E.take k ++ (k0, x) :: E.drop (k + 1)) := by
    have e : E.take k ++ (k0, x) :: E.drop (k + 1) = E := by rw [hx, ← List.drop_eq_getElem_cons hk, List.take_append_drop]
    rw [e]; exact n.brn
   have hkT : TR ct h x.id x.ps x.l := hbrn.kid (k0, x) (by simp)
   have hdrop : E.drop k = (k0, x) :: E.drop (k + 1) := by rw [hx, ← List.drop_eq_getElem_cons hk]
   have hnod : x.ps.Nodup ∧ (∀ j ∈ x.ps, j ∈ ids) := by
    have ho := n.once
    have hs := n.sub
    rw [← List.take_append_drop k E, hdrop, psE_app, psE_cons] at ho hs
    exact ⟨(List.nodup_append.1 (List.nodup_append.1 (List.nodup_cons.1 ho).2).2.1).1, fun j hj => hs j (by simp [hj])⟩
   have hpl : (psE (E.take k)).length + x.ps.length ≤ (psE E).length := by
    conv => rhs; rw [← List.take_append_drop k E, hdrop, psE_app, psE_cons, List.length_append, List.length_append]
    dsimp only
    omega
   have hll : (cutM c.m (acc ++ rngL c.f c.t (lE (E.take k)))).length + x.l.length ≤ 900000 := by
    have h1 := cutM_le c.m (acc ++ rngL c.f c.t (lE (E.take k)))
    have h2 : (rngL c.f c.t (lE (E.take k))).length ≤ (lE (E.take k)).length := List.length_filter_le _ _
    have h3 : (lE E).length = (lE (E.take k)).length + (x.l.length + (lE (E.drop (k + 1))).length) := by
     conv => lhs; rw [← List.take_append_drop k E, hdrop, lE_app, lE_cons, List.length_append, List.length_append]
    rw [List.length_append] at h1
    have := HL.out.1
    omega
   have hqq : q + 1 + (psE (E.take k)).length + x.ps.length ≤ 900000 := by rw [List.length_cons] at hq; omega
   have hih := fun (w9 : World) (hc9 : Chg Non wr w9) => IH (d := d1x) (hst.out.st.c0 hc9) hkT hnod.1 hnod.2 hqq (by have := HD.out; omega) hst.out.nf hll
   rw [rng_step hxe] at hih
   unfold ScK.take VisP at hih
   obtain ⟨acc3, hacc3⟩ : ∃ a, a = cutM c.m (acc ++ rngL c.f c.t (lE (E.take (k + 1)))) := ⟨_, rfl⟩
   rw [← hacc3] at hih
   obtain ⟨fb, hfb⟩ : ∃ b, b = fullM c.m acc3 := ⟨_, rfl⟩
   rw [← hfb] at hih
   have HFB := hide (And.intro hacc3 hfb)
   have HBRN := hide (And.intro hbrn hdrop)
   have HIH := hide hih
   clear hx hxe hkv hk hbrn hkT hdrop hnod hpl hll hqq hih hke hacc3 hfb
   have HKID := hide hkid
   have HKB := hide (show ∀ b, (B ≤ b ∧ b < w3.heap.size) → b < w3.heap.size ∧ b ≠ c.bO from fun b hb => ⟨hb.2, by have := HH.out.bx.1; have := HG.out.2.1; omega⟩)
   by_cases hk0 : k = 0
   ·subst hk0
    go_upto_region 14 with fail
    have hcx : Chg Non wr wr := Chg.refl _ _
    have hLx := hst.out.c0 hcx
    have hih := HIH.out wr hcx
    obtain ⟨⟨b0x, b1x, b2x, b3x⟩, _⟩ := blk4 (HBr.out.c0 hcx)
    have hkidx := cell_c0 HKID.out hcx
    have hkz : wr.cell? na = some (.int .i64 (x.id : Int)) := by have h := hkidx; rwa [show na.add 0 = na from by simp [Addr.add]] at h
    have HLX := hide hLx
    clear hcx hLx b0 b1 b2 b3 hkid hst
    cases fb with
    | true =>
     go_wp2_with (go_at_call 60; refine hih.mono ?_; rintro e w7 ⟨rfl, T7, v7, hV7, hs7, hc7, hat7⟩)
     have hst7 := HLX.out.step HXE.out HKB.out HFB.out.1 hV7 hs7 hc7 hat7
     have ha2 : acc2 = acc3 := by rw [HA.out, HFB.out.1]; exact rng_full (by rw [← HFB.out.1]; exact HFB.out.2.symm)
     have hple := psE_take_le E (0 + 1)
     unfold VisP
     rw [ha2, ← HFB.out.2]
     go_ret2
     exact ⟨rfl, T7, v7, hst7.1.le_q (by first | omega | (rw [List.length_cons]; omega)), hst7.2.1, hst7.2.2.1, hst7.2.2.2.1⟩
    | false =>
     go_wp2_with (go_at_call 60; refine hih.mono ?_; rintro e w7 ⟨rfl, T7, v7, hV7, hs7, hc7, hat7⟩)
     have hst7 := HLX.out.step HXE.out HKB.out HFB.out.1 hV7 hs7 hc7 hat7
     have HL7 : Hid (VLp c w T q ids ct v acc E w3 (fun b => B ≤ b ∧ b < w3.heap.size) (0 + 1) w7 T7 v7) := hide ⟨HK.out, by rw [← HFB.out.1]; exact hst7.1, by rw [← HFB.out.1]; exact HFB.out.2.symm, hst7.2.1, hst7.2.2.1, hst7.2.2.2.1, hst7.2.2.2.2.1, hst7.2.2.2.2.2⟩
     clear hst7 hV7 hs7 hc7 hat7 hih
     go_roundw
     case rel => exact ⟨0 + 1, T7, v7, by go_num, HL7⟩
     case measure => (have := HK.out; simp [intOf]; omega)
   ·have e1 : decide ((k : Int) > 0) = true := decide_eq_true (by omega)
    have e2 : decide (0 < (k : Int)) = true := decide_eq_true (by omega)
    have e3 : decide (0 < k) = true := decide_eq_true (by omega)
    obtain ⟨j, hj⟩ : ∃ j, k = j + 1 := ⟨k - 1, by omega⟩
    have hw1 : IntKind.i64.wrap ((k : Int) - 1) = (j : Int) := by rw [IntWalk.i64_in _ (by omega)]; omega
    have hjk : j < (keysE E).length := by have := HL.out.2.2.1; have := HK.out; omega
    have hjn : j < kn := by have := HKN.out.1; omega
    have hgk : (keysE E)[j] = k0 := by
     have h := HXE.out
     rw [hj] at h
     have h2 : (E.map (·.1)).tail[j]? = some k0 := by rw [List.getElem?_tail, List.getElem?_map, h]; rfl
     exact Option.some.inj ((List.getElem?_eq_getElem hjk).symm.trans h2)
    obtain ⟨ka, kx, rfl, _, hkc, hkr⟩ := HRr.out.1.at_ (k := j) hjk
    rw [hgk] at hkr
    obtain ⟨XA, xc, rfl, _, _⟩ := hkr.shape
    obtain ⟨xn, hxn⟩ : ∃ n, n = k0.length := ⟨_, rfl⟩
    rw [← hxn] at hkc hkr
    obtain ⟨cv, hcv⟩ : ∃ cv, cv = cmpB k0 c.t := ⟨_, rfl⟩
    have hcmp := packCompare hkr hst.out.st.rt
    rw [← hcv] at hcmp
    have HCV := hide hcv
    have HJ := hide hj
    clear hgk hxn hkr hcv hj hjk
    by_cases ht0 : c.tn = 0
    ·have g1 : decide ((c.tn : Int) > 0) = false := decide_eq_false (by omega)
     have g2 : decide (0 < (c.tn : Int)) = false := decide_eq_false (by omega)
     have g3 : decide (0 < c.tn) = false := decide_eq_false (by omega)
     clear ht0
     go_upto_region 14 with fail
     have hcx : Chg Non wr wr := Chg.refl _ _
     have hLx := hst.out.c0 hcx
     have hih := HIH.out wr hcx
     obtain ⟨⟨b0x, b1x, b2x, b3x⟩, _⟩ := blk4 (HBr.out.c0 hcx)
     have hkidx := cell_c0 HKID.out hcx
     have HLX := hide hLx
     clear hcx hLx b0 b1 b2 b3 hkid hst
     cases fb with
     | true =>
      go_wp2_with (go_at_call 60; refine hih.mono ?_; rintro e w7 ⟨rfl, T7, v7, hV7, hs7, hc7, hat7⟩)
      have hst7 := HLX.out.step HXE.out HKB.out HFB.out.1 hV7 hs7 hc7 hat7
      have ha2 : acc2 = acc3 := by rw [HA.out, HFB.out.1]; exact rng_full (by rw [← HFB.out.1]; exact HFB.out.2.symm)
      have hple := psE_take_le E (k + 1)
      unfold VisP
      rw [ha2, ← HFB.out.2]
      go_ret2
      exact ⟨rfl, T7, v7, hst7.1.le_q (by first | omega | (rw [List.length_cons]; omega)), hst7.2.1, hst7.2.2.1, hst7.2.2.2.1⟩
     | false =>
      go_wp2_with (go_at_call 60; refine hih.mono ?_; rintro e w7 ⟨rfl, T7, v7, hV7, hs7, hc7, hat7⟩)
      have hst7 := HLX.out.step HXE.out HKB.out HFB.out.1 hV7 hs7 hc7 hat7
      have HL7 : Hid (VLp c w T q ids ct v acc E w3 (fun b => B ≤ b ∧ b < w3.heap.size) (k + 1) w7 T7 v7) := hide ⟨HK.out, by rw [← HFB.out.1]; exact hst7.1, by rw [← HFB.out.1]; exact HFB.out.2.symm, hst7.2.1, hst7.2.2.1, hst7.2.2.2.1, hst7.2.2.2.2.1, hst7.2.2.2.2.2⟩
      clear hst7 hV7 hs7 hc7 hat7 hih
      go_roundw
      case rel => exact ⟨k + 1, T7, v7, by go_num, HL7⟩
      case measure => (have := HK.out; simp [intOf]; omega)
    ·have g1 : decide ((c.tn : Int) > 0) = true := decide_eq_true (by omega)
     have g2 : decide (0 < (c.tn : Int)) = true := decide_eq_true (by omega)
     have g3 : decide (0 < c.tn) = true := decide_eq_true (by omega)
     by_cases hcv : 0 ≤ cv
     ·have i1 : decide (cv ≥ 0) = true := decide_eq_true hcv
      have i2 : decide (0 ≤ cv) = true := decide_eq_true hcv
      have HFIN := hide (hst.out.fin (id := id) (rng_rest (by rw [HBRN.out.2]; exact rng_right HBRN.out.1 (fun e => by have := HL.out.2.2.2; rw [e] at this; exact ht0 this) (by rw [← HCV.out]; exact hcv))))
      rw [← HA.out] at HFIN
      clear hst
      go_wp2_with (go_at_call 63; refine hcmp.mono ?_; rintro e w6 ⟨rfl, nq, rfl⟩)
      unfold VisP
      rw [HFIN.out.1]
      go_ret2
      obtain ⟨T8, v8, h1, h2, h3, h4⟩ := HFIN.out.2
      exact ⟨rfl, T8, v8, h1.c0 ((Chg.refl Non wr).drewN nq), h2, h3.trans0 ((Chg.refl Non wr).drewN nq), h4⟩
     ·have i1 : decide (cv ≥ 0) = false := decide_eq_false hcv
      have i2 : decide (0 ≤ cv) = false := decide_eq_false hcv
      go_upto_region 14 with (go_at_call 63; refine hcmp.mono ?_; rintro e w6 ⟨rfl, nq, rfl⟩)
      have hcx : Chg Non wr (wr.drewN nq) := (Chg.refl Non wr).drewN nq
      have hLx := hst.out.c0 hcx
      have hih := HIH.out (wr.drewN nq) hcx
      obtain ⟨⟨b0x, b1x, b2x, b3x⟩, _⟩ := blk4 (HBr.out.c0 hcx)
      have hkidx := cell_c0 HKID.out hcx
      have HLX := hide hLx
      clear hcx hLx b0 b1 b2 b3 hkid hst
      cases fb with
      | true =>
       go_wp2_with (go_at_call 60; refine hih.mono ?_; rintro e w7 ⟨rfl, T7, v7, hV7, hs7, hc7, hat7⟩)
       have hst7 := HLX.out.step HXE.out HKB.out HFB.out.1 hV7 hs7 hc7 hat7
       have ha2 : acc2 = acc3 := by rw [HA.out, HFB.out.1]; exact rng_full (by rw [← HFB.out.1]; exact HFB.out.2.symm)
       have hple := psE_take_le E (k + 1)
       unfold VisP
       rw [ha2, ← HFB.out.2]
       go_ret2
       exact ⟨rfl, T7, v7, hst7.1.le_q (by first | omega | (rw [List.length_cons]; omega)), hst7.2.1, hst7.2.2.1, hst7.2.2.2.1⟩
      | false =>
       go_wp2_with (go_at_call 60; refine hih.mono ?_; rintro e w7 ⟨rfl, T7, v7, hV7, hs7, hc7, hat7⟩)
       have hst7 := HLX.out.step HXE.out HKB.out HFB.out.1 hV7 hs7 hc7 hat7
       have HL7 : Hid (VLp c w T q ids ct v acc E w3 (fun b => B ≤ b ∧ b < w3.heap.size) (k + 1) w7 T7 v7) := hide ⟨HK.out, by rw [← HFB.out.1]; exact hst7.1, by rw [← HFB.out.1]; exact HFB.out.2.symm, hst7.2.1, hst7.2.2.1, hst7.2.2.2.1, hst7.2.2.2.2.1, hst7.2.2.2.2.2⟩
       clear hst7 hV7 hs7 hc7 hat7 hih
       go_roundw
       case rel => exact ⟨k + 1, T7, v7, by go_num, HL7⟩
       case measure => (have := HK.out; simp [intOf]; omega)
  ·have hkn : decide ((k : Int) < (nn : Int)) = false := decide_eq_false (by have := HKN.out.2; omega)
   have hkn2 : ¬ k < nn := by have := HKN.out.2; omega
   have e : E.take k = E := List.take_of_length_le (by omega)
   have HFIN := hide (hst.out.fin (id := id) (by rw [e]))
   rw [← HA.out] at HFIN
   clear hst hke hk e
   go_wp2_with fail
   unfold VisP
   rw [HFIN.out.1]
   go_ret2
   exact ⟨rfl, HFIN.out.2⟩
end
theorem tVisit : ∀ h, VisAt h := fun h => by
 induction h with
 | zero => exact visit0
 | succ h IH =>
  intro c w T q id d ids ps ct v acc l H hT hnd hin hq hd hnf hlen
  obtain ⟨E, n, rfl, rfl⟩ := hT.nod hnd hin
  exact visit1 IH H n hq (by omega) hnf hlen
end Go.Proofs.YtliimeoblffigaaGreat

