/- The walk of btree's look: all is well below a page. -/
import Derived.Test.YtliimeoblffigaaGreatScn
set_option linter.unusedVariables false
set_option linter.unusedSimpArgs false
set_option maxRecDepth 100000
namespace Go.Proofs.YtliimeoblffigaaGreat
open Go.RowKit Go.Maps
set_option linter.unusedVariables false
set_option linter.unusedSimpArgs false

/-- a page that was seen, as it stands in the map -/
abbrev eS : Unit → DataW Value := fun _ => .held (.bool true)
theorem zeroBo (w : World) : (zeroValue 4).run Tryz.prog w = .ok (.bool false) w := by kernel_rfl
theorem lookS {w : World} {B n : Nat} {l : List (Nat × Unit)} (h : w.ownsMap Tryz.prog 3 heldR B n (dat klI eS l)) {k : Nat} (hk : k ≤ 1000000000) :
  (Instr.lookup 139 (.map (some B)) (.int .i64 (k : Int)) false).run Tryz.prog w = .ok (.bool (aGet klI l k).isSome) w := by
 have e : (dat klI eS l).atKey (klI k) (.held (.bool false)) = .held (.bool (aGet klI l k).isSome) := by rw [dat_at]; cases aGet klI l k <;> rfl
 obtain ⟨v, ps, hr, hv⟩ := World.ownsMap.lookup h keyN Tryz.underlying139 (zeroBo w) (zd := .held (.bool false)) rfl (keyOf_i hk)
 rw [e] at hv
 simp only [heldR, Option.some.injEq, Prod.mk.injEq, DataW.held.injEq] at hv
 rw [hr, hv.1]
/-- a look at a tree: where its things lie -/
structure LkK where
 g : Nat
 hand : Nat
 gt : Nat
 lb : Nat
 B : Nat
 root : Int
 pre : ByteArray
structure LkSt (c : LkK) (w : World) (T : Nat → Prop) (q : Nat) (ids : List Nat) (ct : Nat → List UInt8) (dp : Int) (sn : List (Nat × Unit)) : Prop where
 ts : TS w T c.g c.hand c.pre q ids ct
 tr : Blk w c.gt 121 #[.pointer (some ⟨c.g, 0, none⟩), .int .i64 c.root]
 off : ¬ T c.gt ∧ ¬ T c.lb ∧ ¬ T c.B ∧ c.gt ≠ c.lb ∧ c.gt ≠ c.B ∧ c.lb ≠ c.B
 lk : Blk w c.lb 141 #[.pointer (some ⟨c.gt, 0, none⟩), .int .i64 dp, .map (some c.B)]
 mp : w.ownsMap Tryz.prog 3 heldR c.B sn.length (dat klI eS sn)
 once : Once sn
 len : sn.length ≤ q
section
variable {c : LkK} {w w' : World} {T T' : Nat → Prop} {q q' id d h : Nat} {ids ps : List Nat} {ct : Nat → List UInt8} {dp : Int} {sn sn' : List (Nat × Unit)}
theorem LkSt.tree (H : LkSt c w T q ids ct dp sn) (hc : Chg T w w') (hS : TS w' T' c.g c.hand c.pre q' ids ct) (hs : ∀ b, T' b → Ext T w w' b) (hq : q ≤ q') : LkSt c w' T' q' ids ct dp sn := by
 have hlt : ∀ b, b < w.heap.size → ¬ T b → ¬ T' b := fun b h1 h2 h => (hs b h).elim h2 fun h => by omega
 exact ⟨hS, H.tr.chg hc H.off.1, ⟨hlt _ H.tr.lt H.off.1, hlt _ H.lk.lt H.off.2.1, hlt _ (World.ownsMap.lt H.mp) H.off.2.2.1, H.off.2.2.2⟩, H.lk.chg hc H.off.2.1, ownsMap_chg H.mp hc H.off.2.2.1, H.once, Nat.le_trans H.len hq⟩
theorem LkSt.c0 (H : LkSt c w T q ids ct dp sn) (hc : Chg Non w w') : LkSt c w' T q ids ct dp sn :=
 H.tree (hc.mono fun _ _ h => h.elim) (H.ts.c0 hc) (fun b hb => .inl hb) (Nat.le_refl _)
/-- a page was noted -/
theorem LkSt.note (H : LkSt c w T q ids ct dp sn) (hq : sn.length + 1 ≤ q) (hc : Chg (fun k => k = c.B) w w') (hm : w'.ownsMap Tryz.prog 3 heldR c.B (aPut klI id () sn).length (dat klI eS (aPut klI id () sn))) : LkSt c w' T q ids ct dp (aPut klI id () sn) :=
 ⟨H.ts.chg hc fun b hb e => H.off.2.2.1 (by have e : b = c.B := e; rw [← e]; exact hb), H.tr.chg hc H.off.2.2.2.2.1, H.off, H.lk.chg hc H.off.2.2.2.2.2, hm, H.once.put keyI _ _, Nat.le_trans (length_put_le _ _ _) hq⟩
/-- the depth of the leaves was noted -/
theorem LkSt.deep (H : LkSt c w T q ids ct dp sn) {dp' : Int} (hc : Chg (fun k => k = c.lb) w w') (hb : Blk w' c.lb 141 #[.pointer (some ⟨c.gt, 0, none⟩), .int .i64 dp', .map (some c.B)]) : LkSt c w' T q ids ct dp' sn :=
 ⟨H.ts.chg hc fun b hb e => H.off.2.1 (by have e : b = c.lb := e; rw [← e]; exact hb), H.tr.chg hc H.off.2.2.2.1, H.off, hb, ownsMap_chg H.mp hc (fun e => H.off.2.2.2.2.2 e.symm), H.once, H.len⟩
theorem put_some {i j : Nat} (ho : Once sn) : (aGet klI (aPut klI i () sn) j).isSome = true ↔ (j = i ∨ (aGet klI sn j).isSome = true) := by
 by_cases e : j = i
 ·subst e; rw [put_same keyI ho]; simp
 ·rw [put_other keyI ho e]; simp [e]
/-- what a look leaves: each page of the tree was seen, and its leaves are as deep as they should be -/
def LkP (c : LkK) (w : World) (T : Nat → Prop) (q : Nat) (ids : List Nat) (ct : Nat → List UInt8) (ps : List Nat) (dpf : Int) (sn : List (Nat × Unit)) (e : Ending) (w' : World) : Prop :=
 e = .returned (.int .i64 0) ∧ ∃ (T' : Nat → Prop) (sn' : List (Nat × Unit)), LkSt c w' T' (q + ps.length) ids ct dpf sn' ∧ (∀ j, (aGet klI sn' j).isSome = true ↔ (j ∈ ps ∨ (aGet klI sn j).isSome = true)) ∧ (∀ b, T' b → Ext T w w' b) ∧ Chg (fun b => T b ∨ b = c.lb ∨ b = c.B) w w'
/-- the upper bound: none, or a key -/
def Below_ (l : List KV) (hA : Option Addr) (hi : List UInt8) : Prop := hA = none ∨ ∀ p ∈ l, cmpB p.1 hi < 0
def LookAt (h : Nat) : Prop := ∀ {c : LkK} {w : World} {T G : Nat → Prop} {q id d : Nat} {ids ps : List Nat} {ct : Nat → List UInt8} {dp : Int} {sn : List (Nat × Unit)} {l : List KV} {lo hi : List UInt8} {LA HA : Option Addr} {ln lc hn hc : Nat} (_ : LkSt c w T q ids ct dp sn) (_ : TR ct h id ps l) (_ : ps.Nodup) (_ : ∀ j ∈ ps, j ∈ ids) (_ : ∀ j ∈ ps, (aGet klI sn j).isSome = false) (_ : q + ps.length ≤ 900000) (_ : 1 ≤ d ∧ d + h ≤ 1000) (_ : dp = 0 ∨ dp = ((d + h : Nat) : Int)) (_ : (id : Int) ≠ c.root → l ≠ [])
  (_ : RdB w G (.slice LA ln lc) lo) (_ : RdB w G (.slice HA hn hc) hi) (_ : ∀ b, G b → ¬ T b ∧ b ≠ c.lb ∧ b ≠ c.B) (_ : ∀ p ∈ l, cmpB lo p.1 ≤ 0) (_ : Below_ l HA hi),
  Calls Tryz.prog 70 #[.pointer (some ⟨c.lb, 0, none⟩), .int .i64 (id : Int), .int .i64 (d : Int), .slice LA ln lc, .slice HA hn hc] w (LkP c w T q ids ct ps ((d + h : Nat) : Int) sn)
set_option maxHeartbeats 32000000 in
theorem look0 : LookAt 0 := by
 intro c w T G q id d ids ps ct dp sn l lo hi LA HA ln lc hn hc H hT hnd hin hsn hq hd hdp hne hlo hhi hG hlw hbl
 obtain ⟨rfl, hil, hct, hg, hs⟩ := hT
 have hch := tChildL H.ts H.tr H.off.1 (hin id (by simp)) (by omega) hct hg hs
 have hl200 : l.length ≤ 200 := by have := len_le_size l; omega
 have HSN := hide (hsn id (by simp))
 have HL := hide (And.intro hl200 hne)
 have HPK := hide (show ∀ x ∈ ksL l, cmpB lo x ≤ 0 ∧ (HA = none ∨ cmpB x hi < 0) from fun x hx => by
  obtain ⟨p, hp, rfl⟩ := List.mem_map.1 hx
  exact ⟨hlw p hp, hbl.imp_right fun h => h p hp⟩)
 have HD := hide hd
 clear hnd hin hsn hct hg hs hl200 hne hlw hbl hd
 rw [Nat.add_zero] at hdp ⊢
 have HH := hide H
 have HR := hide (And.intro hlo hhi)
 have HG := hide hG
 clear H hlo hhi hG
 go_enter Tryz.func70, Tryz.ntmps70
 have t0 := HH.out.lk.cell 0
 simp at t0
 go_upto_region 2 with (go_at_call 92; refine hch.mono ?_; rintro e w2 ⟨T2, B2, KA, kn, kc, VA, vn, vc, NA, nn, nc, rfl, hO⟩)
 have hbb := Blk.new w2 125 #[.bool true, .slice KA kn kc, .slice VA vn vc, .slice NA nn nc]
 have hcB := (Chg.refl Non w2).alloc (.cells #[.bool true, .slice KA kn kc, .slice VA vn vc, .slice NA nn nc] 125)
 generalize hww : World.alloc w2 _ = w3
 rw [show w2.alloc (.cells #[.bool true, .slice KA kn kc, .slice VA vn vc, .slice NA nn nc] 125) = w3 from hww] at hbb hcB
 obtain ⟨gb, hgb⟩ : ∃ g, g = w2.heap.size := ⟨_, rfl⟩
 rw [← hgb] at hbb ⊢
 have H3 := (HH.out.tree hO.chg hO.ts hO.sub (Nat.le_succ q)).c0 hcB
 have hw2 := hO.chg.size
 have hw3 := hbb.lt
 have hlo2 := hO.lo
 have hlbl := HH.out.lk.lt
 have hBl := World.ownsMap.lt HH.out.mp
 have hknE : kn = l.length := by obtain ⟨_, _, e, _, _⟩ := hO.k.shape; injection e with _ e _; rw [e]; rw [ksL_length]
 have hgbn : gb ≠ c.lb ∧ gb ≠ c.B ∧ ¬ T2 gb ∧ gb < w3.heap.size ∧ w.heap.size ≤ gb := ⟨by omega, by omega, fun h => by have := hO.ts.lt gb h; omega, hw3, by omega⟩
 have hk3 := (hO.k.c0 hcB).mono (F' := fun b => B2 ≤ b ∧ b < w3.heap.size) fun b hb => ⟨hb.1, by omega⟩
 have hr3 := And.intro ((HR.out.1.lt.chg hO.chg fun b hb => (HG.out b hb.1).1).c0 hcB) ((HR.out.2.lt.chg hO.chg fun b hb => (HG.out b hb.1).1).c0 hcB)
 have HB2 := hide (show (∀ b, T2 b → b < B2) ∧ w.heap.size ≤ B2 ∧ c.lb < B2 ∧ c.B < B2 from ⟨hO.low, hlo2, by omega, by omega⟩)
 have HF := hide (And.intro (show ∀ b, T2 b → Ext T w w3 b from fun b hb => (hO.sub b hb).up hcB.size) (hO.chg.trans0 hcB))
 have HGN := hide hgbn
 have hlk := lookS H3.mp (k := id) (by omega)
 rw [HSN.out] at hlk
 have hmm := H3.mp
 have hmx : sn.length < maxLen := by have := HH.out.len; unfold maxLen; omega
 have hkey := keyOf_i (i := id) (by omega)
 have l0 := H3.lk.cell 0
 have l2 := H3.lk.cell 2
 simp at l0 l2
 have g1 := H3.tr.cell 1
 simp at g1
 obtain ⟨⟨b0, b1, b2, b3⟩, _⟩ := blk4 hbb
 have HB := hide hbb
 have H3h := hide H3
 have HK3 := hide hk3
 have HR3 := hide hr3
 have HKN := hide hknE
 have HZ := hide (show kn ≤ 1000 by rw [hknE]; have := HL.out.1; omega)
 clear hch hww hbb hcB hO hw2 hw3 hlo2 hlbl hBl hgbn H3 hk3 hr3 hknE hgb
 by_cases hz : kn = 0
 ·have hroot : (id : Int) = c.root := Classical.byContradiction fun h => HL.out.2 h (List.eq_nil_of_length_eq_zero (by have := HKN.out; omega))
  have z1 : ((kn : Int) == 0) = true := beq_iff_eq.2 (by omega)
  have z2 : ((id : Int) != c.root) = false := by rw [hroot]; simp
  clear hroot hz
  go_upto_region 7 with (at_mapUpdate; refine wpList_mapUpdate_own _ rfl _ _ _ 139 rfl 3 4 keyN Tryz.underlying139 heldR c.B sn.length _ rfl hmm hmx _ _ (klI id) rfl rfl hkey (.held (.bool true)) [] rfl ?_; intro w5 hm5 hg5)
  have hc5 : Chg (fun k => k = c.B) w3 w5 := (Chg.of_grown hg5).mono fun b _ e => by injection e
  have H5 := H3h.out.note (by have := HH.out.len; omega) hc5 (putZ hm5)
  have HB5 := hide (HB.out.chg hc5 HGN.out.2.1)
  have HK5 := hide (HK3.out.chg hc5 fun b hb e => by have e : b = c.B := e; have := HB2.out.2.2.2; omega)
  have HR5 := hide (And.intro (HR3.out.1.chg hc5 fun b hb e => (HG.out b hb.1).2.2 e) (HR3.out.2.chg hc5 fun b hb e => (HG.out b hb.1).2.2 e))
  have HC5 := hide hc5
  have H5h := hide H5
  clear hm5 hg5 hc5 H5 hlk hmm hmx hkey l0 l2 g1 b0 b1 b2 b3 t0 HK3 HR3 H3h
  obtain ⟨⟨b0, b1, b2, b3⟩, _⟩ := blk4 HB5.out
  have hneq := fun (w : World) => run_neq_slice_nil_any (P := Tryz.prog) w 30 5 HA hn hc 0 0 Tryz.underlying30
  go_wp2_with fail
  clear b0 b1 b2 b3
  go_loopw [67] (fun i wr => ∃ (k : Nat), k ≤ kn ∧ i = .int .i64 (k : Int) ∧ Quiet w5 wr) (fun i _ => kn - (intOf i).toNat)
  case atStart => exact ⟨0, Nat.zero_le _, rfl, ⟨0, rfl⟩⟩
  case round =>
   obtain ⟨k, hk, rfl, hqt⟩ := hrel
   have hcq := (Chg.refl Non w5).quiet hqt
   have HQ := hide hqt
   have hkb : k ≤ 2000 := by have := HZ.out; omega
   by_cases hkk : k < kn
   ·have hks : k < (ksL l).length := by rw [ksL_length, ← HKN.out]; exact hkk
    obtain ⟨ka, kx, rfl, _, hkc, hkr⟩ := (HK5.out.c0 hcq).at_ (k := k) hks
    have hpk := HPK.out _ (List.getElem_mem hks)
    obtain ⟨xk, hxk⟩ : ∃ x, x = (ksL l)[k] := ⟨_, rfl⟩
    rw [← hxk] at hkr hpk
    obtain ⟨XA, xc, rfl, _, _⟩ := hkr.shape
    obtain ⟨xn, hxn⟩ : ∃ n, n = xk.length := ⟨_, rfl⟩
    rw [← hxn] at hkc hkr
    obtain ⟨c1, hc1⟩ : ∃ z, z = cmpB xk lo := ⟨_, rfl⟩
    obtain ⟨c2, hc2⟩ : ∃ z, z = cmpB xk hi := ⟨_, rfl⟩
    have hcmp1 := packCompare hkr (HR5.out.1.c0 hcq)
    rw [← hc1] at hcmp1
    have hcmp2 := fun n => packCompare (hkr.dn n) ((HR5.out.2.c0 hcq).dn n)
    rw [← hc2] at hcmp2
    have hge : decide (c1 < 0) = false := decide_eq_false (by rw [hc1]; have := cmpB_neg lo xk; have := hpk.1; omega)
    have hge2 : ¬ c1 < 0 := of_decide_eq_false hge
    have HXK := hide (show HA = none ∨ c2 < 0 from hpk.2.imp_right fun h => by rw [hc2]; exact h)
    have HKK := hide hkk
    clear hxk hxn hc1 hc2 hpk hks hk hqt hkr
    cases HA with
    | none =>
     have hneq1 : ∀ w : World, (binOp .neq 30 (.slice none hn hc) (.slice none 0 0)).run Tryz.prog w = .ok (.bool false) w := hneq
     clear hneq
     go_wp2_with (go_at_call 63; refine hcmp1.mono ?_; rintro e w8 ⟨rfl, nq, rfl⟩)
     go_roundw
     case rel => exact ⟨k + 1, HKK.out, by go_num, HQ.out.dn _⟩
     case measure => (have := HKK.out; simp [intOf]; omega)
    | some ha =>
     have hneq1 : ∀ w : World, (binOp .neq 30 (.slice (some ha) hn hc) (.slice none 0 0)).run Tryz.prog w = .ok (.bool true) w := hneq
     have hlt : c2 < 0 := HXK.out.elim (fun h => by cases h) (fun h => h)
     have hlt1 : decide (c2 ≥ 0) = false := decide_eq_false (by omega)
     have hlt2 : decide (0 ≤ c2) = false := decide_eq_false (by omega)
     clear hneq hlt
     go_wp2_with (first | (go_at_call 63; refine hcmp1.mono ?_; rintro e w8 ⟨rfl, nq, rfl⟩; clear hcmp1) | (go_at_call 63; refine (hcmp2 _).mono ?_; rintro e w9 ⟨rfl, nr, rfl⟩))
     go_roundw
     case rel => exact ⟨k + 1, HKK.out, by go_num, HQ.out.dn _⟩
     case measure => (have := HKK.out; simp [intOf]; omega)
   ·have hcq5 := (Chg.refl Non w5).quiet hqt
    have H6 := hide (H5h.out.c0 hcq5)
    have HC6 := hide (HC5.out.trans0 hcq5)
    have HB6 := hide (HB5.out.c0 hcq5)
    have HK6 := hide (HK5.out.c0 hcq5)
    have HR6 := hide (And.intro (HR5.out.1.c0 hcq5) (HR5.out.2.c0 hcq5))
    have hkn : ¬ (k : Int) < (kn : Int) := by omega
    have hkd : decide ((k : Int) < (kn : Int)) = false := decide_eq_false hkn
    obtain ⟨w6, hw6⟩ : ∃ w6, w6 = wr := ⟨_, rfl⟩
    rw [← hw6] at H6 HC6 HB6 HK6 HR6 ⊢
    clear hw6 hqt hcq hcq5 hneq H5h HC5 HB5 HK5 HR5
    obtain ⟨⟨b0, b1, b2, b3⟩, _⟩ := blk4 HB6.out
    have l1 := H6.out.lk.cell 1
    have f1 := H6.out.lk.frozen 1
    have l0 := H6.out.lk.cell 0
    simp at l1 l0
    have hfin : ∀ {w9 : World}, Chg (fun k => k = c.lb) w6 w9 → Blk w9 c.lb 141 #[.pointer (some ⟨c.gt, 0, none⟩), .int .i64 (d : Int), .map (some c.B)] → ∃ (T' : Nat → Prop) (sn' : List (Nat × Unit)), LkSt c w9 T' (q + [id].length) ids ct (d : Int) sn' ∧ (∀ j, (aGet klI sn' j).isSome = true ↔ (j ∈ [id] ∨ (aGet klI sn j).isSome = true)) ∧ (∀ b, T' b → Ext T w w9 b) ∧ Chg (fun b => T b ∨ b = c.lb ∨ b = c.B) w w9 := fun {w9} h1 h2 => by
     have n6 := HC6.out.size
     have n9 := h1.size
     have nf := HF.out.2.size
     refine ⟨T2, _, H6.out.deep h1 h2, fun j => by rw [put_some HH.out.once, List.mem_singleton], fun b hb => (HF.out.1 b hb).up (by omega), ((HF.out.2.mono fun b _ h => .inl h).trans HC6.out fun b _ h => .inr (.inr h)).trans h1 fun b _ h => .inr (.inl h)⟩
    rcases hdp with hdp | hdp
    ·subst hdp
     have hb9 := H6.out.lk.set_ 1 (.int .i64 (d : Int))
     simp at hb9
     have hc9 : Chg (fun b => b = c.lb) w6 (w6.setCell ⟨c.lb, 1, none⟩ (.int .i64 (d : Int))) := Chg.setCell (p := ⟨c.lb, 1, none⟩) (Chg.refl (fun b => b = c.lb) w6) (fun _ => rfl) _
     have HFN := hide (hfin hc9 hb9)
     have y1 : (w6.setCell ⟨c.lb, 1, none⟩ (.int .i64 (d : Int))).cell? ⟨c.lb, 1, none⟩ = some (.int .i64 (d : Int)) := by have := hb9.cell 1; simpa using this
     have y0 : (w6.setCell ⟨c.lb, 1, none⟩ (.int .i64 (d : Int))).cell? ⟨c.lb, 0, none⟩ = some (.pointer (some ⟨c.gt, 0, none⟩)) := by have := hb9.cell 0; simpa using this
     have hdd : ((d : Int) != (d : Int)) = false := by simp
     clear hfin hb9 hc9
     go_wp2_with fail
     unfold LkP
     go_ret
     exact ⟨rfl, HFN.out⟩
    ·subst hdp
     have hdz : ((d : Int) == 0) = false := beq_eq_false_iff_ne.2 (by have := HD.out; omega)
     have hdd : ((d : Int) != (d : Int)) = false := by simp
     have HFN := hide (hfin (Chg.refl _ w6) H6.out.lk)
     clear hfin
     go_wp2_with fail
     unfold LkP
     go_ret
     exact ⟨rfl, HFN.out⟩
 ·have z1 : ((kn : Int) == 0) = false := beq_eq_false_iff_ne.2 (by omega)
  have z3 : (kn == 0) = false := beq_eq_false_iff_ne.2 hz
  go_upto_region 7 with (at_mapUpdate; refine wpList_mapUpdate_own _ rfl _ _ _ 139 rfl 3 4 keyN Tryz.underlying139 heldR c.B sn.length _ rfl hmm hmx _ _ (klI id) rfl rfl hkey (.held (.bool true)) [] rfl ?_; intro w5 hm5 hg5)
  have hc5 : Chg (fun k => k = c.B) w3 w5 := (Chg.of_grown hg5).mono fun b _ e => by injection e
  have H5 := H3h.out.note (by have := HH.out.len; omega) hc5 (putZ hm5)
  have HB5 := hide (HB.out.chg hc5 HGN.out.2.1)
  have HK5 := hide (HK3.out.chg hc5 fun b hb e => by have e : b = c.B := e; have := HB2.out.2.2.2; omega)
  have HR5 := hide (And.intro (HR3.out.1.chg hc5 fun b hb e => (HG.out b hb.1).2.2 e) (HR3.out.2.chg hc5 fun b hb e => (HG.out b hb.1).2.2 e))
  have HC5 := hide hc5
  have H5h := hide H5
  clear hm5 hg5 hc5 H5 hlk hmm hmx hkey l0 l2 g1 b0 b1 b2 b3 t0 HK3 HR3 H3h
  obtain ⟨⟨b0, b1, b2, b3⟩, _⟩ := blk4 HB5.out
  have hneq := fun (w : World) => run_neq_slice_nil_any (P := Tryz.prog) w 30 5 HA hn hc 0 0 Tryz.underlying30
  go_wp2_with fail
  clear b0 b1 b2 b3
  go_loopw [67] (fun i wr => ∃ (k : Nat), k ≤ kn ∧ i = .int .i64 (k : Int) ∧ Quiet w5 wr) (fun i _ => kn - (intOf i).toNat)
  case atStart => exact ⟨0, Nat.zero_le _, rfl, ⟨0, rfl⟩⟩
  case round =>
   obtain ⟨k, hk, rfl, hqt⟩ := hrel
   have hcq := (Chg.refl Non w5).quiet hqt
   have HQ := hide hqt
   have hkb : k ≤ 2000 := by have := HZ.out; omega
   by_cases hkk : k < kn
   ·have hks : k < (ksL l).length := by rw [ksL_length, ← HKN.out]; exact hkk
    obtain ⟨ka, kx, rfl, _, hkc, hkr⟩ := (HK5.out.c0 hcq).at_ (k := k) hks
    have hpk := HPK.out _ (List.getElem_mem hks)
    obtain ⟨xk, hxk⟩ : ∃ x, x = (ksL l)[k] := ⟨_, rfl⟩
    rw [← hxk] at hkr hpk
    obtain ⟨XA, xc, rfl, _, _⟩ := hkr.shape
    obtain ⟨xn, hxn⟩ : ∃ n, n = xk.length := ⟨_, rfl⟩
    rw [← hxn] at hkc hkr
    obtain ⟨c1, hc1⟩ : ∃ z, z = cmpB xk lo := ⟨_, rfl⟩
    obtain ⟨c2, hc2⟩ : ∃ z, z = cmpB xk hi := ⟨_, rfl⟩
    have hcmp1 := packCompare hkr (HR5.out.1.c0 hcq)
    rw [← hc1] at hcmp1
    have hcmp2 := fun n => packCompare (hkr.dn n) ((HR5.out.2.c0 hcq).dn n)
    rw [← hc2] at hcmp2
    have hge : decide (c1 < 0) = false := decide_eq_false (by rw [hc1]; have := cmpB_neg lo xk; have := hpk.1; omega)
    have hge2 : ¬ c1 < 0 := of_decide_eq_false hge
    have HXK := hide (show HA = none ∨ c2 < 0 from hpk.2.imp_right fun h => by rw [hc2]; exact h)
    have HKK := hide hkk
    clear hxk hxn hc1 hc2 hpk hks hk hqt hkr
    cases HA with
    | none =>
     have hneq1 : ∀ w : World, (binOp .neq 30 (.slice none hn hc) (.slice none 0 0)).run Tryz.prog w = .ok (.bool false) w := hneq
     clear hneq
     go_wp2_with (go_at_call 63; refine hcmp1.mono ?_; rintro e w8 ⟨rfl, nq, rfl⟩)
     go_roundw
     case rel => exact ⟨k + 1, HKK.out, by go_num, HQ.out.dn _⟩
     case measure => (have := HKK.out; simp [intOf]; omega)
    | some ha =>
     have hneq1 : ∀ w : World, (binOp .neq 30 (.slice (some ha) hn hc) (.slice none 0 0)).run Tryz.prog w = .ok (.bool true) w := hneq
     have hlt : c2 < 0 := HXK.out.elim (fun h => by cases h) (fun h => h)
     have hlt1 : decide (c2 ≥ 0) = false := decide_eq_false (by omega)
     have hlt2 : decide (0 ≤ c2) = false := decide_eq_false (by omega)
     clear hneq hlt
     go_wp2_with (first | (go_at_call 63; refine hcmp1.mono ?_; rintro e w8 ⟨rfl, nq, rfl⟩; clear hcmp1) | (go_at_call 63; refine (hcmp2 _).mono ?_; rintro e w9 ⟨rfl, nr, rfl⟩))
     go_roundw
     case rel => exact ⟨k + 1, HKK.out, by go_num, HQ.out.dn _⟩
     case measure => (have := HKK.out; simp [intOf]; omega)
   ·have hcq5 := (Chg.refl Non w5).quiet hqt
    have H6 := hide (H5h.out.c0 hcq5)
    have HC6 := hide (HC5.out.trans0 hcq5)
    have HB6 := hide (HB5.out.c0 hcq5)
    have HK6 := hide (HK5.out.c0 hcq5)
    have HR6 := hide (And.intro (HR5.out.1.c0 hcq5) (HR5.out.2.c0 hcq5))
    have hkn : ¬ (k : Int) < (kn : Int) := by omega
    have hkd : decide ((k : Int) < (kn : Int)) = false := decide_eq_false hkn
    obtain ⟨w6, hw6⟩ : ∃ w6, w6 = wr := ⟨_, rfl⟩
    rw [← hw6] at H6 HC6 HB6 HK6 HR6 ⊢
    clear hw6 hqt hcq hcq5 hneq H5h HC5 HB5 HK5 HR5
    obtain ⟨⟨b0, b1, b2, b3⟩, _⟩ := blk4 HB6.out
    have l1 := H6.out.lk.cell 1
    have f1 := H6.out.lk.frozen 1
    have l0 := H6.out.lk.cell 0
    simp at l1 l0
    have hfin : ∀ {w9 : World}, Chg (fun k => k = c.lb) w6 w9 → Blk w9 c.lb 141 #[.pointer (some ⟨c.gt, 0, none⟩), .int .i64 (d : Int), .map (some c.B)] → ∃ (T' : Nat → Prop) (sn' : List (Nat × Unit)), LkSt c w9 T' (q + [id].length) ids ct (d : Int) sn' ∧ (∀ j, (aGet klI sn' j).isSome = true ↔ (j ∈ [id] ∨ (aGet klI sn j).isSome = true)) ∧ (∀ b, T' b → Ext T w w9 b) ∧ Chg (fun b => T b ∨ b = c.lb ∨ b = c.B) w w9 := fun {w9} h1 h2 => by
     have n6 := HC6.out.size
     have n9 := h1.size
     have nf := HF.out.2.size
     refine ⟨T2, _, H6.out.deep h1 h2, fun j => by rw [put_some HH.out.once, List.mem_singleton], fun b hb => (HF.out.1 b hb).up (by omega), ((HF.out.2.mono fun b _ h => .inl h).trans HC6.out fun b _ h => .inr (.inr h)).trans h1 fun b _ h => .inr (.inl h)⟩
    rcases hdp with hdp | hdp
    ·subst hdp
     have hb9 := H6.out.lk.set_ 1 (.int .i64 (d : Int))
     simp at hb9
     have hc9 : Chg (fun b => b = c.lb) w6 (w6.setCell ⟨c.lb, 1, none⟩ (.int .i64 (d : Int))) := Chg.setCell (p := ⟨c.lb, 1, none⟩) (Chg.refl (fun b => b = c.lb) w6) (fun _ => rfl) _
     have HFN := hide (hfin hc9 hb9)
     have y1 : (w6.setCell ⟨c.lb, 1, none⟩ (.int .i64 (d : Int))).cell? ⟨c.lb, 1, none⟩ = some (.int .i64 (d : Int)) := by have := hb9.cell 1; simpa using this
     have y0 : (w6.setCell ⟨c.lb, 1, none⟩ (.int .i64 (d : Int))).cell? ⟨c.lb, 0, none⟩ = some (.pointer (some ⟨c.gt, 0, none⟩)) := by have := hb9.cell 0; simpa using this
     have hdd : ((d : Int) != (d : Int)) = false := by simp
     clear hfin hb9 hc9
     go_wp2_with fail
     unfold LkP
     go_ret
     exact ⟨rfl, HFN.out⟩
    ·subst hdp
     have hdz : ((d : Int) == 0) = false := beq_eq_false_iff_ne.2 (by have := HD.out; omega)
     have hdd : ((d : Int) != (d : Int)) = false := by simp
     have HFN := hide (hfin (Chg.refl _ w6) H6.out.lk)
     clear hfin
     go_wp2_with fail
     unfold LkP
     go_ret
     exact ⟨rfl, HFN.out⟩
theorem keys_low {T : Nat → List Nat → List KV → Prop} {E : List Ent} {lo : List UInt8} (hB : Brn T E) (h : ∀ p ∈ lE E, cmpB lo p.1 ≤ 0) : ∀ x ∈ keysE E, cmpB lo x ≤ 0 := fun x hx => by
 cases E with
 | nil => simp [keysE] at hx
 | cons e E =>
  obtain ⟨y, hy, rfl⟩ := List.mem_map.1 (show x ∈ E.map (·.1) from by simpa [keysE] using hx)
  obtain ⟨p, hp⟩ := List.exists_mem_of_ne_nil _ (hB.ne e (by simp))
  have h1 := ((List.pairwise_cons.1 hB.pw).1 y hy).2 p hp
  have h2 := h p (by rw [lE_cons]; exact List.mem_append_left _ hp)
  exact Int.le_of_lt (cmpB_le_lt h2 h1)
theorem keys_high {T : Nat → List Nat → List KV → Prop} {E : List Ent} {hi : List UInt8} (hB : Brn T E) (h : ∀ p ∈ lE E, cmpB p.1 hi < 0) : ∀ x ∈ keysE E, cmpB x hi < 0 := fun x hx => by
 obtain ⟨y, hy, rfl⟩ := List.mem_map.1 (List.mem_of_mem_tail (show x ∈ (E.map (·.1)).tail from hx))
 obtain ⟨p, hp⟩ := List.exists_mem_of_ne_nil _ (hB.ne y hy)
 exact cmpB_le_lt (hB.lo y hy p hp) (h p (mem_lE.2 ⟨y, hy, hp⟩))
/-- how far the loop over a node's kids has come -/
structure LLp (c : LkK) (w : World) (T : Nat → Prop) (q : Nat) (ids : List Nat) (ct : Nat → List UInt8) (id : Nat) (dpf : Int) (sn : List (Nat × Unit)) (E : List Ent) (w3 : World) (KB : Nat → Prop) (k : Nat) (w' : World) (T1 : Nat → Prop) (dpi : Int) (sni : List (Nat × Unit)) : Prop where
 le : k ≤ E.length
 st : LkSt c w' T1 (q + 1 + (psE (E.take k)).length) ids ct dpi sni
 dp : (dpi = 0 ∨ dpi = dpf) ∧ (0 < k → dpi = dpf)
 seen : ∀ j, (aGet klI sni j).isSome = true ↔ (j = id ∨ j ∈ psE (E.take k) ∨ (aGet klI sn j).isSome = true)
 sub : ∀ b, T1 b → Ext T w w' b
 chg : Chg (fun b => T b ∨ b = c.lb ∨ b = c.B) w w'
 far : ∃ S : Nat → Prop, Chg S w3 w' ∧ ∀ b, KB b → ¬ S b
 kT : ∀ b, KB b → ¬ T1 b
theorem LLp.c0 {dpf dpi : Int} {E : List Ent} {w3 w2 : World} {KB T1 : Nat → Prop} {k : Nat} {sni : List (Nat × Unit)} (H : LLp c w T q ids ct id dpf sn E w3 KB k w' T1 dpi sni) (hc : Chg Non w' w2) : LLp c w T q ids ct id dpf sn E w3 KB k w2 T1 dpi sni := by
 obtain ⟨S, f1, f2⟩ := H.far
 exact ⟨H.le, H.st.c0 hc, H.dp, H.seen, fun b hb => (H.sub b hb).up hc.size, H.chg.trans0 hc, ⟨S, f1.trans0 hc, f2⟩, H.kT⟩
theorem LLp.step {dpf dpi : Int} {E : List Ent} {w3 w2 : World} {KB T1 T2 : Nat → Prop} {k : Nat} {sni sn2 : List (Nat × Unit)} {x : Ent} (H : LLp c w T q ids ct id dpf sn E w3 KB k w' T1 dpi sni) (hx : E[k]? = some x) (hKB : ∀ b, KB b → b < w3.heap.size ∧ b ≠ c.lb ∧ b ≠ c.B)
  (hs : LkSt c w2 T2 (q + 1 + (psE (E.take k)).length + x.2.ps.length) ids ct dpf sn2) (hsn : ∀ j, (aGet klI sn2 j).isSome = true ↔ (j ∈ x.2.ps ∨ (aGet klI sni j).isSome = true)) (hsub : ∀ b, T2 b → Ext T1 w' w2 b) (hc : Chg (fun b => T1 b ∨ b = c.lb ∨ b = c.B) w' w2) : LLp c w T q ids ct id dpf sn E w3 KB (k + 1) w2 T2 dpf sn2 := by
 have n1 := H.chg.size
 have n2 := hc.size
 obtain ⟨S, f1, f2⟩ := H.far
 have n3 := f1.size
 have hk : k < E.length := (List.getElem?_eq_some_iff.1 hx).1
 refine ⟨hk, by rw [(psE_step hx).1, List.length_append, ← Nat.add_assoc]; exact hs, ⟨.inr rfl, fun _ => rfl⟩, fun j => ?_, fun b hb => ?_, H.chg.trans hc fun b hb h => ?_, ⟨fun b => S b ∨ (T1 b ∨ b = c.lb ∨ b = c.B), (f1.mono fun b _ h => .inl h).trans hc fun b _ h => .inr h, fun b hb h => ?_⟩, fun b hb h => ?_⟩
 ·rw [hsn, H.seen, (psE_step hx).1, List.mem_append]
  constructor
  ·rintro (h | h | h | h)
   ·exact .inr (.inl (.inr h))
   ·exact .inl h
   ·exact .inr (.inl (.inl h))
   ·exact .inr (.inr h)
  ·rintro (h | (h | h) | h)
   ·exact .inr (.inl h)
   ·exact .inr (.inr (.inl h))
   ·exact .inl h
   ·exact .inr (.inr (.inr h))
 ·rcases hsub b hb with h | h
  ·exact (H.sub b h).up n2
  ·exact .inr ⟨by omega, h.2⟩
 ·rcases h with h | h | h
  ·rcases H.sub b h with h | h
   ·exact .inl h
   ·omega
  ·exact .inr (.inl h)
  ·exact .inr (.inr h)
 ·rcases h with h | h | h | h
  ·exact f2 b hb h
  ·exact H.kT b hb h
  ·exact (hKB b hb).2.1 h
  ·exact (hKB b hb).2.2 h
 ·rcases hsub b h with h | h
  ·exact H.kT b hb h
  ·have := (hKB b hb).1; omega
set_option maxHeartbeats 32000000 in
theorem look1 {E : List Ent} {G : Nat → Prop} {lo hi : List UInt8} {LA HA : Option Addr} {ln lc hn hc : Nat} (IH : LookAt h) (H : LkSt c w T q ids ct dp sn) (n : Nod ct ids h id E) (hsn : ∀ j ∈ id :: psE E, (aGet klI sn j).isSome = false) (hq : q + (id :: psE E).length ≤ 900000) (hd : 1 ≤ d ∧ d + h + 1 ≤ 1000) (hdp : dp = 0 ∨ dp = ((d + (h + 1) : Nat) : Int))
  (hlo : RdB w G (.slice LA ln lc) lo) (hhi : RdB w G (.slice HA hn hc) hi) (hG : ∀ b, G b → ¬ T b ∧ b ≠ c.lb ∧ b ≠ c.B) (hlw : ∀ p ∈ lE E, cmpB lo p.1 ≤ 0) (hbl : Below_ (lE E) HA hi) :
  Calls Tryz.prog 70 #[.pointer (some ⟨c.lb, 0, none⟩), .int .i64 (id : Int), .int .i64 (d : Int), .slice LA ln lc, .slice HA hn hc] w (LkP c w T q ids ct (id :: psE E) ((d + (h + 1) : Nat) : Int) sn) := by
 have nf := nod_facts n
 have hil : id ≤ 65535 := n.lim
 have hch := tChildI H.ts H.tr H.off.1 (n.sub id (by simp)) (by omega) nf.1 nf.2.1 nf.2.2.1 nf.2.2.2.1 nf.2.2.2.2.1 nf.2.2.2.2.2
 have hkl : (keysE E).length ≤ 600 := by have := sizeIn_len (keysE E) (idsE E).length; have := nf.2.2.2.2.2; omega
 have hEl : E.length = (keysE E).length + 1 := n.brn.len
 have HSN := hide (hsn id (by simp))
 have HL := hide (And.intro hkl (And.intro hEl nf.2.2.2.2.1))
 have HPK := hide (show ∀ x ∈ keysE E, cmpB lo x ≤ 0 ∧ (HA = none ∨ cmpB x hi < 0) from fun x hx => ⟨keys_low n.brn hlw x hx, hbl.imp_right fun h => keys_high n.brn h x hx⟩)
 have HD := hide hd
 have HDP := hide hdp
 have HBL := hide (And.intro hlw hbl)
 have HSA := hide hsn
 clear hsn hkl hEl hlw hbl hd hdp nf
 have HH := hide H
 have HR := hide (And.intro hlo hhi)
 have HG := hide hG
 clear H hlo hhi hG
 go_enter Tryz.func70, Tryz.ntmps70
 have t0 := HH.out.lk.cell 0
 simp at t0
 go_upto_region 2 with (go_at_call 92; refine hch.mono ?_; rintro e w2 ⟨T2, B2, KA, kn, kc, VA, vn, vc, NA, nn, nc, rfl, hO⟩)
 have hbb := Blk.new w2 125 #[.bool false, .slice KA kn kc, .slice VA vn vc, .slice NA nn nc]
 have hcB := (Chg.refl Non w2).alloc (.cells #[.bool false, .slice KA kn kc, .slice VA vn vc, .slice NA nn nc] 125)
 generalize hww : World.alloc w2 _ = w3
 rw [show w2.alloc (.cells #[.bool false, .slice KA kn kc, .slice VA vn vc, .slice NA nn nc] 125) = w3 from hww] at hbb hcB
 obtain ⟨gb, hgb⟩ : ∃ g, g = w2.heap.size := ⟨_, rfl⟩
 rw [← hgb] at hbb ⊢
 have H3 := (HH.out.tree hO.chg hO.ts hO.sub (Nat.le_succ q)).c0 hcB
 have hw2 := hO.chg.size
 have hw3 := hbb.lt
 have hlo2 := hO.lo
 have hlbl := HH.out.lk.lt
 have hBl := World.ownsMap.lt HH.out.mp
 have hknE : kn = (keysE E).length := by obtain ⟨_, _, e, _, _⟩ := hO.k.shape; injection e
 have hgbn : gb ≠ c.lb ∧ gb ≠ c.B ∧ ¬ T2 gb ∧ gb < w3.heap.size ∧ w.heap.size ≤ gb := ⟨by omega, by omega, fun h => by have := hO.ts.lt gb h; omega, hw3, by omega⟩
 have hk3 := (hO.k.c0 hcB).mono (F' := fun b => B2 ≤ b ∧ b < w3.heap.size) fun b hb => ⟨hb.1, by omega⟩
 have HN3 := hide (And.intro ((hO.n.c0 hcB).mono (F' := fun b => B2 ≤ b ∧ b < w3.heap.size) fun b hb => ⟨hb.1, by omega⟩) (And.intro (show nn = E.length by obtain ⟨_, _, e, _, _⟩ := hO.n.shape; injection e with _ e _; rw [e, izs_len, idsE_len]) (show B2 ≤ gb by obtain ⟨A, cc, e, _, _⟩ := hO.n.shape; obtain ⟨ad, eA, hf, _⟩ := RdI.at_ (k := 0) hO.n (by rw [izs_len, idsE_len]; have := HL.out.2.1; omega); omega)))
 have hr3 := And.intro ((HR.out.1.lt.chg hO.chg fun b hb => (HG.out b hb.1).1).c0 hcB) ((HR.out.2.lt.chg hO.chg fun b hb => (HG.out b hb.1).1).c0 hcB)
 have HB2 := hide (show (∀ b, T2 b → b < B2) ∧ w.heap.size ≤ B2 ∧ c.lb < B2 ∧ c.B < B2 from ⟨hO.low, hlo2, by omega, by omega⟩)
 have HF := hide (And.intro (show ∀ b, T2 b → Ext T w w3 b from fun b hb => (hO.sub b hb).up hcB.size) (hO.chg.trans0 hcB))
 have HGN := hide hgbn
 have hlk := lookS H3.mp (k := id) (by omega)
 rw [HSN.out] at hlk
 have hmm := H3.mp
 have hmx : sn.length < maxLen := by have := HH.out.len; unfold maxLen; omega
 have hkey := keyOf_i (i := id) (by omega)
 have l0 := H3.lk.cell 0
 have l2 := H3.lk.cell 2
 simp at l0 l2
 have g1 := H3.tr.cell 1
 simp at g1
 obtain ⟨⟨b0, b1, b2, b3⟩, _⟩ := blk4 hbb
 have HB := hide hbb
 have H3h := hide H3
 have HK3 := hide hk3
 have HR3 := hide hr3
 have HKN := hide hknE
 have HZ := hide (show kn ≤ 1000 by rw [hknE]; have := HL.out.1; omega)
 clear hch hww hbb hcB hO hw2 hw3 hlo2 hlbl hBl hgbn H3 hk3 hr3 hknE hgb
 go_upto_region 7 with (at_mapUpdate; refine wpList_mapUpdate_own _ rfl _ _ _ 139 rfl 3 4 keyN Tryz.underlying139 heldR c.B sn.length _ rfl hmm hmx _ _ (klI id) rfl rfl hkey (.held (.bool true)) [] rfl ?_; intro w5 hm5 hg5)
 have hc5 : Chg (fun k => k = c.B) w3 w5 := (Chg.of_grown hg5).mono fun b _ e => by injection e
 have H5 := H3h.out.note (by have := HH.out.len; omega) hc5 (putZ hm5)
 have HB5 := hide (HB.out.chg hc5 HGN.out.2.1)
 have HK5 := hide (HK3.out.chg hc5 fun b hb e => by have e : b = c.B := e; have := HB2.out.2.2.2; omega)
 have HR5 := hide (And.intro (HR3.out.1.chg hc5 fun b hb e => (HG.out b hb.1).2.2 e) (HR3.out.2.chg hc5 fun b hb e => (HG.out b hb.1).2.2 e))
 have HC5 := hide hc5
 have H5h := hide H5
 clear hm5 hg5 hc5 H5 hlk hmm hmx hkey l0 l2 g1 b0 b1 b2 b3 t0 HK3 HR3 H3h
 obtain ⟨⟨b0, b1, b2, b3⟩, _⟩ := blk4 HB5.out
 have hneq := fun (w : World) => run_neq_slice_nil_any (P := Tryz.prog) w 30 5 HA hn hc 0 0 Tryz.underlying30
 go_wp2_with fail
 clear b0 b1 b2 b3
 go_loopw [67] (fun i wr => ∃ (k : Nat), k ≤ kn ∧ i = .int .i64 (k : Int) ∧ Quiet w5 wr) (fun i _ => kn - (intOf i).toNat)
 case atStart => exact ⟨0, Nat.zero_le _, rfl, ⟨0, rfl⟩⟩
 case round =>
  obtain ⟨k, hk, rfl, hqt⟩ := hrel
  have hcq := (Chg.refl Non w5).quiet hqt
  have HQ := hide hqt
  have hkb : k ≤ 2000 := by have := HZ.out; omega
  by_cases hkk : k < kn
  ·have hks : k < (keysE E).length := by rw [← HKN.out]; exact hkk
   obtain ⟨ka, kx, rfl, _, hkc, hkr⟩ := (HK5.out.c0 hcq).at_ (k := k) hks
   have hpk := HPK.out _ (List.getElem_mem hks)
   obtain ⟨xk, hxk⟩ : ∃ x, x = (keysE E)[k] := ⟨_, rfl⟩
   rw [← hxk] at hkr hpk
   obtain ⟨XA, xc, rfl, _, _⟩ := hkr.shape
   obtain ⟨xn, hxn⟩ : ∃ n, n = xk.length := ⟨_, rfl⟩
   rw [← hxn] at hkc hkr
   obtain ⟨c1, hc1⟩ : ∃ z, z = cmpB xk lo := ⟨_, rfl⟩
   obtain ⟨c2, hc2⟩ : ∃ z, z = cmpB xk hi := ⟨_, rfl⟩
   have hcmp1 := packCompare hkr (HR5.out.1.c0 hcq)
   rw [← hc1] at hcmp1
   have hcmp2 := fun n => packCompare (hkr.dn n) ((HR5.out.2.c0 hcq).dn n)
   rw [← hc2] at hcmp2
   have hge : decide (c1 < 0) = false := decide_eq_false (by rw [hc1]; have := cmpB_neg lo xk; have := hpk.1; omega)
   have hge2 : ¬ c1 < 0 := of_decide_eq_false hge
   have HXK := hide (show HA = none ∨ c2 < 0 from hpk.2.imp_right fun h => by rw [hc2]; exact h)
   have HKK := hide hkk
   clear hxk hxn hc1 hc2 hpk hks hk hqt hkr
   cases HA with
   | none =>
    have hneq1 : ∀ w : World, (binOp .neq 30 (.slice none hn hc) (.slice none 0 0)).run Tryz.prog w = .ok (.bool false) w := hneq
    clear hneq
    go_wp2_with (go_at_call 63; refine hcmp1.mono ?_; rintro e w8 ⟨rfl, nq, rfl⟩)
    go_roundw
    case rel => exact ⟨k + 1, HKK.out, by go_num, HQ.out.dn _⟩
    case measure => (have := HKK.out; simp [intOf]; omega)
   | some ha =>
    have hneq1 : ∀ w : World, (binOp .neq 30 (.slice (some ha) hn hc) (.slice none 0 0)).run Tryz.prog w = .ok (.bool true) w := hneq
    have hlt : c2 < 0 := HXK.out.elim (fun h => by cases h) (fun h => h)
    have hlt1 : decide (c2 ≥ 0) = false := decide_eq_false (by omega)
    have hlt2 : decide (0 ≤ c2) = false := decide_eq_false (by omega)
    clear hneq hlt
    go_wp2_with (first | (go_at_call 63; refine hcmp1.mono ?_; rintro e w8 ⟨rfl, nq, rfl⟩; clear hcmp1) | (go_at_call 63; refine (hcmp2 _).mono ?_; rintro e w9 ⟨rfl, nr, rfl⟩))
    go_roundw
    case rel => exact ⟨k + 1, HKK.out, by go_num, HQ.out.dn _⟩
    case measure => (have := HKK.out; simp [intOf]; omega)
  ·have hcq5 := (Chg.refl Non w5).quiet hqt
   have H6 := hide (H5h.out.c0 hcq5)
   have HC6 := hide (HC5.out.trans0 hcq5)
   have HB6 := hide (HB5.out.c0 hcq5)
   have HK6 := hide (HK5.out.c0 hcq5)
   have HR6 := hide (And.intro (HR5.out.1.c0 hcq5) (HR5.out.2.c0 hcq5))
   have hkn : ¬ (k : Int) < (kn : Int) := by omega
   have hkd : decide ((k : Int) < (kn : Int)) = false := decide_eq_false hkn
   obtain ⟨w6, hw6⟩ : ∃ w6, w6 = wr := ⟨_, rfl⟩
   rw [← hw6] at H6 HC6 HB6 HK6 HR6 ⊢
   clear hw6 hqt hcq hcq5 hneq H5h HC5 HB5 HK5 HR5
   obtain ⟨⟨b0, b1, b2, b3⟩, _⟩ := blk4 HB6.out
   go_wp2_with fail
   clear b0 b1 b2 b3
   have hFB : ∀ b, ((B2 ≤ b ∧ b < w3.heap.size) ∨ (G b ∧ b < w.heap.size)) → b < w3.heap.size ∧ b ≠ c.lb ∧ b ≠ c.B ∧ ¬ T2 b := fun b hb => by
    have hh := HB2.out
    have nf := HF.out.2.size
    rcases hb with hb | hb
    ·exact ⟨hb.2, by omega, by omega, fun h => by have := hh.1 b h; omega⟩
    ·have h2 := HG.out b hb.1
     exact ⟨by omega, h2.2.1, h2.2.2, fun h => by have := hh.1 b h; rcases HF.out.1 b h with h | h; exact h2.1 h; omega⟩
   have HFB := hide hFB
   have HST : Hid (LLp c w T q ids ct id ((d + (h + 1) : Nat) : Int) sn E w6 (fun b => (B2 ≤ b ∧ b < w3.heap.size) ∨ (G b ∧ b < w.heap.size)) 0 w6 T2 dp (aPut klI id () sn)) := hide ⟨Nat.zero_le _, H6.out, ⟨HDP.out, fun h => absurd h (Nat.lt_irrefl _)⟩, fun j => by rw [put_some HH.out.once]; simp [psE], fun b hb => (HF.out.1 b hb).up HC6.out.size, (HF.out.2.mono fun b _ h => .inl h).trans HC6.out fun b _ h => .inr (.inr h), ⟨Non, Chg.refl _ _, fun _ _ h => h⟩, fun b hb => (hFB b hb).2.2.2⟩
   have HR9 := hide (show RdI w6 (fun b => (B2 ≤ b ∧ b < w3.heap.size) ∨ (G b ∧ b < w.heap.size)) (.slice NA nn nc) (izs (idsE E)) ∧ RdBB w6 (fun b => (B2 ≤ b ∧ b < w3.heap.size) ∨ (G b ∧ b < w.heap.size)) (.slice KA kn kc) (keysE E) ∧ RdB w6 (fun b => (B2 ≤ b ∧ b < w3.heap.size) ∨ (G b ∧ b < w.heap.size)) (.slice LA ln lc) lo ∧ RdB w6 (fun b => (B2 ≤ b ∧ b < w3.heap.size) ∨ (G b ∧ b < w.heap.size)) (.slice HA hn hc) hi ∧ Blk w6 gb 125 #[.bool false, .slice KA kn kc, .slice VA vn vc, .slice NA nn nc] from ⟨(HN3.out.1.chg HC6.out fun b hb e => by have e : b = c.B := e; have := HB2.out.2.2.2; omega).mono fun b hb => .inl hb, HK6.out.mono fun b hb => .inl hb, HR6.out.1.mono fun b hb => .inr hb, HR6.out.2.mono fun b hb => .inr hb, HB6.out⟩)
   have HGB9 := hide (show B2 ≤ gb ∧ gb < w3.heap.size ∧ w3.heap.size ≤ w6.heap.size from ⟨HN3.out.2.2, HGN.out.2.2.2.1, HC6.out.size⟩)
   clear hFB
   go_loopw [106] (fun i wr => ∃ (k : Nat) (T1 : Nat → Prop) (dpi : Int) (sni : List (Nat × Unit)), i = .int .i64 (k : Int) ∧ Hid (LLp c w T q ids ct id ((d + (h + 1) : Nat) : Int) sn E w6 (fun b => (B2 ≤ b ∧ b < w3.heap.size) ∨ (G b ∧ b < w.heap.size)) k wr T1 dpi sni)) (fun i _ => E.length - (intOf i).toNat)
   case atStart => exact ⟨0, T2, dp, _, rfl, HST⟩
   case round =>
    obtain ⟨i, T1, dpi, sni, rfl, hst⟩ := hrel
    obtain ⟨Sx, f1, f2⟩ := hst.out.far
    have hr := HR9.out
    have HBr := hide (hr.2.2.2.2.chg f1 (f2 gb (.inl ⟨HGB9.out.1, HGB9.out.2.1⟩)))
    have HRr := hide (And.intro (hr.1.chg f1 f2) (And.intro (hr.2.1.chg f1 f2) (And.intro (hr.2.2.1.chg f1 f2) (hr.2.2.2.1.chg f1 f2))))
    obtain ⟨⟨b0, b1, b2, b3⟩, _⟩ := blk4 HBr.out
    have hie := hst.out.le
    have hib : i ≤ 700 := by have := HL.out.2.1; have := HL.out.1; omega
    clear f1 f2 hr
    by_cases hil2 : i < E.length
    ·have hkn : decide ((i : Int) < (nn : Int)) = true := decide_eq_true (by have := HN3.out.2.1; omega)
     have hkn2 : i < nn := by have := HN3.out.2.1; omega
     obtain ⟨⟨k0, x⟩, hx⟩ : ∃ e, e = E[i] := ⟨_, rfl⟩
     have hxe : E[i]? = some (k0, x) := by rw [hx]; exact List.getElem?_eq_getElem hil2
     obtain ⟨na, rfl, _, hkid⟩ := HRr.out.1.at_ (k := i) (by rw [izs_len, idsE_len]; exact hil2)
     have hkv : (izs (idsE E))[i]'(by rw [izs_len, idsE_len]; exact hil2) = (x.id : Int) := by
      simp only [izs, idsE, List.getElem_map, ← hx]
     rw [hkv] at hkid
     have hdrop : E.drop i = (k0, x) :: E.drop (i + 1) := by rw [hx, ← List.drop_eq_getElem_cons hil2]
     have hbrn : Brn (TR ct h) (E.take i ++ (k0, x) :: E.drop (i + 1)) := by
      have e : E.take i ++ (k0, x) :: E.drop (i + 1) = E := by rw [← hdrop, List.take_append_drop]
      rw [e]; exact n.brn
     have hkT : TR ct h x.id x.ps x.l := hbrn.kid (k0, x) (by simp)
     have hon := n.once
     have hsb := n.sub
     rw [← List.take_append_drop i E, hdrop, psE_app, psE_cons] at hon hsb
     have hnod : x.ps.Nodup ∧ (∀ j ∈ x.ps, j ∈ ids) := ⟨(List.nodup_append.1 (List.nodup_append.1 (List.nodup_cons.1 hon).2).2.1).1, fun j hj => hsb j (by simp [hj])⟩
     have hmem : ∀ j ∈ x.ps, j ∈ psE E := fun j hj => by rw [← List.take_append_drop i E, hdrop, psE_app, psE_cons]; simp [hj]
     have hseen : ∀ j ∈ x.ps, (aGet klI sni j).isSome = false := fun j hj => by
      rw [Bool.eq_false_iff]
      intro e
      rcases (hst.out.seen j).1 e with h1 | h1 | h1
      ·exact (List.nodup_cons.1 hon).1 (by rw [← h1]; simp [hj])
      ·exact (List.nodup_append.1 (List.nodup_cons.1 hon).2).2.2 j h1 j (by simp [hj]) rfl
      ·rw [HSA.out j (List.mem_cons_of_mem _ (hmem j hj))] at h1; cases h1
     have hpl : (psE (E.take i)).length + x.ps.length ≤ (psE E).length := by
      conv => rhs; rw [← List.take_append_drop i E, hdrop, psE_app, psE_cons, List.length_append, List.length_append]
      dsimp only
      omega
     have hqq : q + 1 + (psE (E.take i)).length + x.ps.length ≤ 900000 := by rw [List.length_cons] at hq; omega
     obtain ⟨d1x, hd1x⟩ : ∃ d', d' = d + 1 := ⟨_, rfl⟩
     have wd : IntKind.i64.wrap ((d : Int) + 1) = (d1x : Int) := by rw [IntWalk.i64_in _ (by have := HD.out; omega)]; omega
     have hdd : d1x + h = d + (h + 1) := by omega
     have hdp1 : dpi = 0 ∨ dpi = ((d1x + h : Nat) : Int) := by rw [hdd]; exact hst.out.dp.1
     have hlw1 : ∀ p ∈ x.l, cmpB lo p.1 ≤ 0 := fun p hp => HBL.out.1 p (mem_lE.2 ⟨(k0, x), by rw [hx]; exact List.getElem_mem hil2, hp⟩)
     have hbl1 : Below_ x.l HA hi := HBL.out.2.imp_right fun h p hp => h p (mem_lE.2 ⟨(k0, x), by rw [hx]; exact List.getElem_mem hil2, hp⟩)
     have HX := hide (And.intro hxe (And.intro hbrn hdrop))
     have HI := hide (And.intro hkT (And.intro hnod (And.intro hseen (And.intro hqq (And.intro hdp1 (And.intro hlw1 hbl1))))))
     have HDD := hide (And.intro hd1x hdd)
     have HIL := hide hil2
     have HKID := hide hkid
     have hf1 : ∀ b, ((B2 ≤ b ∧ b < w3.heap.size) ∨ (G b ∧ b < w.heap.size)) → ¬ T1 b ∧ b ≠ c.lb ∧ b ≠ c.B := fun b hb => ⟨hst.out.kT b hb, (HFB.out b hb).2.1, (HFB.out b hb).2.2.1⟩
     have HF1 := hide hf1
     have HKB := hide (show ∀ b, ((B2 ≤ b ∧ b < w3.heap.size) ∨ (G b ∧ b < w.heap.size)) → b < w6.heap.size ∧ b ≠ c.lb ∧ b ≠ c.B from fun b hb => ⟨by have := (HFB.out b hb).1; have := HGB9.out.2.2; omega, (HFB.out b hb).2.1, (HFB.out b hb).2.2.1⟩)
     clear hx hxe hkv hbrn hkT hdrop hon hsb hnod hmem hseen hpl hqq hdp1 hlw1 hbl1 hie hil2 hd1x hdd hf1
     by_cases hi0 : i = 0
     ·subst hi0
      by_cases hlast : 0 < kn
      ·have g1 : decide ((0 : Int) < (kn : Int)) = true := decide_eq_true (by omega)
       have hik : 0 < (keysE E).length := by rw [← HKN.out]; exact hlast
       obtain ⟨ua, ux, hua, _, huc, hur⟩ := HRr.out.2.1.at_ (k := 0) hik
       subst hua
       obtain ⟨k1, hk1⟩ : ∃ k1, k1 = (keysE E)[0] := ⟨_, rfl⟩
       have hup : ∀ p ∈ x.l, cmpB p.1 k1 < 0 := fun p hp => by
        have h1 : (E.map (·.1)).tail[0]? = some k1 := by rw [hk1]; exact List.getElem?_eq_getElem hik
        rw [List.getElem?_tail, List.getElem?_map] at h1
        obtain ⟨y, hy, rfl⟩ := Option.map_eq_some_iff.1 h1
        have h2 : y ∈ E.drop (0 + 1) := List.mem_of_getElem? (i := 0) (by rw [List.getElem?_drop, Nat.add_zero]; exact hy)
        exact ((List.pairwise_cons.1 (List.pairwise_append.1 HX.out.2.1.pw).2.1).1 y h2).2 p hp
       have hk64 : k1.length ≤ 64 := by rw [hk1]; exact HL.out.2.2 _ (List.getElem_mem hik)
       rw [← hk1] at hur
       obtain ⟨UA, ucc, rfl, _, _⟩ := hur.shape
       obtain ⟨un, hun⟩ : ∃ n, n = k1.length := ⟨_, rfl⟩
       rw [← hun] at huc hur
       have HUP := hide hup
       have hur2 := hur.chg ((Chg.refl Non wr).alloc (.cells #[] 5)) (fun _ _ h => h)
       have hlen9 : ([] : List UInt8).length + k1.length ≤ 140737488355328 := by simp; omega
       clear hk1 hup hik hun hur
       have hkz := HKID.out
       have hkz0 : wr.cell? na = some (.int .i64 (x.id : Int)) := by have h := hkz; rwa [show na.add 0 = na from by simp [Addr.add]] at h
       have huc0 : wr.cell? ua = some (.slice UA un ucc) := by have h := huc; rwa [show ua.add 0 = ua from by simp [Addr.add]] at h
       have b1a := cell_c0 b1 ((Chg.refl Non wr).alloc (.cells #[] 5))
       have huca := cell_c0 huc ((Chg.refl Non wr).alloc (.cells #[] 5))
       have huca0 := cell_c0 huc0 ((Chg.refl Non wr).alloc (.cells #[] 5))
       go_upto_region 27 with (at_builtin; refine append_B rfl _ _ rfl (own_zero wr) rfl hur2 rfl hlen9 (by simp) ?_; intro v8 w8 hown8 hg8 hat8; obtain ⟨WA, wn, wc, rfl⟩ := OwnB.shapeH hown8)
       have hcx : Chg Non wr w8 := ((Chg.refl Non wr).alloc _).own hg8 (by simp [Value.ownBlock])
       have hn8 := hcx.size
       have hr8 : RdB w8 (fun b => wr.heap.size ≤ b ∧ b < w8.heap.size) (.slice WA wn wc) k1 := hown8.rdB
       have hih := IH (d := d1x) (G := fun b => ((B2 ≤ b ∧ b < w3.heap.size) ∨ (G b ∧ b < w.heap.size)) ∨ (wr.heap.size ≤ b ∧ b < w8.heap.size)) (hst.out.st.c0 hcx) HI.out.1 HI.out.2.1.1 HI.out.2.1.2 HI.out.2.2.1 HI.out.2.2.2.1 (by have := HDD.out; have := HD.out; omega) HI.out.2.2.2.2.1 (fun _ => HX.out.2.1.ne (k0, x) (by simp)) ((HRr.out.2.2.1.c0 hcx).mono fun b hb => .inl hb) (hr8.mono fun b hb => .inr hb) (fun b hb => by
        rcases hb with hb | hb
        ·exact HF1.out b hb
        ·have h1 := hst.out.st.ts.lt; have h2 := hst.out.st.lk.lt; have h3 := World.ownsMap.lt hst.out.st.mp
         exact ⟨fun h => by have := h1 b h; omega, by omega, by omega⟩) HI.out.2.2.2.2.2.1 (.inr HUP.out)
       unfold LkP at hih
       rw [HDD.out.2] at hih
       have HLX := hide (hst.out.c0 hcx)
       have hkid8 := cell_c0 HKID.out hcx
       obtain ⟨⟨b0x, b1x, b2x, b3x⟩, _⟩ := blk4 (HBr.out.c0 hcx)
       clear hur2 hown8 hg8 hat8 hn8 hr8 hcx b0 b1 b2 b3 huc
       go_wp2_with (go_at_call 70; refine hih.mono ?_; rintro e w9 ⟨rfl, T9, sn9, hS9, hsn9, hs9, hc9⟩)
       have HL9 := hide (HLX.out.step HX.out.1 HKB.out hS9 hsn9 hs9 hc9)
       clear hS9 hsn9 hs9 hc9 hih hst
       go_roundw
       case rel => first | exact ⟨0 + 1, T9, _, sn9, by go_num, HL9⟩ | ((repeat apply Exists.intro); exact ⟨⟨0 + 1, T9, _, sn9, by go_num, HL9⟩, rfl⟩)
       case measure => (have := HIL.out; simp [intOf]; omega)
      ·have g1 : decide ((0 : Int) < (kn : Int)) = false := decide_eq_false (by omega)
       have g2 : ¬ 0 < kn := hlast
       have hih := IH (d := d1x) hst.out.st HI.out.1 HI.out.2.1.1 HI.out.2.1.2 HI.out.2.2.1 HI.out.2.2.2.1 (by have := HDD.out; have := HD.out; omega) HI.out.2.2.2.2.1 (fun _ => HX.out.2.1.ne (k0, x) (by simp)) HRr.out.2.2.1 HRr.out.2.2.2 HF1.out HI.out.2.2.2.2.2.1 HI.out.2.2.2.2.2.2
       unfold LkP at hih
       rw [HDD.out.2] at hih
       have hcx : Chg Non wr wr := Chg.refl _ _
       have HLX := hide hst.out
       have hkz := HKID.out
       have hkz0 : wr.cell? na = some (.int .i64 (x.id : Int)) := by have h := hkz; rwa [show na.add 0 = na from by simp [Addr.add]] at h
       go_wp2_with (go_at_call 70; refine hih.mono ?_; rintro e w9 ⟨rfl, T9, sn9, hS9, hsn9, hs9, hc9⟩)
       have HL9 := hide (HLX.out.step HX.out.1 HKB.out hS9 hsn9 hs9 hc9)
       clear hS9 hsn9 hs9 hc9 hih hst
       go_roundw
       case rel => first | exact ⟨0 + 1, T9, _, sn9, by go_num, HL9⟩ | ((repeat apply Exists.intro); exact ⟨⟨0 + 1, T9, _, sn9, by go_num, HL9⟩, rfl⟩)
       case measure => (have := HIL.out; simp [intOf]; omega)
     ·have e1 : decide ((i : Int) > 0) = true := decide_eq_true (by omega)
      have e2 : decide (0 < (i : Int)) = true := decide_eq_true (by omega)
      have e3 : decide (0 < i) = true := decide_eq_true (by omega)
      obtain ⟨j, hj⟩ : ∃ j, i = j + 1 := ⟨i - 1, by omega⟩
      have hw1 : IntKind.i64.wrap ((i : Int) - 1) = (j : Int) := by rw [IntWalk.i64_in _ (by omega)]; omega
      have hjk : j < (keysE E).length := by have := HL.out.2.1; have := HIL.out; omega
      have hjn : j < kn := by have := HKN.out; omega
      have hgk : (keysE E)[j] = k0 := by
       have h := HX.out.1
       rw [hj] at h
       have h2 : (E.map (·.1)).tail[j]? = some k0 := by rw [List.getElem?_tail, List.getElem?_map, h]; rfl
       exact Option.some.inj ((List.getElem?_eq_getElem hjk).symm.trans h2)
      obtain ⟨ka, kx, rfl, _, hkc, hkr⟩ := HRr.out.2.1.at_ (k := j) hjk
      rw [hgk] at hkr
      obtain ⟨XA, xc, rfl, _, _⟩ := hkr.shape
      obtain ⟨xn, hxn⟩ : ∃ n, n = k0.length := ⟨_, rfl⟩
      rw [← hxn] at hkc hkr
      have HKR := hide hkr
      have HJ := hide hj
      clear hgk hxn hkr hj hjk hi0
      by_cases hlast : i < kn
      ·have g1 : decide ((i : Int) < (kn : Int)) = true := decide_eq_true (by omega)
       have hik : i < (keysE E).length := by rw [← HKN.out]; exact hlast
       obtain ⟨ua, ux, hua, _, huc, hur⟩ := HRr.out.2.1.at_ (k := i) hik
       injection hua with hua; subst hua
       obtain ⟨k1, hk1⟩ : ∃ k1, k1 = (keysE E)[i] := ⟨_, rfl⟩
       have hup : ∀ p ∈ x.l, cmpB p.1 k1 < 0 := fun p hp => by
        have h1 : (E.map (·.1)).tail[i]? = some k1 := by rw [hk1]; exact List.getElem?_eq_getElem hik
        rw [List.getElem?_tail, List.getElem?_map] at h1
        obtain ⟨y, hy, rfl⟩ := Option.map_eq_some_iff.1 h1
        have h2 : y ∈ E.drop (i + 1) := List.mem_of_getElem? (i := 0) (by rw [List.getElem?_drop, Nat.add_zero]; exact hy)
        exact ((List.pairwise_cons.1 (List.pairwise_append.1 HX.out.2.1.pw).2.1).1 y h2).2 p hp
       have hk64 : k1.length ≤ 64 := by rw [hk1]; exact HL.out.2.2 _ (List.getElem_mem hik)
       rw [← hk1] at hur
       obtain ⟨UA, ucc, rfl, _, _⟩ := hur.shape
       obtain ⟨un, hun⟩ : ∃ n, n = k1.length := ⟨_, rfl⟩
       rw [← hun] at huc hur
       have HUP := hide hup
       have hur2 := hur.chg ((Chg.refl Non wr).alloc (.cells #[] 5)) (fun _ _ h => h)
       have hlen9 : ([] : List UInt8).length + k1.length ≤ 140737488355328 := by simp; omega
       clear hk1 hup hik hun hur
       have hkz := HKID.out
       have b1a := cell_c0 b1 ((Chg.refl Non wr).alloc (.cells #[] 5))
       have huca := cell_c0 huc ((Chg.refl Non wr).alloc (.cells #[] 5))
       go_upto_region 27 with (at_builtin; refine append_B rfl _ _ rfl (own_zero wr) rfl hur2 rfl hlen9 (by simp) ?_; intro v8 w8 hown8 hg8 hat8; obtain ⟨WA, wn, wc, rfl⟩ := OwnB.shapeH hown8)
       have hcx : Chg Non wr w8 := ((Chg.refl Non wr).alloc _).own hg8 (by simp [Value.ownBlock])
       have hn8 := hcx.size
       have hr8 : RdB w8 (fun b => wr.heap.size ≤ b ∧ b < w8.heap.size) (.slice WA wn wc) k1 := hown8.rdB
       have hih := IH (d := d1x) (G := fun b => ((B2 ≤ b ∧ b < w3.heap.size) ∨ (G b ∧ b < w.heap.size)) ∨ (wr.heap.size ≤ b ∧ b < w8.heap.size)) (hst.out.st.c0 hcx) HI.out.1 HI.out.2.1.1 HI.out.2.1.2 HI.out.2.2.1 HI.out.2.2.2.1 (by have := HDD.out; have := HD.out; omega) HI.out.2.2.2.2.1 (fun _ => HX.out.2.1.ne (k0, x) (by simp)) ((HKR.out.c0 hcx).mono fun b hb => .inl hb) (hr8.mono fun b hb => .inr hb) (fun b hb => by
        rcases hb with hb | hb
        ·exact HF1.out b hb
        ·have h1 := hst.out.st.ts.lt; have h2 := hst.out.st.lk.lt; have h3 := World.ownsMap.lt hst.out.st.mp
         exact ⟨fun h => by have := h1 b h; omega, by omega, by omega⟩) (HX.out.2.1.lo (k0, x) (by simp)) (.inr HUP.out)
       unfold LkP at hih
       rw [HDD.out.2] at hih
       have HLX := hide (hst.out.c0 hcx)
       have hkid8 := cell_c0 HKID.out hcx
       obtain ⟨⟨b0x, b1x, b2x, b3x⟩, _⟩ := blk4 (HBr.out.c0 hcx)
       clear hur2 hown8 hg8 hat8 hn8 hr8 hcx b0 b1 b2 b3 huc
       go_wp2_with (go_at_call 70; refine hih.mono ?_; rintro e w9 ⟨rfl, T9, sn9, hS9, hsn9, hs9, hc9⟩)
       have HL9 := hide (HLX.out.step HX.out.1 HKB.out hS9 hsn9 hs9 hc9)
       clear hS9 hsn9 hs9 hc9 hih hst
       go_roundw
       case rel => first | exact ⟨i + 1, T9, _, sn9, by go_num, HL9⟩ | ((repeat apply Exists.intro); exact ⟨⟨i + 1, T9, _, sn9, by go_num, HL9⟩, rfl⟩)
       case measure => (have := HIL.out; simp [intOf]; omega)
      ·have g1 : decide ((i : Int) < (kn : Int)) = false := decide_eq_false (by omega)
       have g2 : ¬ i < kn := hlast
       have hih := IH (d := d1x) hst.out.st HI.out.1 HI.out.2.1.1 HI.out.2.1.2 HI.out.2.2.1 HI.out.2.2.2.1 (by have := HDD.out; have := HD.out; omega) HI.out.2.2.2.2.1 (fun _ => HX.out.2.1.ne (k0, x) (by simp)) HKR.out HRr.out.2.2.2 HF1.out (HX.out.2.1.lo (k0, x) (by simp)) HI.out.2.2.2.2.2.2
       unfold LkP at hih
       rw [HDD.out.2] at hih
       have hcx : Chg Non wr wr := Chg.refl _ _
       have HLX := hide hst.out
       have hkz := HKID.out
       go_wp2_with (go_at_call 70; refine hih.mono ?_; rintro e w9 ⟨rfl, T9, sn9, hS9, hsn9, hs9, hc9⟩)
       have HL9 := hide (HLX.out.step HX.out.1 HKB.out hS9 hsn9 hs9 hc9)
       clear hS9 hsn9 hs9 hc9 hih hst
       go_roundw
       case rel => first | exact ⟨i + 1, T9, _, sn9, by go_num, HL9⟩ | ((repeat apply Exists.intro); exact ⟨⟨i + 1, T9, _, sn9, by go_num, HL9⟩, rfl⟩)
       case measure => (have := HIL.out; simp [intOf]; omega)
    ·have hkn : decide ((i : Int) < (nn : Int)) = false := decide_eq_false (by have := HN3.out.2.1; omega)
     have hkn2 : ¬ i < nn := by have := HN3.out.2.1; omega
     have e : E.take i = E := List.take_of_length_le (by omega)
     have hd9 : dpi = ((d + (h + 1) : Nat) : Int) := hst.out.dp.2 (by have := HL.out.2.1; omega)
     have h9 := hst.out
     rw [hd9] at h9
     have HFIN := hide h9
     have HE9 := hide e
     clear hst hie hil2 e hd9 h9
     go_wp2_with fail
     unfold LkP
     go_ret
     have hf := HFIN.out
     have hst2 := hf.st
     have hsn2 := hf.seen
     rw [HE9.out] at hst2 hsn2
     exact ⟨rfl, T1, sni, by rw [List.length_cons, show q + ((psE E).length + 1) = q + 1 + (psE E).length by omega]; exact hst2, fun j => by rw [hsn2, List.mem_cons, or_assoc], hf.sub, hf.chg⟩
end
theorem tLook : ∀ h, LookAt h := fun h => by
 induction h with
 | zero => exact look0
 | succ h IH =>
  intro c w T G q id d ids ps ct dp sn l lo hi LA HA ln lc hn hc H hT hnd hin hsn hq hd hdp hne hlo hhi hG hlw hbl
  obtain ⟨E, n, rfl, rfl⟩ := hT.nod hnd hin
  exact look1 IH H n hsn hq (by omega) hdp hlo hhi hG hlw hbl
end Go.Proofs.YtliimeoblffigaaGreat

