/- The walks of drive's Write, Append, Rename and Flush. -/
import Derived.Test.YtliimeoblffigaaGreatDgEG
import Derived.Lib.MinMax
import Derived.Test.YtliimeoblffigaaGreatMapAG
set_option linter.unusedVariables false
set_option linter.unusedSimpArgs false
set_option maxRecDepth 100000
namespace Go.Proofs.YtliimeoblffigaaGreat
open Go.RowKit Go.Maps
set_option linter.unusedVariables false

theorem DrvM.addF {w : World} {sup : List Nm} {T F G : Nat → Prop} {g : Nat} {S : DSt} {sv nv qv : Value} {lv : Int} (h : DrvM w sup T g S sv nv qv lv F) (hG : ∀ b, G b → T b ∧ b ≠ g ∧ sv ≠ .map (some b) ∧ nv ≠ .map (some b)) : DrvM w sup T g S sv nv qv lv (fun b => F b ∨ G b) :=
 ⟨h.blk, h.arm, h.s.mono fun b hb => .inl hb, h.n.mono fun b hb => .inl hb, h.qu.mono fun b hb => .inl hb, h.tg, h.ts, h.tn, h.sep, fun b hb => by
  rcases hb with hb | hb
  ·exact h.f b hb
  ·exact hG b hb, h.lt⟩
/-- what is new is none of the drive's blocks -/
theorem DrvM.fresh {w w' : World} {sup : List Nm} {T F : Nat → Prop} {g : Nat} {S : DSt} {sv nv qv : Value} {lv : Int} (h : DrvM w sup T g S sv nv qv lv F) {b : Nat} (h1 : w.heap.size ≤ b) (h2 : b < w'.heap.size) : Ext T w w' b ∧ b ≠ g ∧ sv ≠ .map (some b) ∧ nv ≠ .map (some b) := by
 refine ⟨.inr ⟨h1, h2⟩, fun e => ?_, fun e => ?_, fun e => ?_⟩
 ·have := h.lt g h.tg; omega
 ·have := h.lt b (h.ts b e); omega
 ·have := h.lt b (h.tn b e); omega

set_option maxHeartbeats 4000000 in
theorem dgWrite {w : World} {sup : List Nm} {T G : Nat → Prop} {g : Nat} {S : DSt} {s : ByteArray} {a : Nat} {bv : Value} {dt : List UInt8} (h : DrvAt w sup T g S) (hd : S.dead = false) (hsup : sup.Pairwise (· ≠ ·)) (hsl : sup.length ≤ 1000000) (hs : s.size ≤ 1000) (hin : s.data.toList ∈ sup) (ha : a ≤ ((S.seen s.data.toList).getD []).length)
  (hb : RdB w G bv dt) (hsz : totF sup S.seen + dt.length ≤ 500000000) (hL1 : ((S.seen s.data.toList).getD []).length ≤ 500000000) (hq : S.queue.length ≤ 1000000) :
  Calls Tryz.prog 239 #[.pointer (some ⟨g, 0, none⟩), .string s, .int .i64 (a : Int), bv] w fun e w' => e = .returned (.int .i64 S.er) ∧ DrvAt w' sup (Ext T w w') g (S.did (.wr s.data.toList a dt)) ∧ Chg T w w' := by
 obtain ⟨sv, nv, qv, lv, F, h⟩ := h
 have k1 : w.cell? ⟨g, 1, none⟩ = some nv := h.blk.cell 1
 have k3 : w.cell? ⟨g, 3, none⟩ = some (.int .i64 1073741824) := h.blk.cell 3
 obtain ⟨x, hx, hlk⟩ := h.n.look s (by unfold maxLen; omega)
 have hl := (hlk w (Chg.refl _ _)).1
 obtain ⟨L, hL⟩ : ∃ L, L = ((S.seen s.data.toList).getD []).length := ⟨_, rfl⟩
 have hlen := fun w' ty => run_len8 hx w' ty
 rw [← hL] at hlen ha hL1
 have HL := hide hL
 obtain ⟨U, hU⟩ : ∃ U, U = totF sup S.seen := ⟨_, rfl⟩
 have hused := dgUsed (h.c0 ((Chg.refl Non w).drew)) hsup (by omega)
 rw [← hU] at hsz hused
 obtain ⟨B1, c, rfl, hc, hm⟩ := hb.shape
 unfold maxLen at hm
 have hd0 : decide ((a : Int) < 0) = false := decide_eq_false (by omega)
 have hd1 : decide ((L : Int) < (a : Int)) = false := decide_eq_false (by omega)
 have hd2 : decide (L < a) = false := decide_eq_false (by omega)
 have HU := hide hU
 have HD := hide hd
 have HQ := hide hq
 have HIN := hide hin
 have HSL := hide hsl
 have HH := hide h
 have HTL := hide h.lt
 clear hL hlk hU hd hq hin hsl h hsup
 go_enter Tryz.func239, Tryz.ntmps239
 go_upto_region 5 with fail
 have hw0 : IntKind.i64.wrap ((L : Int) - (a : Int)) = (L : Int) - (a : Int) := IntWalk.i64_in _ (by omega)
 have hw1 : IntKind.i64.wrap ((dt.length : Int) - ((L : Int) - (a : Int))) = (dt.length : Int) - ((L : Int) - (a : Int)) := IntWalk.i64_in _ (by omega)
 have hw2 : IntKind.i64.wrap ((1073741824 : Int) - (U : Int)) = (1073741824 : Int) - (U : Int) := IntWalk.i64_in _ (by omega)
 have hfl : decide ((1073741824 : Int) - (U : Int) < (dt.length : Int) - ((L : Int) - (a : Int))) = false := decide_eq_false (by omega)
 go_cut [38] from 18 (fun v38 wx => v38 = .bool false ∧ Chg Non w wx)
 case first =>
  go_region_law (first
   | (go_simp; go_at_call 244; refine hused.mono ?_; rintro e w1 ⟨rfl, hc1⟩; have k4 := hc1.cell k3 (fun h => h)))
  all_goals
   try simp only [List.getElem_toArray, List.getElem_cons_succ, List.getElem_cons_zero, Act.put, List.setIfInBounds_toArray, List.set_cons_zero, List.set_cons_succ]
   go_wp2_with fail
   go_meet
   exact ⟨rfl, ((Chg.refl Non w).drew).trans0 hc1⟩
 case rest =>
  obtain ⟨rfl, hc1⟩ := hcut
  obtain ⟨w1, rfl⟩ : ∃ w', w' = wc := ⟨_, rfl⟩
  have hcl := bytesClone (hb.c0 hc1) (by omega)
  clear hused hlen hl hx k1 k3 hw0 hw1 hw2 hfl hd0 hd1 hd2 hb
  go_wp2_with fail
  refine hcl.mono ?_
  rintro e w2 ⟨u, rfl, hu, hc2⟩
  clear hcl
  obtain ⟨U1, nu, cu, rfl⟩ : ∃ A n c, u = .slice A n c := by obtain ⟨A, c, e, _⟩ := hu.shape; exact ⟨A, _, c, e⟩
  have hc12 := hc1.trans0 hc2
  have n1 := hc1.size
  have n2 := hc2.size
  have hD2 : DrvM w2 sup (Ext T w w2) g S sv nv qv lv (fun b => F b ∨ (Value.slice U1 nu cu).ownBlock = some b) := ((HH.out.c0 hc12).up (T' := Ext T w w2) (fun b hb => .inl hb) (Ext.lt HTL.out (by omega))).addF fun b hb => by
   have h1 := hu.lt b hb
   exact HH.out.fresh (by omega) h1.2
  have hraw := dgRawWr (a := a) (dv := .slice U1 nu cu) (dt := dt) hD2 HD.out HSL.out hs HIN.out (hu.rd.mono fun b hb => .inr hb) (by omega) (by rw [← HL.out]; omega) HQ.out ⟨s, _, rfl, rfl, hs, hu.rd.mono fun b hb => .inr hb⟩
  unfold wrV at hraw
  clear hu hD2
  go_wp2_with fail
  refine hraw.mono ?_
  rintro e w3 ⟨rfl, hD3, hc3⟩
  clear hraw
  go_wp2_with fail
  go_ret
  have n3 := hc3.size
  refine ⟨rfl, hD3.up (fun b hb => hb.trans (by omega) (by omega)) (Ext.lt HTL.out (by omega)), (hc12.mono fun _ _ h => h.elim).trans hc3 fun k hk e => ?_⟩
  rcases e with e | e
  ·exact e
  ·omega

end Go.Proofs.YtliimeoblffigaaGreat

set_option maxRecDepth 100000
namespace Go.Proofs.YtliimeoblffigaaGreat
open Go.RowKit Go.Maps
set_option linter.unusedVariables false

theorem er9 {S : DSt} (h : S.kl = true) : S.er = 9 := by unfold DSt.er; rw [if_pos h]
theorem er0 {S : DSt} (h : S.kl = false) : S.er = 0 := by unfold DSt.er; rw [h]; rfl
theorem kl_some {S : DSt} (h : S.kl = true) : S.arm ≠ none := fun e => by unfold DSt.kl at h; rw [e] at h; cases h
theorem did_arm0 {S : DSt} {d : Deed} (h : S.arm = none) : (S.did d).arm = none := by unfold DSt.did; rw [h]; rfl
/-- no file is longer than this -/
def BndF (f : Fls) : Prop := ∀ k, ((f k).getD []).length ≤ 67109376
/-- a deed that may be done -/
def DeedB (sup : List Nm) : Deed → Prop
 | .wr n a d => n ∈ sup ∧ a + d.length ≤ 67109376
 | .mv _ b => b ∈ sup
 | _ => True
theorem BndF.app {sup : List Nm} {f : Fls} (h : BndF f) {x : Deed} (hx : DeedB sup x) (n : Nat) : BndF (x.app f n) := fun k => by
 have st : ∀ (f : Fls) (m : Nm) (v : Option (List UInt8)), BndF f → (v.getD []).length ≤ 67109376 → ((setF f m v k).getD []).length ≤ 67109376 := fun f m v hf hv => by
  unfold setF; split
  ·exact hv
  ·exact hf k
 cases x with
 | wr nm a d =>
  refine st _ _ _ h ?_
  rw [Option.getD_some, wrL_length, List.length_take]
  have := h nm
  have := hx.2
  omega
 | mv a b =>
  refine st _ _ _ (fun j => ?_) (h a)
  unfold setF; split
  ·simp
  ·exact h j
 | rm nm => exact st _ _ _ h (by simp)
 | tr nm s =>
  refine st _ _ _ h ?_
  rw [Option.getD_some, List.length_take]
  have := h nm
  omega
end Go.Proofs.YtliimeoblffigaaGreat

set_option maxRecDepth 100000
namespace Go.Proofs.YtliimeoblffigaaGreat
set_option linter.unusedVariables false

def page (b : List UInt8) (s : Nat) : List UInt8 := (b.drop (s * 512)).take 512
def zeros : List UInt8 := List.replicate 512 0
theorem repl_length (n : Nat) (x : UInt8) : (List.replicate n x).length = n := List.length_replicate
theorem zeros_length : zeros.length = 512 := repl_length 512 0
theorem page_length {b : List UInt8} {s : Nat} (h : (s + 1) * 512 ≤ b.length) : (page b s).length = 512 := by
 rw [page, List.length_take, List.length_drop]; omega
theorem page_same {b d : List UInt8} {s : Nat} (h : s * 512 ≤ b.length) (hd : d.length = 512) : page (wrL b (s * 512) d) s = d := by
 have e : s * 512 - b.length = 0 := by omega
 have hl : (b.take (s * 512)).length = s * 512 := by rw [List.length_take]; omega
 rw [page, wrL, e, List.replicate_zero, List.append_nil, List.append_assoc, List.drop_append_of_le_length (by omega), List.drop_of_length_le (by omega), List.nil_append, ← hd, List.take_left]
theorem take_wrL {b d : List UInt8} {a k : Nat} (h : k ≤ a) (hk : k ≤ b.length) : (wrL b a d).take k = b.take k := by
 rw [wrL, List.append_assoc, List.append_assoc]
 rw [List.take_append_of_le_length (by rw [List.length_take]; omega), List.take_take, Nat.min_eq_left h]
theorem drop_wrL {b d : List UInt8} {a k : Nat} (h : a + d.length ≤ k) (hk : k ≤ b.length) : (wrL b a d).drop k = b.drop k := by
 have hl : ((b.take a ++ List.replicate (a - b.length) 0) ++ d).length = a + d.length := by
  simp only [List.length_append, List.length_take, List.length_replicate]; omega
 rw [wrL, List.drop_append, List.drop_of_length_le (by omega), List.nil_append, hl, List.drop_drop]
 congr 1; omega
/-- another page is as it was -/
theorem page_other {b d : List UInt8} {s t : Nat} (hne : t ≠ s) (ht : (t + 1) * 512 ≤ b.length) (hd : d.length ≤ 512) : page (wrL b (s * 512) d) t = page b t := by
 unfold page
 rcases Nat.lt_or_gt_of_ne hne with h | h
 ·have e : ∀ l : List UInt8, (l.drop (t * 512)).take 512 = (l.take ((t + 1) * 512)).drop (t * 512) := fun l => by
   rw [List.drop_take]; congr 1; omega
  rw [e, e, take_wrL (by omega) ht]
 ·have h1 : s * 512 + d.length ≤ t * 512 := by omega
  have h2 : t * 512 ≤ b.length := Nat.le_trans (Nat.mul_le_mul_right 512 (Nat.le_succ t)) ht
  exact congrArg (List.take 512) (drop_wrL h1 h2)
theorem len_wrL_le (b d : List UInt8) (a : Nat) : b.length ≤ (wrL b a d).length := by rw [wrL_length]; omega

/-- the slot's bytes: page or noughts -/
def slotY (pf : List UInt8) (s : Int) : List UInt8 := if 0 ≤ s then page pf s.toNat else zeros
/-- what stands in the files is just a table's pages: nf, nm: the names of the files of pages and of the table -/
structure Holds (nf nm : Nm) (meta_ : List UInt8) (tab : List (Nat × Int)) (ct : Nat → List UInt8) (f : Fls) : Prop where
 tb : f nm = some meta_
 fit : ∀ p ∈ tab, 0 ≤ p.2 → (p.2.toNat + 1) * 512 ≤ ((f nf).getD []).length
 at_ : ∀ p ∈ tab, slotY ((f nf).getD []) p.2 = ct p.1
/-- a write of a page outside the table's, whole or in part, leaves it -/
theorem Holds.wr {nf nm : Nm} {m : List UInt8} {tab : List (Nat × Int)} {ct : Nat → List UInt8} {f : Fls} (h : Holds nf nm m tab ct f) (hne : nm ≠ nf) {s : Nat} {d : List UInt8} (hd : d.length = 512) (hs : ∀ p ∈ tab, p.2 ≠ (s : Int)) (n : Nat) :
  Holds nf nm m tab ct ((Deed.wr nf (s * 512) d).app f n) := by
 have e1 : ((Deed.wr nf (s * 512) d).app f n) nf = some (wrL ((f nf).getD []) (s * 512) (d.take (n - 1))) := setF_same _ _ _
 have e2 : ((Deed.wr nf (s * 512) d).app f n) nm = f nm := setF_ne _ hne _
 refine ⟨by rw [e2]; exact h.tb, fun p hp h0 => ?_, fun p hp => ?_⟩
 ·rw [e1]
  exact Nat.le_trans (h.fit p hp h0) (len_wrL_le _ _ _)
 ·rw [e1, ← h.at_ p hp, Option.getD_some]
  unfold slotY
  by_cases h0 : 0 ≤ p.2
  ·rw [if_pos h0, if_pos h0]
   refine page_other (fun e => hs p hp ?_) (h.fit p hp h0) (by rw [List.length_take]; omega)
   omega
  ·rw [if_neg h0, if_neg h0]
/-- a queue of pages outside the table's -/
def Outside (nf : Nm) (tab : List (Nat × Int)) (q : List Deed) : Prop := ∀ x ∈ q, ∃ (s : Nat) (d : List UInt8), x = .wr nf (s * 512) d ∧ d.length = 512 ∧ s ≤ 131072 ∧ ∀ p ∈ tab, p.2 ≠ (s : Int)
theorem Outside.crash {nf nm : Nm} {m : List UInt8} {tab : List (Nat × Int)} {ct : Nat → List UInt8} {f : Fls} {q : List Deed} (hq : Outside nf tab q) (h : Holds nf nm m tab ct f) (hne : nm ≠ nf) (k : Nat) : Holds nf nm m tab ct (crashF f q k) :=
 crash_inv k h fun x hx f n hf => by
  obtain ⟨s, d, rfl, hd, _, hs⟩ := hq x hx
  exact hf.wr hne hd hs n
/-- the names of a pool's three files -/
structure Nm3 (nf nm nt : Nm) : Prop where
 fm : nm ≠ nf
 ft : nt ≠ nf
 mt : nt ≠ nm
end Go.Proofs.YtliimeoblffigaaGreat

set_option maxRecDepth 100000
namespace Go.Proofs.YtliimeoblffigaaGreat
set_option linter.unusedVariables false

/-- a page at hand: its block, its bytes, whether they are only here -/
structure Fr where
 blk : Nat
 data : List UInt8
 dirty : Bool
abbrev Slots := List (Nat × Int)
abbrev Ats := List (Nat × Fr)
/-- what a page has -/
def cont (pf : List UInt8) (sl : Slots) (at_ : Ats) (i : Nat) : List UInt8 :=
 match aGet klI at_ i with
 | some f => f.data
 | none => match aGet klI sl i with
  | some s => slotY pf s
  | none => []
structure PInv (pf : List UInt8) (sl : Slots) (at_ : Ats) (tab : Slots) : Prop where
 rs : Rise sl
 ra : Rise at_
 sub : ∀ p ∈ at_, ∃ s, (p.1, s) ∈ sl
 lo : ∀ p ∈ sl, -1 ≤ p.2
 one : ∀ p ∈ sl, ∀ q ∈ sl, 0 ≤ p.2 → p.2 = q.2 → p.1 = q.1
 fit : ∀ p ∈ sl, 0 ≤ p.2 → (p.2.toNat + 1) * 512 ≤ pf.length
 tfit : ∀ p ∈ tab, 0 ≤ p.2 → (p.2.toNat + 1) * 512 ≤ pf.length
 len : ∀ p ∈ at_, p.2.data.length = 512
 cln : ∀ p ∈ at_, p.2.dirty = false → ∀ s, (p.1, s) ∈ sl → slotY pf s = p.2.data
 ids : ∀ p ∈ sl, p.1 < 65536
 nS : sl.length ≤ 65536
 nT : tab.length ≤ 65536
 big : pf.length ≤ 67109376
/-- the least slot that nobody needs -/
def FreeS (sl tab : Slots) (s : Nat) : Prop :=
 (∀ p ∈ sl, p.2 ≠ (s : Int)) ∧ (∀ p ∈ tab, p.2 ≠ (s : Int)) ∧ ∀ t, t < s → (∃ p ∈ sl, p.2 = (t : Int)) ∨ ∃ p ∈ tab, p.2 = (t : Int)
/-- n numbers below n, all in a list -/
theorem pigeon : ∀ (n : Nat) (l : List Int), (∀ t : Nat, t < n → (t : Int) ∈ l) → n ≤ l.length
 | 0, _, _ => Nat.zero_le _
 | n + 1, l, h => by
  have hm : (n : Int) ∈ l := h n (by omega)
  have h1 := pigeon n (l.erase (n : Int)) fun t ht => (List.mem_erase_of_ne (by omega)).2 (h t (by omega))
  rw [List.length_erase_of_mem hm] at h1
  have : 0 < l.length := List.length_pos_of_mem hm
  omega
theorem FreeS.le {sl tab : Slots} {s : Nat} (h : FreeS sl tab s) : s ≤ sl.length + tab.length := by
 have h1 := pigeon s (sl.map (·.2) ++ tab.map (·.2)) fun t ht => by
  rw [List.mem_append, List.mem_map, List.mem_map]
  exact h.2.2 t ht
 simpa using h1
section
variable {pf : List UInt8} {sl tab : Slots} {at_ : Ats}
set_option maxRecDepth 10000 in
theorem FreeS.at {s : Nat} (h : FreeS sl tab s) (I : PInv pf sl at_ tab) : s * 512 ≤ pf.length := by
 rcases Nat.eq_zero_or_pos s with e | e
 ·omega
 ·rcases h.2.2 (s - 1) (by omega) with ⟨p, hp, e2⟩ | ⟨p, hp, e2⟩
  ·have h1 := I.fit p hp (by omega)
   have : p.2.toNat = s - 1 := by omega
   rw [this] at h1
   omega
  ·have h1 := I.tfit p hp (by omega)
   have : p.2.toNat = s - 1 := by omega
   rw [this] at h1
   omega
theorem PInv.slot (I : PInv pf sl at_ tab) {i : Nat} {s : Int} (h : (i, s) ∈ sl) : aGet klI sl i = some s := mem_get keyI I.rs.once h
theorem PInv.at (I : PInv pf sl at_ tab) {i : Nat} {f : Fr} (h : (i, f) ∈ at_) : aGet klI at_ i = some f := mem_get keyI I.ra.once h
/-- a slot into which a page may be written -/
structure Good (pf : List UInt8) (sl tab : Slots) (i s : Nat) : Prop where
 le : s * 512 ≤ pf.length
 tab : ∀ p ∈ tab, p.2 ≠ (s : Int)
 sl : ∀ p ∈ sl, p.2 = (s : Int) → p.1 = i
 big : s ≤ 131072
theorem Good.of_free (I : PInv pf sl at_ tab) {i s : Nat} (h : FreeS sl tab s) : Good pf sl tab i s :=
 ⟨h.at I, h.2.1, fun p hp e => absurd e (h.1 p hp), by have := h.le; have := I.nS; have := I.nT; omega⟩
set_option maxRecDepth 10000 in
theorem Good.of_own (I : PInv pf sl at_ tab) {i s : Nat} (h : (i, (s : Int)) ∈ sl) (ht : ∀ p ∈ tab, p.2 ≠ (s : Int)) : Good pf sl tab i s := by
 have h1 := I.fit _ h (by simp)
 simp only [Int.toNat_natCast] at h1
 have := I.big
 exact ⟨by omega, ht, fun p hp e => I.one p hp _ h (by omega) e, by omega⟩
theorem slotY_wr {b d : List UInt8} {s : Nat} {t : Int} (hne : t ≠ (s : Int)) (ht : 0 ≤ t → (t.toNat + 1) * 512 ≤ b.length) (hd : d.length = 512) : slotY (wrL b (s * 512) d) t = slotY b t := by
 unfold slotY
 by_cases h : 0 ≤ t
 ·rw [if_pos h, if_pos h, page_other (by omega) (ht h) (by omega)]
 ·rw [if_neg h, if_neg h]
/-- a page at hand is written into its slot -/
theorem PInv.clean (I : PInv pf sl at_ tab) {i s : Nat} {f : Fr} (hf : (i, f) ∈ at_) (G : Good pf sl tab i s) :
  PInv (wrL pf (s * 512) f.data) (aPut klI i (s : Int) sl) (aPut klI i ⟨f.blk, f.data, false⟩ at_) tab ∧ ∀ j, cont (wrL pf (s * 512) f.data) (aPut klI i (s : Int) sl) (aPut klI i ⟨f.blk, f.data, false⟩ at_) j = cont pf sl at_ j := by
 have hl := len_wrL_le pf f.data (s * 512)
 have hd := I.len _ hf
 obtain ⟨s0, hs0⟩ := I.sub _ hf
 have hs0 : (i, s0) ∈ sl := hs0
 have hlen : (aPut klI i (s : Int) sl).length = sl.length := length_put_has keyI I.rs.once hs0 _
 have hoth : ∀ p ∈ sl, p.1 ≠ i → slotY (wrL pf (s * 512) f.data) p.2 = slotY pf p.2 := fun p hp hne => slotY_wr (fun e => hne (G.sl p hp e)) (I.fit p hp) hd
 refine ⟨⟨I.rs.put _ _, I.ra.put _ _, fun p hp => ?_, fun p hp => ?_, fun p hp q hq h0 e => ?_, fun p hp h0 => ?_, fun p hp h0 => Nat.le_trans (I.tfit p hp h0) hl, fun p hp => ?_, fun p hp hdt t ht => ?_, fun p hp => ?_, by rw [hlen]; exact I.nS, I.nT, ?_⟩, fun j => ?_⟩
 ·rcases (mem_put keyI).1 hp with rfl | ⟨h, hne⟩
  ·exact ⟨_, (mem_put keyI).2 (.inl rfl)⟩
  ·obtain ⟨t, ht⟩ := I.sub p h
   exact ⟨t, (mem_put keyI).2 (.inr ⟨ht, hne⟩)⟩
 ·rcases (mem_put keyI).1 hp with rfl | ⟨h, hne⟩
  ·show -1 ≤ (s : Int); omega
  ·exact I.lo p h
 ·rcases (mem_put keyI).1 hp with rfl | ⟨h, hne⟩
  ·rcases (mem_put keyI).1 hq with rfl | ⟨h', hne'⟩
   ·rfl
   ·exact (G.sl q h' e.symm).symm
  ·rcases (mem_put keyI).1 hq with rfl | ⟨h', hne'⟩
   ·exact G.sl p h e
   ·exact I.one p h q h' h0 e
 ·rcases (mem_put keyI).1 hp with rfl | ⟨h, hne⟩
  ·rw [wrL_length, hd, show ((i, (s : Int)).2).toNat = s from rfl]; omega
  ·exact Nat.le_trans (I.fit p h h0) hl
 ·rcases (mem_put keyI).1 hp with rfl | ⟨h, hne⟩
  ·exact hd
  ·exact I.len p h
 ·rcases (mem_put keyI).1 hp with rfl | ⟨h, hne⟩
  ·rcases (mem_put keyI).1 ht with e | ⟨h', hne'⟩
   ·injection e with _ e
    subst e
    show (if (0 : Int) ≤ (s : Int) then _ else _) = _
    rw [if_pos (by omega), Int.toNat_natCast]
    exact page_same G.le hd
   ·exact absurd rfl hne'
  ·rcases (mem_put keyI).1 ht with e | ⟨h', hne'⟩
   ·exact absurd (congrArg Prod.fst e) hne
   ·rw [hoth _ h' hne]; exact I.cln p h hdt t h'
 ·rcases (mem_put keyI).1 hp with rfl | ⟨h, hne⟩
  ·exact I.ids (i, s0) hs0
  ·exact I.ids p h
 ·rw [wrL_length, hd]; have := I.big; have := G.big; omega
 ·unfold cont
  by_cases hj : j = i
  ·subst hj
   rw [put_same keyI I.ra.once, I.at hf]
  ·rw [put_other keyI I.ra.once hj, put_other keyI I.rs.once hj]
   cases e : aGet klI at_ j with
   | some g => rfl
   | none =>
    cases e2 : aGet klI sl j with
    | none => rfl
    | some t => exact hoth (j, t) (get_mem keyI e2) hj
/-- a page that is not only at hand is put away -/
theorem PInv.drop (I : PInv pf sl at_ tab) {i : Nat} {f : Fr} (hf : (i, f) ∈ at_) (hd : f.dirty = false) : PInv pf sl (aDel klI i at_) tab ∧ ∀ j, cont pf sl (aDel klI i at_) j = cont pf sl at_ j := by
 refine ⟨⟨I.rs, I.ra.del _, fun p hp => I.sub p ((mem_del keyI).1 hp).1, I.lo, I.one, I.fit, I.tfit, fun p hp => I.len p ((mem_del keyI).1 hp).1, fun p hp => I.cln p ((mem_del keyI).1 hp).1, I.ids, I.nS, I.nT, I.big⟩, fun j => ?_⟩
 unfold cont
 by_cases hj : j = i
 ·subst hj
  obtain ⟨s, hs⟩ := I.sub _ hf
  rw [del_same keyI, I.at hf]
  show (match aGet klI sl j with | some s => slotY pf s | none => []) = f.data
  rw [I.slot hs]
  exact I.cln _ hf hd s hs
 ·rw [del_other keyI I.ra.once hj]
/-- a page is at hand with these bytes -/
theorem PInv.hold (I : PInv pf sl at_ tab) {i : Nat} {s : Int} (hs : (i, s) ∈ sl) {f : Fr} (hl : f.data.length = 512) (hc : f.dirty = false → slotY pf s = f.data) :
  PInv pf sl (aPut klI i f at_) tab ∧ ∀ j, cont pf sl (aPut klI i f at_) j = if j = i then f.data else cont pf sl at_ j := by
 refine ⟨⟨I.rs, I.ra.put _ _, fun p hp => ?_, I.lo, I.one, I.fit, I.tfit, fun p hp => ?_, fun p hp hd t ht => ?_, I.ids, I.nS, I.nT, I.big⟩, fun j => ?_⟩
 ·rcases (mem_put keyI).1 hp with rfl | ⟨h, _⟩
  ·exact ⟨s, hs⟩
  ·exact I.sub p h
 ·rcases (mem_put keyI).1 hp with rfl | ⟨h, _⟩
  ·exact hl
  ·exact I.len p h
 ·rcases (mem_put keyI).1 hp with rfl | ⟨h, _⟩
  ·have e : t = s := by
    have h1 := I.slot ht
    rw [I.slot hs] at h1
    exact (Option.some.inj h1).symm
   rw [e]; exact hc hd
  ·exact I.cln p h hd t ht
 ·unfold cont
  by_cases hj : j = i
  ·subst hj; rw [put_same keyI I.ra.once, if_pos rfl]
  ·rw [put_other keyI I.ra.once hj, if_neg hj]
/-- a page more -/
theorem PInv.alloc (I : PInv pf sl at_ tab) {i : Nat} (hi : ∀ p ∈ sl, p.1 ≠ i) (hn : sl.length < 65536) (hb : i < 65536) :
  PInv pf (aPut klI i (-1) sl) at_ tab ∧ ∀ j, cont pf (aPut klI i (-1) sl) at_ j = if j = i then zeros else cont pf sl at_ j := by
 have hna : aGet klI at_ i = none := get_none keyI fun p hp e => by
  obtain ⟨s, hs⟩ := I.sub p hp
  exact hi _ hs e
 refine ⟨⟨I.rs.put _ _, I.ra, fun p hp => ?_, fun p hp => ?_, fun p hp q hq h0 e => ?_, fun p hp h0 => ?_, I.tfit, I.len, fun p hp hd t ht => ?_, fun p hp => ?_, by rw [length_put_new keyI hi]; omega, I.nT, I.big⟩, fun j => ?_⟩
 ·obtain ⟨s, hs⟩ := I.sub p hp
  exact ⟨s, (mem_put keyI).2 (.inr ⟨hs, hi _ hs⟩)⟩
 ·rcases (mem_put keyI).1 hp with rfl | ⟨h, _⟩
  ·exact Int.le_refl _
  ·exact I.lo p h
 ·rcases (mem_put keyI).1 hp with rfl | ⟨h, _⟩
  ·exact absurd h0 (Int.not_le.2 (by decide : (-1 : Int) < 0))
  ·rcases (mem_put keyI).1 hq with rfl | ⟨h', _⟩
   ·rw [e] at h0; exact absurd h0 (Int.not_le.2 (by decide : (-1 : Int) < 0))
   ·exact I.one p h q h' h0 e
 ·rcases (mem_put keyI).1 hp with rfl | ⟨h, _⟩
  ·exact absurd h0 (Int.not_le.2 (by decide : (-1 : Int) < 0))
  ·exact I.fit p h h0
 ·rcases (mem_put keyI).1 ht with e | ⟨h, _⟩
  ·injection e with e1 e2
   obtain ⟨s, hs⟩ := I.sub p hp
   exact absurd e1 (hi _ hs)
  ·exact I.cln p hp hd t h
 ·rcases (mem_put keyI).1 hp with rfl | ⟨h, _⟩
  ·exact hb
  ·exact I.ids p h
 ·unfold cont
  by_cases hj : j = i
  ·subst hj
   rw [hna, put_same keyI I.rs.once, if_pos rfl]
   rfl
  ·rw [put_other keyI I.rs.once hj, if_neg hj]
/-- a page is gone -/
theorem PInv.free (I : PInv pf sl at_ tab) (i : Nat) : PInv pf (aDel klI i sl) (aDel klI i at_) tab ∧ ∀ j, cont pf (aDel klI i sl) (aDel klI i at_) j = if j = i then [] else cont pf sl at_ j := by
 refine ⟨⟨I.rs.del _, I.ra.del _, fun p hp => ?_, fun p hp => I.lo p ((mem_del keyI).1 hp).1, fun p hp q hq => I.one p ((mem_del keyI).1 hp).1 q ((mem_del keyI).1 hq).1, fun p hp => I.fit p ((mem_del keyI).1 hp).1, I.tfit, fun p hp => I.len p ((mem_del keyI).1 hp).1,
  fun p hp hd t ht => I.cln p ((mem_del keyI).1 hp).1 hd t ((mem_del keyI).1 ht).1, fun p hp => I.ids p ((mem_del keyI).1 hp).1, Nat.le_trans (length_del_le _ _) I.nS, I.nT, I.big⟩, fun j => ?_⟩
 ·obtain ⟨h1, h2⟩ := (mem_del keyI).1 hp
  obtain ⟨s, hs⟩ := I.sub p h1
  exact ⟨s, (mem_del keyI).2 ⟨hs, h2⟩⟩
 ·unfold cont
  by_cases hj : j = i
  ·subst hj; rw [del_same keyI, del_same keyI, if_pos rfl]
  ·rw [del_other keyI I.ra.once hj, del_other keyI I.rs.once hj, if_neg hj]
end
theorem PInv.new : PInv [] [] [] [] := ⟨List.Pairwise.nil, List.Pairwise.nil, fun p hp => by simp at hp, fun p hp => by simp at hp, fun p hp => by simp at hp, fun p hp => by simp at hp, fun p hp => by simp at hp, fun p hp => by simp at hp, fun p hp => by simp at hp, fun p hp => by simp at hp, by simp, by simp, by simp⟩
end Go.Proofs.YtliimeoblffigaaGreat

set_option maxRecDepth 100000
namespace Go.Proofs.YtliimeoblffigaaGreat
open Go.RowKit Go.Maps
set_option linter.unusedVariables false

/-- the names of a pool's files -/
def nfB (pre : ByteArray) : ByteArray := pre ++ ⟨#[112, 97, 103, 101, 115]⟩
def nmB (pre : ByteArray) : ByteArray := pre ++ ⟨#[109, 101, 116, 97]⟩
def ntB (pre : ByteArray) : ByteArray := nmB pre ++ ⟨#[126]⟩
def nf (pre : ByteArray) : Nm := (nfB pre).data.toList
def nm (pre : ByteArray) : Nm := (nmB pre).data.toList
def nt (pre : ByteArray) : Nm := (ntB pre).data.toList
def supP (pre : ByteArray) : List Nm := [nf pre, nm pre, nt pre]
theorem nf_eq (pre : ByteArray) : nf pre = pre.data.toList ++ [112, 97, 103, 101, 115] := by simp [nf, nfB, ByteArray.data_append]
theorem nm_eq (pre : ByteArray) : nm pre = pre.data.toList ++ [109, 101, 116, 97] := by simp [nm, nmB, ByteArray.data_append]
theorem nt_eq (pre : ByteArray) : nt pre = pre.data.toList ++ [109, 101, 116, 97, 126] := by simp [nt, ntB, nmB, ByteArray.data_append]
theorem nm3 (pre : ByteArray) : Nm3 (nf pre) (nm pre) (nt pre) :=
 ⟨fun e => by rw [nm_eq, nf_eq] at e; have := List.append_cancel_left e; simp at this, fun e => by rw [nt_eq, nf_eq] at e; have := List.append_cancel_left e; simp at this, fun e => by rw [nt_eq, nm_eq] at e; have := List.append_cancel_left e; simp at this⟩
theorem supP_once (pre : ByteArray) : (supP pre).Pairwise (· ≠ ·) := by
 have h := nm3 pre
 simp only [supP, List.pairwise_cons, List.mem_cons, List.not_mem_nil, or_false]
 refine ⟨fun a ha => ?_, fun a ha => ?_, fun a ha => ha.elim, List.Pairwise.nil⟩
 ·rcases ha with rfl | rfl
  ·exact h.fm.symm
  ·exact h.ft.symm
 ·rw [ha]; exact h.mt.symm
/-- how much a pool's files are -/
theorem totF_P (pre : ByteArray) (f : Fls) : totF (supP pre) f = ((f (nf pre)).getD []).length + (((f (nm pre)).getD []).length + ((f (nt pre)).getD []).length) := by
 simp [totF, supP]

theorem keyN : Keyed Tryz.prog 3 := Go.Maps.int_keyed Tryz.underlying3
theorem wf64 {a : Int} (h1 : -9223372036854775808 ≤ a) (h2 : a ≤ 9223372036854775807) : (Lit.int .i64 a).wf = true := by
 have e1 : IntKind.i64.min = -9223372036854775808 := by decide
 have e2 : IntKind.i64.max = 9223372036854775807 := by decide
 simp [Lit.wf, e1, e2]
 omega
theorem keyOf_i {i : Nat} (h : i ≤ 1000000000) : keyOf Tryz.prog 3 (.int .i64 (i : Int)) = some (klI i) := Go.Maps.keyOf_int_mk Tryz.underlying3 (wf64 (by omega) (by omega))
theorem keyOf_z {i : Int} (h : -1 ≤ i) (h' : i ≤ 1000000000) : keyOf Tryz.prog 3 (.int .i64 i) = some (klZ i) := Go.Maps.keyOf_int_mk Tryz.underlying3 (wf64 (by omega) (by omega))
/-- an int as it stands in a map -/
abbrev eZ : Int → DataW Value := fun s => .lit (.int .i64 s)
/-- a page at hand as it stands in a map -/
abbrev eF : Fr → DataW Value := fun f => .held (.pointer (some ⟨f.blk, 0, none⟩))
noncomputable abbrev RI : Value → Option (DataW Value × List MemPlace) := plainElem Tryz.prog 3
theorem zeroI (w : World) : (zeroValue 3).run Tryz.prog w = .ok (.int .i64 0) w := by kernel_rfl
theorem zeroP_ (w : World) : (zeroValue 279).run Tryz.prog w = .ok (.pointer none) w := by kernel_rfl
theorem RI_z : RI (.int .i64 0) = some (eZ 0, []) := plainElem_int Tryz.underlying3 (by decide)
section
variable {w : World} {B n : Nat}
/-- 'm[k]', 'm[k]' with ok, at whole numbers -/
theorem lookZ {κ : Type} {kl : κ → Lit} {l : List (κ × Int)} (h : w.ownsMap Tryz.prog 3 RI B n (dat kl eZ l)) {k : κ} {kv : Value} (hk : keyOf Tryz.prog 3 kv = some (kl k)) :
  (Instr.lookup 164 (.map (some B)) kv false).run Tryz.prog w = .ok (.int .i64 ((aGet kl l k).getD 0)) w ∧ (Instr.lookup 164 (.map (some B)) kv true).run Tryz.prog w = .ok (.tuple #[.int .i64 ((aGet kl l k).getD 0), .bool (aGet kl l k).isSome]) w := by
 have e : (dat kl eZ l).atKey (kl k) (eZ 0) = eZ ((aGet kl l k).getD 0) := by rw [dat_at]; cases aGet kl l k <;> rfl
 constructor
 ·obtain ⟨v, ps, hr, hv⟩ := World.ownsMap.lookup h keyN Tryz.underlying164 (zeroI w) (zd := eZ 0) RI_z hk
  obtain ⟨a, rfl, hz, _⟩ := plainElem_int_inv Tryz.underlying3 hv
  rw [e] at hz
  injection hz with hz _
  injection hz with hz
  injection hz with _ hz
  rw [hr, hz]
 ·obtain ⟨v, ps, hr, hv⟩ := World.ownsMap.look_ok h keyN Tryz.underlying164 (zeroI w) (zd := eZ 0) RI_z hk
  obtain ⟨a, rfl, hz, _⟩ := plainElem_int_inv Tryz.underlying3 hv
  rw [e] at hz
  injection hz with hz _
  injection hz with hz
  injection hz with _ hz
  rw [dat_has] at hr
  rw [hr, hz]
theorem lookF {l : Ats} (h : w.ownsMap Tryz.prog 3 heldR B n (dat klI eF l)) {k : Nat} (hk : k ≤ 1000000000) :
  (Instr.lookup 165 (.map (some B)) (.int .i64 (k : Int)) false).run Tryz.prog w = .ok (.pointer ((aGet klI l k).map fun f => ⟨f.blk, 0, none⟩)) w := by
 have e : (dat klI eF l).atKey (klI k) (.held (.pointer none)) = .held (.pointer ((aGet klI l k).map fun f => ⟨f.blk, 0, none⟩)) := by rw [dat_at]; cases aGet klI l k <;> rfl
 obtain ⟨v, ps, hr, hv⟩ := World.ownsMap.lookup h keyN Tryz.underlying165 (zeroP_ w) (zd := .held (.pointer none)) rfl (keyOf_i hk)
 rw [e] at hv
 simp only [heldR, Option.some.injEq, Prod.mk.injEq, DataW.held.injEq] at hv
 rw [hr, hv.1]
/-- behind a store, behind a deletion -/
theorem putZ {κ : Type} {kl : κ → Lit} {R : Value → Option (DataW Value × List MemPlace)} {α : Type} {e : α → DataW Value} {l : List (κ × α)} {k : κ} {v : α} (h : w.ownsMap Tryz.prog 3 R B n ((dat kl e l).put (kl k) (e v))) : w.ownsMap Tryz.prog 3 R B (aPut kl k v l).length (dat kl e (aPut kl k v l)) := by
 rw [dat_put] at h
 have := tight h
 rw [List.length_map] at this
 exact this
theorem delZ {κ : Type} {kl : κ → Lit} {R : Value → Option (DataW Value × List MemPlace)} {α : Type} {e : α → DataW Value} {l : List (κ × α)} {k : κ} (h : w.ownsMap Tryz.prog 3 R B n ((dat kl e l).del (kl k))) : w.ownsMap Tryz.prog 3 R B (aDel kl k l).length (dat kl e (aDel kl k l)) := by
 rw [dat_del] at h
 have := tight h
 rw [List.length_map] at this
 exact this
end

/-- the pool at block g: its drive at gd (all that the drive looks at lies in TD); the pool's own blocks lie in TP, the pages' bytes in G -/
structure PoolM (w : World) (TD TP G : Nat → Prop) (gd g : Nat) (pre : ByteArray) (hand : Nat) (S : DSt) (sl : Slots) (sf : List (Int × Int)) (at_ : Ats) (bs bf ba : Nat) (cl h1 h2 h3 : Int) : Prop where
 drv : DrvAt w (supP pre) TD gd S
 blk : Blk w g 171 #[.pointer (some ⟨gd, 0, none⟩), .string pre, .int .i64 (hand : Int), .map (some bs), .map (some bf), .map (some ba), .int .i64 cl, .int .i64 h1, .int .i64 h2, .int .i64 h3]
 ms : w.ownsMap Tryz.prog 3 RI bs sl.length (dat klI eZ sl)
 mf : w.ownsMap Tryz.prog 3 RI bf sf.length (dat klZ eZ sf)
 ma : w.ownsMap Tryz.prog 3 heldR ba at_.length (dat klI eF at_)
 fr : ∀ p ∈ at_, ∃ (dv : Value) (u : Int), Blk w p.2.blk 281 #[dv, .bool p.2.dirty, .int .i64 u] ∧ RdB w G dv p.2.data
 tg : TP g ∧ TP bs ∧ TP bf ∧ TP ba
 tf : ∀ p ∈ at_, TP p.2.blk ∧ p.2.blk ≠ g
 apart : ∀ p ∈ at_, ∀ q ∈ at_, p.2.blk = q.2.blk → p = q
 dist : bs ≠ bf ∧ bs ≠ ba ∧ bf ≠ ba
 gG : ∀ b, G b → TP b ∧ b ≠ g ∧ b ≠ bs ∧ b ≠ bf ∧ b ≠ ba ∧ ∀ p ∈ at_, b ≠ p.2.blk
 lt : ∀ b, TP b → b < w.heap.size
 off : ∀ b, TP b → ¬ TD b
 pre : pre.size ≤ 500
section
variable {w w' : World} {TD TP G T Sx : Nat → Prop} {gd g hand bs bf ba : Nat} {pre : ByteArray} {S : DSt} {sl : Slots} {sf : List (Int × Int)} {at_ : Ats} {cl h1 h2 h3 : Int}
theorem PoolM.chg (h : PoolM w TD TP G gd g pre hand S sl sf at_ bs bf ba cl h1 h2 h3) (hc : Chg Sx w w') (hD : ∀ b, TD b → ¬ Sx b) (hP : ∀ b, TP b → ¬ Sx b) : PoolM w' TD TP G gd g pre hand S sl sf at_ bs bf ba cl h1 h2 h3 :=
 ⟨h.drv.chg hc hD, h.blk.chg hc (hP _ h.tg.1), ownsMap_chg h.ms hc (hP _ h.tg.2.1), ownsMap_chg h.mf hc (hP _ h.tg.2.2.1), ownsMap_chg h.ma hc (hP _ h.tg.2.2.2), fun p hp => by
  obtain ⟨dv, u, h1, h2⟩ := h.fr p hp
  exact ⟨dv, u, h1.chg hc (hP _ (h.tf p hp).1), h2.chg hc fun b hb => hP b (h.gG b hb).1⟩, h.tg, h.tf, h.apart, h.dist, h.gG, fun b hb => Nat.lt_of_lt_of_le (h.lt b hb) hc.size, h.off, h.pre⟩
theorem PoolM.c0 (h : PoolM w TD TP G gd g pre hand S sl sf at_ bs bf ba cl h1 h2 h3) (hc : Chg Non w w') : PoolM w' TD TP G gd g pre hand S sl sf at_ bs bf ba cl h1 h2 h3 := h.chg hc (fun _ _ h => h) fun _ _ h => h
/-- the drive alone has turned -/
theorem PoolM.drive (h : PoolM w TD TP G gd g pre hand S sl sf at_ bs bf ba cl h1 h2 h3) {S' : DSt} (hd : DrvAt w' (supP pre) (Ext TD w w') gd S') (hc : Chg TD w w') : PoolM w' (Ext TD w w') TP G gd g pre hand S' sl sf at_ bs bf ba cl h1 h2 h3 := by
 have hP : ∀ b, TP b → ¬ TD b := h.off
 exact ⟨hd, h.blk.chg hc (hP _ h.tg.1), ownsMap_chg h.ms hc (hP _ h.tg.2.1), ownsMap_chg h.mf hc (hP _ h.tg.2.2.1), ownsMap_chg h.ma hc (hP _ h.tg.2.2.2), fun p hp => by
  obtain ⟨dv, u, h1, h2⟩ := h.fr p hp
  exact ⟨dv, u, h1.chg hc (hP _ (h.tf p hp).1), h2.chg hc fun b hb => hP b (h.gG b hb).1⟩, h.tg, h.tf, h.apart, h.dist, h.gG, fun b hb => Nat.lt_of_lt_of_le (h.lt b hb) hc.size, fun b hb e => by
  rcases e with e | e
  ·exact h.off b hb e
  ·have := h.lt b hb; omega, h.pre⟩
end
end Go.Proofs.YtliimeoblffigaaGreat

