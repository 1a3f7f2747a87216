/- Pages of 512 bytes in a file, and what a pool of pages has in it. Plain theorems. -/
import Derived.Test.YtfgecgmgbngeaaaGreatMapM
set_option linter.unusedSimpArgs false
set_option maxRecDepth 100000
namespace Go.Proofs.YtfgecgmgbngeaaaGreat
set_option linter.unusedVariables false

def page (b : List UInt8) (s : Nat) : List UInt8 := (b.drop (s * 512)).take 512
def zeros : List UInt8 := List.replicate 512 0
theorem repl_length (n : Nat) (x : UInt8) : (List.replicate n x).length = n := List.length_replicate
theorem zeros_length : zeros.length = 512 := repl_length 512 0
theorem page_length {b : List UInt8} {s : Nat} (h : (s + 1) * 512 ≤ b.length) : (page b s).length = 512 := by
  rw [page, List.length_take, List.length_drop]; omega
theorem page_same {b d : List UInt8} {s : Nat} (h : s * 512 ≤ b.length) (hd : d.length = 512) : page (wrL b (s * 512) d) s = d := by
  have e : s * 512 - b.length = 0 := by omega
  have hl : (b.take (s * 512)).length = s * 512 := by rw [List.length_take]; omega
  rw [page, wrL, e, List.replicate_zero, List.append_nil, List.append_assoc, List.drop_append_of_le_length (by omega), List.drop_of_length_le (by omega), List.nil_append, ← hd, List.take_left]
theorem take_wrL {b d : List UInt8} {a k : Nat} (h : k ≤ a) (hk : k ≤ b.length) : (wrL b a d).take k = b.take k := by
  rw [wrL, List.append_assoc, List.append_assoc]
  rw [List.take_append_of_le_length (by rw [List.length_take]; omega), List.take_take, Nat.min_eq_left h]
theorem drop_wrL {b d : List UInt8} {a k : Nat} (h : a + d.length ≤ k) (hk : k ≤ b.length) : (wrL b a d).drop k = b.drop k := by
  have hl : ((b.take a ++ List.replicate (a - b.length) 0) ++ d).length = a + d.length := by
    simp only [List.length_append, List.length_take, List.length_replicate]; omega
  rw [wrL, List.drop_append, List.drop_of_length_le (by omega), List.nil_append, hl, List.drop_drop]
  congr 1; omega
/-- another page is as it was -/
theorem page_other {b d : List UInt8} {s t : Nat} (hne : t ≠ s) (ht : (t + 1) * 512 ≤ b.length) (hd : d.length ≤ 512) : page (wrL b (s * 512) d) t = page b t := by
  unfold page
  rcases Nat.lt_or_gt_of_ne hne with h | h
  · have e : ∀ l : List UInt8, (l.drop (t * 512)).take 512 = (l.take ((t + 1) * 512)).drop (t * 512) := fun l => by
      rw [List.drop_take]; congr 1; omega
    rw [e, e, take_wrL (by omega) ht]
  · have h1 : s * 512 + d.length ≤ t * 512 := by omega
    have h2 : t * 512 ≤ b.length := Nat.le_trans (Nat.mul_le_mul_right 512 (Nat.le_succ t)) ht
    exact congrArg (List.take 512) (drop_wrL h1 h2)
theorem len_wrL_le (b d : List UInt8) (a : Nat) : b.length ≤ (wrL b a d).length := by rw [wrL_length]; omega

/-- the slot's bytes: page or noughts -/
def slotY (pf : List UInt8) (s : Int) : List UInt8 := if 0 ≤ s then page pf s.toNat else zeros
/-- what stands in the files is just a table's pages: nf, nm: the names of the files of pages and of the table -/
structure Holds (nf nm : Nm) (meta_ : List UInt8) (tab : List (Nat × Int)) (ct : Nat → List UInt8) (f : Fls) : Prop where
  tb : f nm = some meta_
  fit : ∀ p ∈ tab, 0 ≤ p.2 → (p.2.toNat + 1) * 512 ≤ ((f nf).getD []).length
  at_ : ∀ p ∈ tab, slotY ((f nf).getD []) p.2 = ct p.1
/-- a write of a page outside the table's, whole or in part, leaves it -/
theorem Holds.wr {nf nm : Nm} {m : List UInt8} {tab : List (Nat × Int)} {ct : Nat → List UInt8} {f : Fls} (h : Holds nf nm m tab ct f) (hne : nm ≠ nf) {s : Nat} {d : List UInt8} (hd : d.length = 512) (hs : ∀ p ∈ tab, p.2 ≠ (s : Int)) (n : Nat) :
    Holds nf nm m tab ct ((Deed.wr nf (s * 512) d).app f n) := by
  have e1 : ((Deed.wr nf (s * 512) d).app f n) nf = some (wrL ((f nf).getD []) (s * 512) (d.take (n - 1))) := setF_same _ _ _
  have e2 : ((Deed.wr nf (s * 512) d).app f n) nm = f nm := setF_ne _ hne _
  refine ⟨by rw [e2]; exact h.tb, fun p hp h0 => ?_, fun p hp => ?_⟩
  · rw [e1]
    exact Nat.le_trans (h.fit p hp h0) (len_wrL_le _ _ _)
  · rw [e1, ← h.at_ p hp, Option.getD_some]
    unfold slotY
    by_cases h0 : 0 ≤ p.2
    · rw [if_pos h0, if_pos h0]
      refine page_other (fun e => hs p hp ?_) (h.fit p hp h0) (by rw [List.length_take]; omega)
      omega
    · rw [if_neg h0, if_neg h0]
/-- a write into a third file leaves it; so does a removal of a third file -/
theorem Holds.other {nf nm : Nm} {m : List UInt8} {tab : List (Nat × Int)} {ct : Nat → List UInt8} {f f' : Fls} (h : Holds nf nm m tab ct f) (h1 : f' nf = f nf) (h2 : f' nm = f nm) : Holds nf nm m tab ct f' :=
  ⟨by rw [h2]; exact h.tb, by rw [h1]; exact h.fit, by rw [h1]; exact h.at_⟩
/-- a queue of pages outside the table's -/
def Outside (nf : Nm) (tab : List (Nat × Int)) (q : List Deed) : Prop := ∀ x ∈ q, ∃ (s : Nat) (d : List UInt8), x = .wr nf (s * 512) d ∧ d.length = 512 ∧ s ≤ 131072 ∧ ∀ p ∈ tab, p.2 ≠ (s : Int)
theorem Outside.crash {nf nm : Nm} {m : List UInt8} {tab : List (Nat × Int)} {ct : Nat → List UInt8} {f : Fls} {q : List Deed} (hq : Outside nf tab q) (h : Holds nf nm m tab ct f) (hne : nm ≠ nf) (k : Nat) : Holds nf nm m tab ct (crashF f q k) :=
  crash_inv k h fun x hx f n hf => by
    obtain ⟨s, d, rfl, hd, _, hs⟩ := hq x hx
    exact hf.wr hne hd hs n
theorem Outside.done {nf nm : Nm} {m : List UInt8} {tab : List (Nat × Int)} {ct : Nat → List UInt8} {f : Fls} {q : List Deed} (hq : Outside nf tab q) (h : Holds nf nm m tab ct f) (hne : nm ≠ nf) : Holds nf nm m tab ct (doneF f q) := by
  induction q generalizing f with
  | nil => exact h
  | cons x r ih =>
    obtain ⟨s, d, e, hd, _, hs⟩ := hq x (by simp)
    refine ih (fun y hy => hq y (by simp [hy])) ?_
    subst e
    exact h.wr hne hd hs _
/-- the names of a pool's three files -/
structure Nm3 (nf nm nt : Nm) : Prop where
  fm : nm ≠ nf
  ft : nt ≠ nf
  mt : nt ≠ nm
/-- pages outside the table's, then the new table under its third name, then that becomes the table: a crash leaves the old table or the new one -/
theorem crash_save {nf nm nt : Nm} {m m' : List UInt8} {tab tab' : List (Nat × Int)} {ct ct' : Nat → List UInt8} {f : Fls} {q : List Deed} {a : Nat} (N : Nm3 nf nm nt) (hq : Outside nf tab q) (h : Holds nf nm m tab ct f) (hnew : Holds nf nm m' tab' ct' (doneF f (q ++ [.wr nt a m', .mv nt nm]))) (k : Nat) :
    Holds nf nm m tab ct (crashF f (q ++ [.wr nt a m', .mv nt nm]) k) ∨ Holds nf nm m' tab' ct' (crashF f (q ++ [.wr nt a m', .mv nt nm]) k) := by
  rcases crash_parts q [.wr nt a m', .mv nt nm] f k with ⟨k', e⟩ | ⟨k', e⟩
  · rw [e]; exact .inl (hq.crash h N.fm k')
  · rw [e]
    have h0 := hq.done h N.fm
    have hw : ∀ n, Holds nf nm m tab ct ((Deed.wr nt a m').app (doneF f q) n) := fun n => h0.other (setF_ne _ N.ft.symm _) (setF_ne _ N.mt.symm _)
    have e2 : doneF f (q ++ [.wr nt a m', .mv nt nm]) = Deed.all ((Deed.wr nt a m').all (doneF f q)) (.mv nt nm) := by simp [doneF]
    rw [e2] at hnew
    rcases crash_parts [.wr nt a m'] [.mv nt nm] (doneF f q) k' with ⟨k2, e3⟩ | ⟨k2, e3⟩
    · rw [show ([Deed.wr nt a m', .mv nt nm] : List Deed) = [.wr nt a m'] ++ [.mv nt nm] from rfl, e3]
      left
      exact crash_inv (P := Holds nf nm m tab ct) k2 h0 fun x hx f' n hf => by
        obtain rfl := List.mem_singleton.1 hx
        exact hf.other (setF_ne _ N.ft.symm _) (setF_ne _ N.mt.symm _)
    · rw [show ([Deed.wr nt a m', .mv nt nm] : List Deed) = [.wr nt a m'] ++ [.mv nt nm] from rfl, e3]
      rcases crash_one (doneF (doneF f q) [.wr nt a m']) (.mv nt nm) rfl k2 with e4 | e4
      · rw [e4]
        left
        exact hw _
      · rw [e4]
        right
        exact hnew
end Go.Proofs.YtfgecgmgbngeaaaGreat

set_option maxRecDepth 100000
namespace Go.Proofs.YtfgecgmgbngeaaaGreat
set_option linter.unusedVariables false

/-- a page at hand: its block, its bytes, whether they are only here -/
structure Fr where
  blk : Nat
  data : List UInt8
  dirty : Bool
abbrev Slots := List (Nat × Int)
abbrev Ats := List (Nat × Fr)
/-- what a page has -/
def cont (pf : List UInt8) (sl : Slots) (at_ : Ats) (i : Nat) : List UInt8 :=
  match aGet klI at_ i with
  | some f => f.data
  | none => match aGet klI sl i with
    | some s => slotY pf s
    | none => []
structure PInv (pf : List UInt8) (sl : Slots) (at_ : Ats) (tab : Slots) : Prop where
  rs : Rise sl
  ra : Rise at_
  sub : ∀ p ∈ at_, ∃ s, (p.1, s) ∈ sl
  lo : ∀ p ∈ sl, -1 ≤ p.2
  one : ∀ p ∈ sl, ∀ q ∈ sl, 0 ≤ p.2 → p.2 = q.2 → p.1 = q.1
  fit : ∀ p ∈ sl, 0 ≤ p.2 → (p.2.toNat + 1) * 512 ≤ pf.length
  tfit : ∀ p ∈ tab, 0 ≤ p.2 → (p.2.toNat + 1) * 512 ≤ pf.length
  len : ∀ p ∈ at_, p.2.data.length = 512
  cln : ∀ p ∈ at_, p.2.dirty = false → ∀ s, (p.1, s) ∈ sl → slotY pf s = p.2.data
  ids : ∀ p ∈ sl, p.1 < 65536
  nS : sl.length ≤ 65536
  nT : tab.length ≤ 65536
  big : pf.length ≤ 67109376
/-- the least slot that nobody needs -/
def FreeS (sl tab : Slots) (s : Nat) : Prop :=
  (∀ p ∈ sl, p.2 ≠ (s : Int)) ∧ (∀ p ∈ tab, p.2 ≠ (s : Int)) ∧ ∀ t, t < s → (∃ p ∈ sl, p.2 = (t : Int)) ∨ ∃ p ∈ tab, p.2 = (t : Int)
/-- n numbers below n, all in a list -/
theorem pigeon : ∀ (n : Nat) (l : List Int), (∀ t : Nat, t < n → (t : Int) ∈ l) → n ≤ l.length
  | 0, _, _ => Nat.zero_le _
  | n + 1, l, h => by
    have hm : (n : Int) ∈ l := h n (by omega)
    have h1 := pigeon n (l.erase (n : Int)) fun t ht => (List.mem_erase_of_ne (by omega)).2 (h t (by omega))
    rw [List.length_erase_of_mem hm] at h1
    have : 0 < l.length := List.length_pos_of_mem hm
    omega
theorem FreeS.le {sl tab : Slots} {s : Nat} (h : FreeS sl tab s) : s ≤ sl.length + tab.length := by
  have h1 := pigeon s (sl.map (·.2) ++ tab.map (·.2)) fun t ht => by
    rw [List.mem_append, List.mem_map, List.mem_map]
    exact h.2.2 t ht
  simpa using h1
section
variable {pf : List UInt8} {sl tab : Slots} {at_ : Ats}
set_option maxRecDepth 10000 in
theorem FreeS.at {s : Nat} (h : FreeS sl tab s) (I : PInv pf sl at_ tab) : s * 512 ≤ pf.length := by
  rcases Nat.eq_zero_or_pos s with e | e
  · omega
  · rcases h.2.2 (s - 1) (by omega) with ⟨p, hp, e2⟩ | ⟨p, hp, e2⟩
    · have h1 := I.fit p hp (by omega)
      have : p.2.toNat = s - 1 := by omega
      rw [this] at h1
      omega
    · have h1 := I.tfit p hp (by omega)
      have : p.2.toNat = s - 1 := by omega
      rw [this] at h1
      omega
theorem PInv.slot (I : PInv pf sl at_ tab) {i : Nat} {s : Int} (h : (i, s) ∈ sl) : aGet klI sl i = some s := mem_get keyI I.rs.once h
theorem PInv.at (I : PInv pf sl at_ tab) {i : Nat} {f : Fr} (h : (i, f) ∈ at_) : aGet klI at_ i = some f := mem_get keyI I.ra.once h
/-- a slot into which a page may be written -/
structure Good (pf : List UInt8) (sl tab : Slots) (i s : Nat) : Prop where
  le : s * 512 ≤ pf.length
  tab : ∀ p ∈ tab, p.2 ≠ (s : Int)
  sl : ∀ p ∈ sl, p.2 = (s : Int) → p.1 = i
  big : s ≤ 131072
theorem Good.of_free (I : PInv pf sl at_ tab) {i s : Nat} (h : FreeS sl tab s) : Good pf sl tab i s :=
  ⟨h.at I, h.2.1, fun p hp e => absurd e (h.1 p hp), by have := h.le; have := I.nS; have := I.nT; omega⟩
set_option maxRecDepth 10000 in
theorem Good.of_own (I : PInv pf sl at_ tab) {i s : Nat} (h : (i, (s : Int)) ∈ sl) (ht : ∀ p ∈ tab, p.2 ≠ (s : Int)) : Good pf sl tab i s := by
  have h1 := I.fit _ h (by simp)
  simp only [Int.toNat_natCast] at h1
  have := I.big
  exact ⟨by omega, ht, fun p hp e => I.one p hp _ h (by omega) e, by omega⟩
theorem slotY_wr {b d : List UInt8} {s : Nat} {t : Int} (hne : t ≠ (s : Int)) (ht : 0 ≤ t → (t.toNat + 1) * 512 ≤ b.length) (hd : d.length = 512) : slotY (wrL b (s * 512) d) t = slotY b t := by
  unfold slotY
  by_cases h : 0 ≤ t
  · rw [if_pos h, if_pos h, page_other (by omega) (ht h) (by omega)]
  · rw [if_neg h, if_neg h]
/-- a page at hand is written into its slot -/
theorem PInv.clean (I : PInv pf sl at_ tab) {i s : Nat} {f : Fr} (hf : (i, f) ∈ at_) (G : Good pf sl tab i s) :
    PInv (wrL pf (s * 512) f.data) (aPut klI i (s : Int) sl) (aPut klI i ⟨f.blk, f.data, false⟩ at_) tab ∧ ∀ j, cont (wrL pf (s * 512) f.data) (aPut klI i (s : Int) sl) (aPut klI i ⟨f.blk, f.data, false⟩ at_) j = cont pf sl at_ j := by
  have hl := len_wrL_le pf f.data (s * 512)
  have hd := I.len _ hf
  obtain ⟨s0, hs0⟩ := I.sub _ hf
  have hs0 : (i, s0) ∈ sl := hs0
  have hlen : (aPut klI i (s : Int) sl).length = sl.length := length_put_has keyI I.rs.once hs0 _
  have hoth : ∀ p ∈ sl, p.1 ≠ i → slotY (wrL pf (s * 512) f.data) p.2 = slotY pf p.2 := fun p hp hne => slotY_wr (fun e => hne (G.sl p hp e)) (I.fit p hp) hd
  refine ⟨⟨I.rs.put _ _, I.ra.put _ _, fun p hp => ?_, fun p hp => ?_, fun p hp q hq h0 e => ?_, fun p hp h0 => ?_, fun p hp h0 => Nat.le_trans (I.tfit p hp h0) hl, fun p hp => ?_, fun p hp hdt t ht => ?_, fun p hp => ?_, by rw [hlen]; exact I.nS, I.nT, ?_⟩, fun j => ?_⟩
  · rcases (mem_put keyI).1 hp with rfl | ⟨h, hne⟩
    · exact ⟨_, (mem_put keyI).2 (.inl rfl)⟩
    · obtain ⟨t, ht⟩ := I.sub p h
      exact ⟨t, (mem_put keyI).2 (.inr ⟨ht, hne⟩)⟩
  · rcases (mem_put keyI).1 hp with rfl | ⟨h, hne⟩
    · show -1 ≤ (s : Int); omega
    · exact I.lo p h
  · rcases (mem_put keyI).1 hp with rfl | ⟨h, hne⟩
    · rcases (mem_put keyI).1 hq with rfl | ⟨h', hne'⟩
      · rfl
      · exact (G.sl q h' e.symm).symm
    · rcases (mem_put keyI).1 hq with rfl | ⟨h', hne'⟩
      · exact G.sl p h e
      · exact I.one p h q h' h0 e
  · rcases (mem_put keyI).1 hp with rfl | ⟨h, hne⟩
    · rw [wrL_length, hd, show ((i, (s : Int)).2).toNat = s from rfl]; omega
    · exact Nat.le_trans (I.fit p h h0) hl
  · rcases (mem_put keyI).1 hp with rfl | ⟨h, hne⟩
    · exact hd
    · exact I.len p h
  · rcases (mem_put keyI).1 hp with rfl | ⟨h, hne⟩
    · rcases (mem_put keyI).1 ht with e | ⟨h', hne'⟩
      · injection e with _ e
        subst e
        show (if (0 : Int) ≤ (s : Int) then _ else _) = _
        rw [if_pos (by omega), Int.toNat_natCast]
        exact page_same G.le hd
      · exact absurd rfl hne'
    · rcases (mem_put keyI).1 ht with e | ⟨h', hne'⟩
      · exact absurd (congrArg Prod.fst e) hne
      · rw [hoth _ h' hne]; exact I.cln p h hdt t h'
  · rcases (mem_put keyI).1 hp with rfl | ⟨h, hne⟩
    · exact I.ids (i, s0) hs0
    · exact I.ids p h
  · rw [wrL_length, hd]; have := I.big; have := G.big; omega
  · unfold cont
    by_cases hj : j = i
    · subst hj
      rw [put_same keyI I.ra.once, I.at hf]
    · rw [put_other keyI I.ra.once hj, put_other keyI I.rs.once hj]
      cases e : aGet klI at_ j with
      | some g => rfl
      | none =>
        cases e2 : aGet klI sl j with
        | none => rfl
        | some t => exact hoth (j, t) (get_mem keyI e2) hj
/-- a page that is not only at hand is put away -/
theorem PInv.drop (I : PInv pf sl at_ tab) {i : Nat} {f : Fr} (hf : (i, f) ∈ at_) (hd : f.dirty = false) : PInv pf sl (aDel klI i at_) tab ∧ ∀ j, cont pf sl (aDel klI i at_) j = cont pf sl at_ j := by
  refine ⟨⟨I.rs, I.ra.del _, fun p hp => I.sub p ((mem_del keyI).1 hp).1, I.lo, I.one, I.fit, I.tfit, fun p hp => I.len p ((mem_del keyI).1 hp).1, fun p hp => I.cln p ((mem_del keyI).1 hp).1, I.ids, I.nS, I.nT, I.big⟩, fun j => ?_⟩
  unfold cont
  by_cases hj : j = i
  · subst hj
    obtain ⟨s, hs⟩ := I.sub _ hf
    rw [del_same keyI, I.at hf]
    show (match aGet klI sl j with | some s => slotY pf s | none => []) = f.data
    rw [I.slot hs]
    exact I.cln _ hf hd s hs
  · rw [del_other keyI I.ra.once hj]
/-- a page is at hand with these bytes -/
theorem PInv.hold (I : PInv pf sl at_ tab) {i : Nat} {s : Int} (hs : (i, s) ∈ sl) {f : Fr} (hl : f.data.length = 512) (hc : f.dirty = false → slotY pf s = f.data) :
    PInv pf sl (aPut klI i f at_) tab ∧ ∀ j, cont pf sl (aPut klI i f at_) j = if j = i then f.data else cont pf sl at_ j := by
  refine ⟨⟨I.rs, I.ra.put _ _, fun p hp => ?_, I.lo, I.one, I.fit, I.tfit, fun p hp => ?_, fun p hp hd t ht => ?_, I.ids, I.nS, I.nT, I.big⟩, fun j => ?_⟩
  · rcases (mem_put keyI).1 hp with rfl | ⟨h, _⟩
    · exact ⟨s, hs⟩
    · exact I.sub p h
  · rcases (mem_put keyI).1 hp with rfl | ⟨h, _⟩
    · exact hl
    · exact I.len p h
  · rcases (mem_put keyI).1 hp with rfl | ⟨h, _⟩
    · have e : t = s := by
        have h1 := I.slot ht
        rw [I.slot hs] at h1
        exact (Option.some.inj h1).symm
      rw [e]; exact hc hd
    · exact I.cln p h hd t ht
  · unfold cont
    by_cases hj : j = i
    · subst hj; rw [put_same keyI I.ra.once, if_pos rfl]
    · rw [put_other keyI I.ra.once hj, if_neg hj]
/-- a page more -/
theorem PInv.alloc (I : PInv pf sl at_ tab) {i : Nat} (hi : ∀ p ∈ sl, p.1 ≠ i) (hn : sl.length < 65536) (hb : i < 65536) :
    PInv pf (aPut klI i (-1) sl) at_ tab ∧ ∀ j, cont pf (aPut klI i (-1) sl) at_ j = if j = i then zeros else cont pf sl at_ j := by
  have hna : aGet klI at_ i = none := get_none keyI fun p hp e => by
    obtain ⟨s, hs⟩ := I.sub p hp
    exact hi _ hs e
  refine ⟨⟨I.rs.put _ _, I.ra, fun p hp => ?_, fun p hp => ?_, fun p hp q hq h0 e => ?_, fun p hp h0 => ?_, I.tfit, I.len, fun p hp hd t ht => ?_, fun p hp => ?_, by rw [length_put_new keyI hi]; omega, I.nT, I.big⟩, fun j => ?_⟩
  · obtain ⟨s, hs⟩ := I.sub p hp
    exact ⟨s, (mem_put keyI).2 (.inr ⟨hs, hi _ hs⟩)⟩
  · rcases (mem_put keyI).1 hp with rfl | ⟨h, _⟩
    · exact Int.le_refl _
    · exact I.lo p h
  · rcases (mem_put keyI).1 hp with rfl | ⟨h, _⟩
    · exact absurd h0 (Int.not_le.2 (by decide : (-1 : Int) < 0))
    · rcases (mem_put keyI).1 hq with rfl | ⟨h', _⟩
      · rw [e] at h0; exact absurd h0 (Int.not_le.2 (by decide : (-1 : Int) < 0))
      · exact I.one p h q h' h0 e
  · rcases (mem_put keyI).1 hp with rfl | ⟨h, _⟩
    · exact absurd h0 (Int.not_le.2 (by decide : (-1 : Int) < 0))
    · exact I.fit p h h0
  · rcases (mem_put keyI).1 ht with e | ⟨h, _⟩
    · injection e with e1 e2
      obtain ⟨s, hs⟩ := I.sub p hp
      exact absurd e1 (hi _ hs)
    · exact I.cln p hp hd t h
  · rcases (mem_put keyI).1 hp with rfl | ⟨h, _⟩
    · exact hb
    · exact I.ids p h
  · unfold cont
    by_cases hj : j = i
    · subst hj
      rw [hna, put_same keyI I.rs.once, if_pos rfl]
      rfl
    · rw [put_other keyI I.rs.once hj, if_neg hj]
/-- a page is gone -/
theorem PInv.free (I : PInv pf sl at_ tab) (i : Nat) : PInv pf (aDel klI i sl) (aDel klI i at_) tab ∧ ∀ j, cont pf (aDel klI i sl) (aDel klI i at_) j = if j = i then [] else cont pf sl at_ j := by
  refine ⟨⟨I.rs.del _, I.ra.del _, fun p hp => ?_, fun p hp => I.lo p ((mem_del keyI).1 hp).1, fun p hp q hq => I.one p ((mem_del keyI).1 hp).1 q ((mem_del keyI).1 hq).1, fun p hp => I.fit p ((mem_del keyI).1 hp).1, I.tfit, fun p hp => I.len p ((mem_del keyI).1 hp).1,
    fun p hp hd t ht => I.cln p ((mem_del keyI).1 hp).1 hd t ((mem_del keyI).1 ht).1, fun p hp => I.ids p ((mem_del keyI).1 hp).1, Nat.le_trans (length_del_le _ _) I.nS, I.nT, I.big⟩, fun j => ?_⟩
  · obtain ⟨h1, h2⟩ := (mem_del keyI).1 hp
    obtain ⟨s, hs⟩ := I.sub p h1
    exact ⟨s, (mem_del keyI).2 ⟨hs, h2⟩⟩
  · unfold cont
    by_cases hj : j = i
    · subst hj; rw [del_same keyI, del_same keyI, if_pos rfl]
    · rw [del_other keyI I.ra.once hj, del_other keyI I.rs.once hj, if_neg hj]
/-- where no page is only at hand, the slots have all -/
theorem PInv.saved (I : PInv pf sl at_ tab) (hc : ∀ p ∈ at_, p.2.dirty = false) {p : Nat × Int} (hp : p ∈ sl) : slotY pf p.2 = cont pf sl at_ p.1 := by
  unfold cont
  cases e : aGet klI at_ p.1 with
  | some f => exact I.cln _ (get_mem keyI e) (hc _ (get_mem keyI e)) p.2 hp
  | none =>
    show _ = (match aGet klI sl p.1 with | some s => slotY pf s | none => [])
    rw [I.slot hp]
/-- the slots are the table now -/
theorem PInv.turn (I : PInv pf sl at_ tab) : PInv pf sl at_ sl := ⟨I.rs, I.ra, I.sub, I.lo, I.one, I.fit, I.fit, I.len, I.cln, I.ids, I.nS, I.nS, I.big⟩
theorem PInv.none_ (I : PInv pf sl at_ tab) : PInv pf sl at_ [] := ⟨I.rs, I.ra, I.sub, I.lo, I.one, I.fit, fun p hp => by simp at hp, I.len, I.cln, I.ids, I.nS, by simp, I.big⟩
end
theorem PInv.new : PInv [] [] [] [] := ⟨List.Pairwise.nil, List.Pairwise.nil, fun p hp => by simp at hp, fun p hp => by simp at hp, fun p hp => by simp at hp, fun p hp => by simp at hp, fun p hp => by simp at hp, fun p hp => by simp at hp, fun p hp => by simp at hp, fun p hp => by simp at hp, by simp, by simp, by simp⟩
/-- what the files hold, as a pool without a page at hand -/
theorem PInv.of_holds {nf nm : Nm} {m : List UInt8} {tab : Slots} {ct : Nat → List UInt8} {f : Fls} (h : Holds nf nm m tab ct f) (hr : Rise tab) (hlo : ∀ p ∈ tab, -1 ≤ p.2) (h1 : ∀ p ∈ tab, ∀ q ∈ tab, 0 ≤ p.2 → p.2 = q.2 → p.1 = q.1) (hi : ∀ p ∈ tab, p.1 < 65536) (hn : tab.length ≤ 65536) (hb : ((f nf).getD []).length ≤ 67109376) :
    PInv ((f nf).getD []) tab [] tab ∧ ∀ p ∈ tab, cont ((f nf).getD []) tab [] p.1 = ct p.1 :=
  ⟨⟨hr, List.Pairwise.nil, fun p hp => by simp at hp, hlo, h1, h.fit, h.fit, fun p hp => by simp at hp, fun p hp => by simp at hp, hi, hn, hn, hb⟩, fun p hp => by
    rw [← h.at_ p hp]
    show (match aGet klI tab p.1 with | some s => slotY ((f nf).getD []) s | none => []) = _
    rw [mem_get keyI hr.once (k := p.1) (v := p.2) hp]⟩
end Go.Proofs.YtfgecgmgbngeaaaGreat
