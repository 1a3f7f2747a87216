/- What Save leaves: the table, the safe slots. Plain theorems. -/
import Derived.Test.YtfgecgmgbngeaaaGreatPlK
import Derived.Test.YtfgecgmgbngeaaaGreatWrpM
set_option maxRecDepth 100000
namespace Go.Proofs.YtfgecgmgbngeaaaGreat
open Go.RowKit Go.Maps
set_option linter.unusedVariables false

/-- what holds of a table -/
structure TabOk (tab : Slots) : Prop where
  rs : Rise tab
  lo : ∀ p ∈ tab, -1 ≤ p.2
  one : ∀ p ∈ tab, ∀ q ∈ tab, 0 ≤ p.2 → p.2 = q.2 → p.1 = q.1
  ids : ∀ p ∈ tab, p.1 < 65536
  n : tab.length ≤ 65536
  hi : ∀ p ∈ tab, p.2 ≤ 1000000
theorem PInv.tabOk {pf : List UInt8} {sl tab : Slots} {at_ : Ats} (I : PInv pf sl at_ tab) : TabOk sl :=
  ⟨I.rs, I.lo, I.one, I.ids, I.nS, fun p hp => (slot_big I p hp).2⟩
def metaB (sl : Slots) : List UInt8 := wrapB (joinB [tabB sl, []])
theorem joinB_len (sl : Slots) (h : sl.length ≤ 65536) : (joinB [tabB sl, []]).length ≤ 1200000 := by
  have h1 := tabB_length sl
  have h2 := numB_length (tabB sl).length
  have h3 := numB_length ([] : List UInt8).length
  have h4 := numB_length [tabB sl, []].length
  simp only [joinB, flatB, List.flatMap_cons, List.flatMap_nil, partB, List.length_append, List.length_nil, List.append_nil] at h3 h4 ⊢
  omega
theorem metaB_len (sl : Slots) (h : sl.length ≤ 65536) : (metaB sl).length ≤ 5000000 := by
  have h1 := joinB_len sl h
  have h2 := wrapB_len _ (joinB [tabB sl, []]) (Nat.le_refl _)
  unfold metaB
  omega
theorem crash_wr {nf nm nt : Nm} {m m' : List UInt8} {tab : List (Nat × Int)} {ct : Nat → List UInt8} {f : Fls} {q : List Deed} {a : Nat} (N : Nm3 nf nm nt) (hq : Outside nf tab q) (h : Holds nf nm m tab ct f) (k : Nat) : Holds nf nm m tab ct (crashF f (q ++ [.wr nt a m']) k) := by
  rcases crash_parts q [.wr nt a m'] f k with ⟨k', e⟩ | ⟨k', e⟩
  · rw [e]; exact hq.crash h N.fm k'
  · rw [e]
    refine crash_inv (P := Holds nf nm m tab ct) k' (hq.done h N.fm) fun x hx f' n hf => ?_
    obtain rfl := List.mem_singleton.1 hx
    exact hf.other (setF_ne _ N.ft.symm _) (setF_ne _ N.mt.symm _)
/-- the files behind a save -/
theorem all_save (f : Fls) {nt nm : Nm} (hne : nt ≠ nm) (m : List UInt8) (h0 : f nt = none) (k : Nm) : (Deed.mv nt nm).all ((Deed.wr nt 0 m).all f) k = if k = nm then some m else if k = nt then none else f k := by
  have e1 : (Deed.wr nt 0 m).all f = setF f nt (some m) := by
    rw [Deed.all_wr, h0]
    have := wrL_end [] m
    simp only [List.length_nil, List.nil_append] at this
    rw [Option.getD_none, this]
  rw [e1]
  show setF (setF (setF f nt (some m)) nt none) nm (some ((setF f nt (some m) nt).getD [])) k = _
  rw [setF_same, Option.getD_some]
  unfold setF
  by_cases h1 : k = nm
  · rw [if_pos h1, if_pos h1]
  · rw [if_neg h1, if_neg h1]
    by_cases h2 : k = nt
    · rw [if_pos h2, if_pos h2]
    · rw [if_neg h2, if_neg h2, if_neg h2]
section
variable {pre : ByteArray} {S S' : DSt} {sl tab : Slots} {sf : List (Int × Int)} {at_ : Ats} {sv : Option (List UInt8 × (Nat → List UInt8))} {ev : Int}
/-- the old table or the new one -/
def LastOr (pre : ByteArray) (tab : Slots) (sv : Option (List UInt8 × (Nat → List UInt8))) (sl : Slots) (ct : Nat → List UInt8) (f : Fls) : Prop := Last pre tab sv f ∨ Holds (nf pre) (nm pre) (metaB sl) sl ct f
theorem pgReplaced (h : PG pre S sl sf at_ tab sv) (hc : ∀ p ∈ at_, p.2.dirty = false) (hq : S.queue.length ≤ 900000) (hr : Replaced S S' (.wr (nt pre) 0 (metaB sl)) (.mv (nt pre) (nm pre)) ev) (hnt : sv ≠ none ∨ tab = []) :
    (ev = 9 ∧ S.arm ≠ none ∧ PDead pre S' (LastOr pre tab sv sl (cont ((S.seen (nf pre)).getD []) sl at_))) ∨
    (ev = 0 ∧ (S.arm = none → S'.arm = none) ∧ S'.queue = [] ∧ (∀ j, cont ((S'.seen (nf pre)).getD []) sl at_ j = cont ((S.seen (nf pre)).getD []) sl at_ j) ∧ ∀ sf', SafeM sf' sl → PG pre S' sl sf' at_ sl (some (metaB sl, cont ((S.seen (nf pre)).getD []) sl at_))) := by
  have N := nm3 pre
  have hml := metaB_len sl h.inv.nS
  have hall := all_save S.seen N.mt (metaB sl) (h.nt hnt)
  have hF : ∀ k, doneF S.safe (S.queue ++ [.wr (nt pre) 0 (metaB sl), .mv (nt pre) (nm pre)]) k = if k = nm pre then some (metaB sl) else if k = nt pre then none else S.seen k := fun k => by
    rw [← hall k, h.seen]; simp [doneF]
  have hnf : ∀ F : Fls, (∀ k, F k = if k = nm pre then some (metaB sl) else if k = nt pre then none else S.seen k) → F (nf pre) = S.seen (nf pre) := fun F hF => by
    rw [hF, if_neg N.fm.symm, if_neg N.ft.symm]
  have hnew : ∀ F : Fls, (∀ k, F k = if k = nm pre then some (metaB sl) else if k = nt pre then none else S.seen k) → Holds (nf pre) (nm pre) (metaB sl) sl (cont ((S.seen (nf pre)).getD []) sl at_) F := fun F hF =>
    ⟨by rw [hF, if_pos rfl], fun p hp h0 => by rw [hnf F hF]; exact h.inv.fit p hp h0, fun p hp => by rw [hnf F hF]; exact h.inv.saved hc hp⟩
  rcases hr with ⟨rfl, ha, hd, hs, hqq⟩ | ⟨rfl, hd, hs, hse, hqq, ha⟩
  · left
    have hdq := deedB_out h.out
    have hd1 : DeedB (supP pre) (.wr (nt pre) 0 (metaB sl)) := ⟨by simp [supP], by omega⟩
    have hd2 : DeedB (supP pre) (.mv (nt pre) (nm pre)) := by show nm pre ∈ supP pre; simp [supP]
    have hun := unitsQ_out h.out
    refine ⟨rfl, ha, hd, by rw [hs]; exact h.bs, fun x hx => ?_, ?_, fun k => ?_⟩
    · rcases hqq with e | e
      · rw [e] at hx
        rcases List.mem_append.1 hx with hx | hx
        · exact hdq x hx
        · rw [List.mem_singleton.1 hx]; exact hd1
      · rw [e] at hx
        rcases List.mem_append.1 hx with hx | hx
        · exact hdq x hx
        · rcases List.mem_cons.1 hx with rfl | hx
          · exact hd1
          · rw [List.mem_singleton.1 hx]; exact hd2
    · have hu : ∀ l, unitsQ (S.queue ++ l) = unitsQ S.queue + unitsQ l := fun l => by simp [unitsQ]
      rcases hqq with e | e
      · rw [e, hu, hun]
        have : unitsQ [Deed.wr (nt pre) 0 (metaB sl)] = (metaB sl).length + 1 := by simp [unitsQ, Deed.units]
        rw [this]; omega
      · rw [e, hu, hun]
        have : unitsQ [Deed.wr (nt pre) 0 (metaB sl), .mv (nt pre) (nm pre)] = (metaB sl).length + 1 + 1 := by simp [unitsQ, Deed.units]
        rw [this]; omega
    · cases sv with
      | none => exact .inl fun x e => by cases e
      | some x =>
        have h0 := h.hold x rfl
        rw [hs]
        rcases hqq with e | e
        · rw [e]
          exact .inl fun y ey => by injection ey with ey; subst ey; exact crash_wr N h.out h0 k
        · rw [e]
          rcases crash_save N h.out h0 (hnew _ hF) k with h1 | h1
          · exact .inl fun y ey => by injection ey with ey; subst ey; exact h1
          · exact .inr h1
  · right
    have hG : ∀ k, S'.seen k = if k = nm pre then some (metaB sl) else if k = nt pre then none else S.seen k := fun k => by rw [hse]; exact hall k
    have e1 := hnf _ hG
    have hsf : S'.safe = S'.seen := by rw [hs, hse]
    refine ⟨rfl, ha, hqq, fun j => by rw [e1], fun sf' hsf' => ⟨by rw [e1]; exact h.inv.turn, hsf', hd, fun x hx => ?_, ?_, ?_, ?_, fun k => ?_, fun x hx => ?_⟩⟩
    · rw [hqq] at hx; cases hx
    · rw [hqq, hsf]; rfl
    · intro _; rw [hG, if_neg N.mt, if_pos rfl]
    · rw [hG, if_pos rfl, Option.getD_some]; omega
    · rw [hsf, hG]
      have hb := BndF.done h.bs (deedB_out h.out)
      rw [← h.seen] at hb
      split
      · rw [Option.getD_some]; omega
      · split
        · simp
        · exact hb k
    · injection hx with hx
      subst hx
      rw [hsf]
      exact hnew _ hG
end

/-- what has been counted so far of the slots, from nothing -/
structure Cnt (sl : Slots) (left : Lit → Bool) (cnt : Nat) (tk : List (Int × Int)) : Prop where
  once : Once tk
  lo : ∀ p ∈ tk, 0 ≤ p.2 ∧ p.2 + (cnt : Int) ≤ (sl.length : Int) ∧ -1 ≤ p.1
  len : tk.length + cnt ≤ sl.length
  pos : ∀ s : Int, (∃ c, (s, c) ∈ tk ∧ 0 < c) ↔ ∃ p ∈ sl, left (klI p.1) = false ∧ p.2 = s
theorem Cnt.get {sl : Slots} {left : Lit → Bool} {cnt : Nat} {tk : List (Int × Int)} (h : Cnt sl left cnt tk) (s : Int) : 0 ≤ (aGet klZ tk s).getD 0 ∧ (aGet klZ tk s).getD 0 + (cnt : Int) ≤ (sl.length : Int) := by
  have hl := h.len
  cases e : aGet klZ tk s with
  | none => simp; omega
  | some c =>
    obtain ⟨h1, h2, _⟩ := h.lo _ (get_mem keyZ e)
    simp only [Option.getD_some]
    exact ⟨h1, h2⟩
theorem Cnt.step {sl : Slots} {left : Lit → Bool} {cnt cnt' : Nat} {tk : List (Int × Int)} (h : Cnt sl left cnt tk) (hr : Rise sl) {p : Nat × Int} (hp : p ∈ sl) (hlo : -1 ≤ p.2) (hc : cnt' < cnt) :
    Cnt sl (fun z => left z && !z.sameKey (klI p.1)) cnt' (aPut klZ p.2 ((aGet klZ tk p.2).getD 0 + 1) tk) := by
  have hg := h.get p.2
  have hleft : ∀ q ∈ sl, (left (klI q.1) && !(klI q.1).sameKey (klI p.1)) = false ↔ left (klI q.1) = false ∨ q = p := fun q hq => by
    by_cases e : q.1 = p.1
    · have e2 : q = p := by
        have h1 := mem_get keyI hr.once (k := q.1) (v := q.2) hq
        have h2 := mem_get keyI hr.once (k := p.1) (v := p.2) hp
        rw [e, h2] at h1
        injection h1 with h1
        exact Prod.ext e h1.symm
      rw [e2, (keyI.same _ _).2 rfl]
      simp
    · rw [keyI.ne e]
      simp only [Bool.not_false, Bool.and_true]
      exact ⟨.inl, fun h => h.elim id fun e2 => absurd (congrArg Prod.fst e2) e⟩
  refine ⟨h.once.put keyZ _ _, fun q hq => ?_, ?_, fun s => ?_⟩
  · rcases (mem_put keyZ).1 hq with rfl | ⟨hq, _⟩
    · exact ⟨by show 0 ≤ _ + 1; omega, by show (aGet klZ tk p.2).getD 0 + 1 + (cnt' : Int) ≤ _; omega, hlo⟩
    · obtain ⟨a, b, c⟩ := h.lo q hq
      exact ⟨a, by omega, c⟩
  · have := length_put_le (kl := klZ) p.2 ((aGet klZ tk p.2).getD 0 + 1) tk
    have := h.len
    omega
  · constructor
    · rintro ⟨c, hm, hc⟩
      rcases (mem_put keyZ).1 hm with e | ⟨hm, _⟩
      · injection e with e1 e2
        exact ⟨p, hp, (hleft p hp).2 (.inr rfl), e1.symm⟩
      · obtain ⟨q, hq, hl, e⟩ := (h.pos s).1 ⟨c, hm, hc⟩
        exact ⟨q, hq, (hleft q hq).2 (.inl hl), e⟩
    · intro hx
      by_cases e : s = p.2
      · exact ⟨_, (mem_put keyZ).2 (.inl (by rw [e])), by omega⟩
      · have : ∃ c, (s, c) ∈ tk ∧ 0 < c := (h.pos s).2 (by
          obtain ⟨q, hq, hl, e2⟩ := hx
          rcases (hleft q hq).1 hl with hl | e3
          · exact ⟨q, hq, hl, e2⟩
          · rw [e3] at e2; exact absurd e2.symm e)
        obtain ⟨c, hm, hc⟩ := this
        exact ⟨c, (mem_put keyZ).2 (.inr ⟨hm, e⟩), hc⟩
theorem Cnt.safe {sl : Slots} {left : Lit → Bool} {cnt : Nat} {tk : List (Int × Int)} (h : Cnt sl left cnt tk) (hl : ∀ z, left z = false) (hn : sl.length ≤ 65536) : SafeM tk sl :=
  ⟨h.once, fun s => by
    rw [h.pos s]
    exact ⟨fun ⟨p, hp, _, e⟩ => ⟨p, hp, e⟩, fun ⟨p, hp, e⟩ => ⟨p, hp, hl _, e⟩⟩, fun p hp => by
    obtain ⟨a, b, c⟩ := h.lo p hp
    exact ⟨a, by omega, c⟩, by have := h.len; omega⟩
theorem Cnt.start {sl : Slots} (hr : Rise sl) : Cnt sl (Maps.has (dat klI eZ sl)) sl.length [] :=
  ⟨Once.nil_, fun p hp => by simp at hp, by simp, fun s => ⟨fun ⟨c, h, _⟩ => by simp at h, fun ⟨p, hp, hl, _⟩ => by
    rw [dat_has, mem_get keyI hr.once (k := p.1) (v := p.2) hp] at hl; cases hl⟩⟩
section
variable {w w' : World} {TD TP G : Nat → Prop} {gd g hand bs bf ba : Nat} {pre : ByteArray} {S : DSt} {sl : Slots} {sf : List (Int × Int)} {at_ : Ats} {cl h1 h2 h3 : Int}
/-- the safe slots are a new map -/
theorem PoolM.newSafe (h : PoolM w TD TP G gd g pre hand S sl sf at_ bs bf ba cl h1 h2 h3) (hc : Chg (fun k => k = g) w w') {nb : Nat} (hn1 : w.heap.size ≤ nb) (hn2 : nb < w'.heap.size) {sf' : List (Int × Int)} (hm : w'.ownsMap Tryz.prog 3 RI nb sf'.length (dat klZ eZ sf'))
    (hb : Blk w' g 59 #[.pointer (some ⟨gd, 0, none⟩), .string pre, .int .i64 (hand : Int), .map (some bs), .map (some nb), .map (some ba), .int .i64 cl, .int .i64 h1, .int .i64 h2, .int .i64 h3]) :
    PoolM w' TD (fun b => TP b ∨ b = nb) G gd g pre hand S sl sf' at_ bs nb ba cl h1 h2 h3 := by
  obtain ⟨n1, n2, n3, n4⟩ := h.neS
  have hTl := h.drv.lt'
  refine ⟨h.drv.chg hc (fun b hb e => h.off g h.tg.1 ((show b = g from e) ▸ hb)), hb, ownsMap_chg h.ms hc (fun e => n1 e.symm), hm, ownsMap_chg h.ma hc (fun e => n3 e.symm), fun p hp => ?_, ⟨.inl h.tg.1, .inl h.tg.2.1, .inr rfl, .inl h.tg.2.2.2⟩, fun p hp => ⟨.inl (h.tf p hp).1, (h.tf p hp).2⟩, h.apart, ⟨fun e => ?_, h.dist.2.1, fun e => ?_⟩, fun b hb => ?_, fun b hb => ?_, fun b hb hb2 => ?_, h.pre⟩
  · obtain ⟨dv, u, h4, h5⟩ := h.fr p hp
    exact ⟨dv, u, h4.chg hc (h.tf p hp).2, h5.chg hc fun b hb => (h.gG b hb).2.1⟩
  · have := h.lt bs h.tg.2.1; omega
  · have := h.lt ba h.tg.2.2.2; omega
  · obtain ⟨a1, a2, a3, a4, a5, a6⟩ := h.gG b hb
    exact ⟨.inl a1, a2, a3, fun e => by have := h.lt b a1; omega, a5, a6⟩
  · rcases hb with hb | rfl
    · exact Nat.lt_of_lt_of_le (h.lt b hb) hc.size
    · exact hn2
  · rcases hb with hb | rfl
    · exact h.off b hb hb2
    · have := hTl b hb2; omega
/-- the safe slots have turned -/
theorem PoolM.turnM (h : PoolM w TD TP G gd g pre hand S sl sf at_ bs bf ba cl h1 h2 h3) (hc : Chg (fun k => k = bf) w w') {sf' : List (Int × Int)} (hm : w'.ownsMap Tryz.prog 3 RI bf sf'.length (dat klZ eZ sf')) : PoolM w' TD TP G gd g pre hand S sl sf' at_ bs bf ba cl h1 h2 h3 := by
  obtain ⟨n1, n2, n3, n4⟩ := h.neS
  exact ⟨h.drv.chg hc (fun b hb e => h.off bf h.tg.2.2.1 ((show b = bf from e) ▸ hb)), h.blk.chg hc n2, ownsMap_chg h.ms hc h.dist.1, hm, ownsMap_chg h.ma hc (fun e => h.dist.2.2 e.symm), fun p hp => by
    obtain ⟨dv, u, h4, h5⟩ := h.fr p hp
    exact ⟨dv, u, h4.chg hc (n4 p hp).2.1, h5.chg hc fun b hb => (h.gG b hb).2.2.2.1⟩, h.tg, h.tf, h.apart, h.dist, h.gG, fun b hb => Nat.lt_of_lt_of_le (h.lt b hb) hc.size, h.off, h.pre⟩
end
end Go.Proofs.YtfgecgmgbngeaaaGreat

set_option maxRecDepth 100000
namespace Go.Proofs.YtfgecgmgbngeaaaGreat
open Go.RowKit Go.Maps
set_option linter.unusedVariables false
set_option linter.unusedSimpArgs false

theorem rdBB2 {w : World} {base : Nat} {u1 u2 : Value} {l1 l2 : List UInt8} (h1 : OwnB w base u1 l1) (h2 : OwnB w base u2 l2) :
    RdBB (w.alloc (.cells #[u1, u2] 30)) (fun _ => True) (.slice (some ⟨w.heap.size, 0, none⟩) 2 2) [l1, l2] := by
  have hc := (Chg.refl Non w).alloc (.cells #[u1, u2] 30)
  have hb := Blk.new w 30 #[u1, u2]
  refine ⟨[u1, u2], rfl, ⟨rfl, some ⟨w.heap.size, 0, none⟩, 2, rfl, Nat.le_refl _, by simp [maxLen], fun _ => ⟨_, rfl, trivial, fun j u hu => by
    rw [add_none, Nat.zero_add, hb.cell j, ← hu]; exact List.getElem?_toArray⟩⟩, fun k x l hx hl => ?_⟩
  have key : ∀ {u : Value} {l : List UInt8}, OwnB w base u l → RdB (w.alloc (.cells #[u1, u2] 30)) (fun _ => True) u l := fun h =>
    (h.rdB.c0 hc).mono fun k hk => trivial
  match k, hx, hl with
  | 0, hx, hl => simp at hx hl; subst hx; subst hl; exact key h1
  | 1, hx, hl => simp at hx hl; subst hx; subst hl; exact key h2
  | k + 2, hx, hl => simp at hx
theorem atKey_some {at_ : Ats} {L : List Nat} (hk : at_.map (·.1) = L) {i : Nat} (hi : i ∈ L) : ∃ f, (i, f) ∈ at_ := by
  rw [← hk] at hi
  obtain ⟨p, hp, rfl⟩ := List.mem_map.1 hi
  exact ⟨p.2, hp⟩

set_option maxHeartbeats 16000000 in
theorem plSave {w : World} {TD TP G : Nat → Prop} {gd g hand bs bf ba : Nat} {pre : ByteArray} {S : DSt} {sl tab : Slots} {sf : List (Int × Int)} {at_ : Ats} {cl h1 h2 h3 : Int} {sv : Option (List UInt8 × (Nat → List UInt8))}
    (h : PoolM w TD TP G gd g pre hand S sl sf at_ bs bf ba cl h1 h2 h3) (hG : PG pre S sl sf at_ tab sv) (hle : at_.length ≤ 1000) (hq : S.queue.length ≤ 800000) (hnt : sv ≠ none ∨ tab = []) :
    Calls Tryz.prog 8 #[.pointer (some ⟨g, 0, none⟩), .slice none 0 0] w fun e w' => Chg (fun b => TD b ∨ TP b) w w' ∧
      ((e = .returned (.int .i64 9) ∧ S.arm ≠ none ∧ ∃ S' sl', DrvAt w' (supP pre) (Ext TD w w') gd S' ∧ TabOk sl' ∧ sl'.map (·.1) = sl.map (·.1) ∧ (∃ ct : Nat → List UInt8, (∀ p ∈ sl', ct p.1 = cont ((S.seen (nf pre)).getD []) sl at_ p.1) ∧ PDead pre S' (LastOr pre tab sv sl' ct))) ∨
       (e = .returned (.int .i64 0) ∧ ∃ S' sl' sf' at' TD' TP' G' bf', PoolM w' TD' TP' G' gd g pre hand S' sl' sf' at' bs bf' ba cl h1 h2 h3 ∧ TabOk sl' ∧ sl'.map (·.1) = sl.map (·.1) ∧ (∃ ct : Nat → List UInt8, (∀ j, ct j = cont ((S.seen (nf pre)).getD []) sl at_ j) ∧ PG pre S' sl' sf' at' sl' (some (metaB sl', ct)) ∧ ∀ j, cont ((S'.seen (nf pre)).getD []) sl' at' j = ct j) ∧ (S.arm = none → S'.arm = none) ∧
         S'.queue = [] ∧ at'.length = at_.length ∧ (∀ b, TD' b → Ext TD w w' b) ∧ ∀ b, TP' b → Ext TP w w' b)) := by
  have k0 : w.cell? ⟨g, 0, none⟩ = some (.pointer (some ⟨gd, 0, none⟩)) := h.blk.cell 0
  have k5 : w.cell? ⟨g, 5, none⟩ = some (.map (some ba)) := h.blk.cell 5
  have hdead := dgDead h.drv
  rw [hG.dead] at hdead
  have hkeys := (callsIn_wide (n := 5)).1 (Tryz.maps_Keys_26 (some ba) w)
  have hsort := (callsIn_wide (n := 5)).1 (Tryz.slices_Sorted_keys_25_26 ba at_.length (dat klI eF at_) heldR w h.ma (by rw [dat_size]; unfold maxLen; omega) (by rw [dat_size]; omega))
  have HP := hide h
  have HG := hide hG
  have HNT := hide hnt
  clear h hG hnt
  go_enter Tryz.func8, Tryz.ntmps8
  go_upto_region 3 with (go_at_call 12; refine hdead.mono ?_; rintro e w1 ⟨rfl, hw1⟩; subst w1)
  clear hdead
  go_wp2_with (first
    | (go_at_call 26; refine hkeys.mono ?_; rintro e w1 ⟨rfl, hw1⟩; subst w1)
    | (go_at_call 25; refine hsort.mono ?_; rintro e w2 ⟨v, ss, rfl, hss, hrow, -, hbel⟩; (have hiv : OwnI w2 w.heap.size v (at_.map fun p => (p.1 : Int)) := (own_keys HG.out.inv.ra hss hrow).low (Nat.le_of_lt (sizeAl _ _))); (have hc2 : Chg Non w w2 := ((Chg.refl Non w).alloc (.cells #[.map (some ba)] 53)).trans0 (Chg.of_below hbel)); (obtain ⟨IA, ic, rfl, hic, hicm⟩ := hiv.shape); (have hil : (at_.map fun p => (p.1 : Int)).length = at_.length := List.length_map ..); rw [hil] at hiv hic ⊢))
  clear hkeys hsort hss hrow hbel
  have n2 := hc2.size
  have HIV := hide hiv
  have HC2 := hide hc2
  have hTl := HP.out.drv.lt'
  have hPl := HP.out.lt
  have HTL := hide (And.intro hTl hPl)
  clear hiv hc2 k0 k5 hil hTl hPl
  go_loopw [25] (fun kv wr => ∃ (k : Nat) (S1 : DSt) (sl1 : Slots) (at1 : Ats) (TD1 G1 : Nat → Prop), kv = .int .i64 (k : Int) ∧ k ≤ at_.length ∧ PoolM wr TD1 TP G1 gd g pre hand S1 sl1 sf at1 bs bf ba cl h1 h2 h3 ∧ Hid (PG pre S1 sl1 sf at1 tab sv) ∧ Hid (PKeep S S1 pre sl sl1 at_ at1) ∧ Hid (at1.map (·.1) = at_.map (·.1)) ∧ Hid (∀ p ∈ at1, p.1 ∈ (at_.map (·.1)).take k → p.2.dirty = false) ∧ S1.queue.length ≤ S.queue.length + k ∧ Hid (∀ b, TD1 b → Ext TD w2 wr b) ∧ Hid (S1.arm ≠ none → S.arm ≠ none) ∧ Chg (fun b => TD b ∨ TP b) w2 wr) (fun kv _ => at_.length - (intOf kv).toNat)
  case atStart => exact ⟨0, S, sl, at_, TD, G, rfl, Nat.zero_le _, HP.out.c0 HC2.out, HG, hide ⟨rfl, fun _ => rfl, fun e => e⟩, hide rfl, hide (fun p _ hm => by simp at hm), Nat.le_refl _, hide (fun b hb => .inl hb), hide (fun e => e), Chg.refl _ _⟩
  case round =>
    obtain ⟨k, S1, sl1, at1, TD1, G1, rfl, hk, hP1, hG1, hK1, hkeys1, hcl1, hq1, hT1, harm1, hcw⟩ := hrel
    by_cases hkl : k < at_.length
    · obtain ⟨i, hi⟩ : ∃ i, i = at_[k].1 := ⟨_, rfl⟩
      have hml : k < (at_.map (·.1)).length := by rw [List.length_map]; exact hkl
      have hiL : (at_.map (·.1))[k]? = some i := by rw [List.getElem?_eq_getElem hml, List.getElem_map, hi]
      obtain ⟨f, hf⟩ := atKey_some hkeys1.out (i := i) (List.mem_of_getElem? hiL)
      have hIb : ∀ j, (Value.slice IA at_.length ic).ownBlock = some j → ¬ (TD j ∨ TP j) := fun j hj e => by
        have h1 := (HIV.out.lt j hj).1
        rcases e with e | e
        · have := HTL.out.1 j e; omega
        · have := HTL.out.2 j e; omega
      have hiv : OwnI wr w.heap.size (.slice IA at_.length ic) (at_.map fun p => (p.1 : Int)) := HIV.out.chg hcw hIb
      obtain ⟨gi, ci, ei, hgi, hcell⟩ := hiv.at_ (k := k) (by rw [List.length_map]; exact hkl)
      rw [List.getElem_map, ← hi] at hcell
      rw [List.length_map] at ei
      injection ei with ei1 _ ei2
      subst ei1
      subst ei2
      have hcln := plClean hP1 hG1.out hf (by omega)
      have nr := hcw.size
      have hTl1 := hP1.drv.lt'
      have HKL := hide hkl
      have HIL := hide hiL
      have HF := hide hf
      have HP1 := hide hP1
      have HTL1 := hide hTl1
      clear hiv hi hIb hml hiL hf hP1 hTl1
      go_wp2_with fail
      refine hcln.mono ?_
      rintro e w4 ⟨hc4, ⟨rfl, harm, hdead⟩ | ⟨rfl, S', sl', G', hP4, hG4, hK4, hq4⟩⟩
      · have HA := hide harm
        have HDD := hide hdead
        clear hcln harm hdead hcell
        go_wp2_with fail
        go_ret
        obtain ⟨S', hd1, hd2⟩ := HDD.out
        have n4 := hc4.size
        have hTb : ∀ b, TD1 b → TD b ∨ (w.heap.size ≤ b ∧ b < wr.heap.size) := fun b hb => by
          rcases hT1.out b hb with hb | hb
          · exact .inl hb
          · exact .inr ⟨by omega, hb.2⟩
        refine ⟨((HC2.out.mono (S' := fun b => TD b ∨ TP b) fun _ _ h => h.elim).trans hcw fun _ _ h => h).trans hc4 fun j hj e => ?_, .inl ⟨rfl, harm1.out HA.out, S', sl1, hd1.up (fun b hb => ?_) (Ext.lt HTL.out.1 (by omega)), hG1.out.inv.tabOk, hK1.out.keys, cont ((S1.seen (nf pre)).getD []) sl1 at1, fun p _ => hK1.out.cont p.1, hd2.dead, hd2.bs, hd2.dq, hd2.un, fun k => .inl (hd2.rk k)⟩⟩
        · rcases e with e | e
          · rcases hTb j e with e | e
            · exact .inl e
            · omega
          · exact .inr e
        · rcases hb with hb | hb
          · rcases hTb b hb with hb | hb
            · exact .inl hb
            · exact .inr ⟨hb.1, by omega⟩
          · exact .inr ⟨by omega, hb.2⟩
      · have n4 := hc4.size
        have hT4 := hide (show ∀ b, Ext TD1 wr w4 b → Ext TD w2 w4 b from fun b hb => by
          rcases hb with hb | hb
          · exact (hT1.out b hb).up n4
          · exact .inr ⟨by omega, hb.2⟩)
        have hcw4 : Chg (fun b => TD b ∨ TP b) w2 w4 := hcw.trans hc4 fun j hj e => by
          rcases e with e | e
          · rcases hT1.out j e with e | e
            · exact .inl e
            · omega
          · exact .inr e
        have hG4h := hide hG4
        have hK4h := hide (show PKeep S S' pre sl sl' at_ (aPut klI i ⟨f.blk, f.data, false⟩ at1) from ⟨hK4.keys.trans hK1.out.keys, fun j => (hK4.cont j).trans (hK1.out.cont j), fun e => hK4.arm (hK1.out.arm e)⟩)
        have hkeys4 := hide ((put_keys (v' := ⟨f.blk, f.data, false⟩) hG1.out.inv.ra HF.out).trans hkeys1.out)
        have hcl4 := hide (show ∀ p ∈ aPut klI i ⟨f.blk, f.data, false⟩ at1, p.1 ∈ (at_.map (·.1)).take (k + 1) → p.2.dirty = false from fun p hp hm => by
          rcases (mem_put keyI).1 hp with rfl | ⟨hp, hne⟩
          · rfl
          · refine hcl1.out p hp ?_
            rw [List.take_add_one, HIL.out] at hm
            rcases List.mem_append.1 hm with hm | hm
            · exact hm
            · exact absurd (List.mem_singleton.1 hm) hne)
        have harm4 := hide (show S'.arm ≠ none → S.arm ≠ none from fun e e2 => e (hK4h.out.arm e2))
        clear hcln hG4 hK4 hc4 hcell
        go_wp2_with fail
        go_roundw
        case rel => exact ⟨k + 1, S', sl', _, _, G', by go_num, HKL.out, hP4, hG4h, hK4h, hkeys4, hcl4, by omega, hT4, harm4, hcw4⟩
        case measure => (have := HKL.out; simp [intOf]; omega)
    · have hkk : k = at_.length := by omega
      have hcln := hide (show ∀ p ∈ at1, p.2.dirty = false from fun p hp => hcl1.out p hp (by
        rw [hkk, List.take_of_length_le (by rw [List.length_map]; exact Nat.le_refl _), ← hkeys1.out]
        exact List.mem_map.2 ⟨p, hp, rfl⟩))
      obtain ⟨w3, rfl⟩ : ∃ w', w' = wr := ⟨_, rfl⟩
      have HKK := hide hkk
      have hdk : decide ((k : Int) < (at_.length : Int)) = false := decide_eq_false (by omega)
      have nS1 := hG1.out.inv.nS
      have hb1 := slot_big hG1.out.inv
      have htab := plTable hP1 hG1.out.inv.rs nS1 fun p hp => ⟨hG1.out.inv.ids p hp, hb1 p hp⟩
      have hjl := joinB_len sl1 nS1
      have hml := metaB_len sl1 nS1
      have HP1 := hide hP1
      have n3 := hcw.size
      have HT1 := hide (show ∀ b, TD1 b → TD b ∨ (w.heap.size ≤ b ∧ b < w3.heap.size) from fun b hb => by
          rcases hT1.out b hb with hb | hb
          · exact .inl hb
          · exact .inr ⟨by omega, hb.2⟩)
      clear hcl1 hkk hP1 hb1 hT1
      go_wp2_with fail
      refine htab.mono ?_
      rintro e w4 ⟨tv, rfl, htv, hc4⟩
      obtain ⟨ta, tn, tc, rfl⟩ := htv.shapeH
      have hbb := rdBB2 (w := w4) htv (OwnB.nil_ w4 w3.heap.size)
      have hcA := (Chg.refl Non w4).alloc (.cells #[.slice ta tn tc, .slice none 0 0] 30)
      have hjoin := packJoin hbb (by omega)
      clear htab htv hbb
      go_wp2_with fail
      refine hjoin.mono ?_
      rintro e w5 ⟨jv, rfl, hjv, hc5⟩
      have hwrap := parityWrap hjv.rd (by omega)
      have hc35 := (hc4.trans0 hcA).trans0 hc5
      clear hjoin hjv hcA hc4 hc5
      go_wp2_with fail
      refine hwrap.mono ?_
      rintro e w6 ⟨bv, rfl, hbv, hc6⟩
      have hc36 := hc35.trans0 hc6
      have n6 := hc36.size
      have hbv : OwnB w6 w5.heap.size bv (metaB sl1) := hbv
      obtain ⟨BA, bn, bc, rfl⟩ := hbv.shapeH
      have HP6 := hide (HP1.out.c0 hc36)
      have HBV := hide hbv
      clear hwrap hbv hc35 hc6
      have k0 : w6.cell? ⟨g, 0, none⟩ = some (.pointer (some ⟨gd, 0, none⟩)) := HP6.out.blk.cell 0
      have hpre := HP6.out.pre
      have hmeta := fun {wx : World} (hc : Chg Non w6 wx) => plMeta (HP6.out.c0 hc)
      have hrep := fun {wx : World} (hc : Chg Non w6 wx) => dgReplace (w := wx) (s := nmB pre) (t := ntB pre) rfl (HP6.out.drv.c0 hc) hG1.out.dead (supP_once pre) (by simp [supP]) (by unfold nmB; rw [ByteArray.size_append, show (⟨#[109, 101, 116, 97]⟩ : ByteArray).size = 4 from rfl]; omega) (by show nm pre ∈ supP pre; simp [supP]) (by show nt pre ∈ supP pre; simp [supP]) (hG1.out.nt HNT.out) (HBV.out.rd.c0 hc) (by have := hG1.out.tot; omega) (by omega)
      have HQ1 := hide hq1
      clear hq1 hjl hpre
      go_upto_region 11 with fail
      go_cut [9] from 42 (fun v9 wx => ∃ ev S2, v9 = .int .i64 ev ∧ DrvAt wx (supP pre) (Ext TD1 w6 wx) gd S2 ∧ Chg TD1 w6 wx ∧ Hid (Replaced S1 S2 (.wr (nt pre) 0 (metaB sl1)) (.mv (nt pre) (nm pre)) ev))
      case first =>
        go_region_law (first
          | (go_simp; go_at_call 18; refine (hmeta ((Chg.refl Non w6).drew)).mono ?_; rintro e w7 ⟨rfl, hc7⟩; have hc7' := ((Chg.refl Non w6).drew).trans0 hc7; have k0b := hc7'.cell k0 (fun h => h))
          | (go_simp; go_at_call 31; refine (hrep hc7').mono ?_; rintro e w8 ⟨ev, S2, rfl, hD8, hc8, hR8⟩; have HR8 := hide hR8; clear hR8))
        all_goals
          try simp only [List.getElem_toArray, List.getElem_cons_succ, List.getElem_cons_zero, Act.put, List.setIfInBounds_toArray, List.set_cons_zero, List.set_cons_succ]
          go_wp2_with fail
          go_meet
          exact ⟨ev, S2, rfl, hD8.up (fun b hb => hb.back hc7'.size) (Ext.lt HP6.out.drv.lt' (Nat.le_trans hc7'.size hc8.size)), (hc7'.mono fun _ _ h => h.elim).trans hc8 fun _ _ h => h, HR8⟩
      case rest =>
        obtain ⟨ev, S2, rfl, hD7, hc7, hR7⟩ := hcut
        obtain ⟨w7, rfl⟩ : ∃ w', w' = wc := ⟨_, rfl⟩
        have n7 := hc7.size
        have hP7 := HP6.out.drive hD7 hc7
        have hcw7 : Chg (fun b => TD b ∨ TP b) w w7 := (((HC2.out.mono (S' := fun b => TD b ∨ TP b) fun _ _ h => h.elim).trans hcw fun _ _ h => h).trans0 hc36).trans hc7 fun j hj e => by
          rcases HT1.out j e with e | e
          · exact .inl e
          · omega
        have HT7 := hide (show ∀ b, Ext TD1 w6 w7 b → Ext TD w w7 b from fun b hb => by
          rcases hb with hb | hb
          · rcases HT1.out b hb with hb | hb
            · exact .inl hb
            · exact .inr ⟨hb.1, by omega⟩
          · exact .inr ⟨by omega, hb.2⟩)
        have HP7 := hide hP7
        have HD7 := hide hD7
        have HC7 := hide hcw7
        clear hmeta hrep k0 hP7 hD7 hcw7 hc7 hc36 hcw
        rcases pgReplaced hG1.out hcln.out (by have := HQ1.out; omega) hR7.out HNT.out with ⟨rfl, harm, hdead⟩ | ⟨rfl, harm, hq0, hct, hPG⟩
        · have HA := hide harm
          have HDD := hide hdead
          clear harm hdead hR7
          go_wp2_with fail
          go_ret
          exact ⟨HC7.out, .inl ⟨rfl, harm1.out HA.out, S2, sl1, HD7.out.up (fun b hb => HT7.out b hb) (Ext.lt HTL.out.1 (by omega)), hG1.out.inv.tabOk, hK1.out.keys, _, fun p _ => hK1.out.cont p.1, HDD.out⟩⟩
        · have HA := hide harm
          have HQ0 := hide hq0
          have HCT := hide hct
          have HPG := hide hPG
          obtain ⟨nb, hnb⟩ : ∃ nb, nb = w7.heap.size := ⟨_, rfl⟩
          have hcm := (Chg.refl Non w7).alloc (.map #[] 0)
          have hmm : (w7.alloc (.map #[] 0)).ownsMap Tryz.prog 3 RI nb ([] : List (Int × Int)).length (dat klZ eZ []) := by rw [hnb]; exact World.ownsMap_made w7 Tryz.prog 3 RI
          have hbx := (HP7.out.blk.c0 hcm).set_ 4 (.map (some nb))
          simp at hbx
          have z4 : (w7.alloc (.map #[] 0)).frozen? ⟨g, 4, none⟩ = false := (HP7.out.blk.c0 hcm).frozen 4
          have k4 : (w7.alloc (.map #[] 0)).cell? ⟨g, 4, none⟩ = some (.map (some bf)) := (HP7.out.blk.c0 hcm).cell 4
          have hcs : Chg (fun k => k = g) (w7.alloc (.map #[] 0)) ((w7.alloc (.map #[] 0)).setCell ⟨g, 4, none⟩ (.map (some nb))) := Chg.setCell (p := ⟨g, 4, none⟩) (Chg.refl (fun k => k = g) _) (fun _ => rfl) _
          have hc78 : Chg (fun k => k = g) w7 ((w7.alloc (.map #[] 0)).setCell ⟨g, 4, none⟩ (.map (some nb))) := (hcm.mono fun _ _ h => h.elim).trans hcs fun _ _ h => h
          have hgl := HP7.out.lt g HP7.out.tg.1
          have hns := sizeAl w7 (.map #[] 0)
          have hP8 := HP7.out.newSafe hc78 (nb := nb) (by omega) (by have := hcs.size; omega) (sf' := []) (ownsMap_chg hmm hcs (fun e => by omega)) hbx
          have HP8 := hide hP8
          have HC78 := hide hc78
          have HNB := hide hnb
          clear harm hq0 hct hPG hR7 hcm hmm hbx hcs hc78 hP8 hns hgl hnb hbv
          have hmkm := @run_makeMap Tryz.prog
          go_upto_region 15 with fail
          clear hmkm
          try rw [← HNB.out]
          generalize World.setCell (World.alloc w7 _) _ _ = w8 at HP8 HC78 ⊢
          have hms8 := HP8.out.ms
          have k38 : w8.cell? ⟨g, 3, none⟩ = some (.map (some bs)) := HP8.out.blk.cell 3
          have k48 : w8.cell? ⟨g, 4, none⟩ = some (.map (some nb)) := HP8.out.blk.cell 4
          have n8 := HC78.out.size
          have hnb8 : nb < w8.heap.size := HP8.out.lt nb (.inr rfl)
          have hgn : g ≠ nb := HP8.out.neS.2.1
          have hbs8 := hms8.lt
          have hbsn : bs ≠ nb := HP8.out.dist.1
          clear z4 k4
          go_wp2_with (at_range; refine wpList_range_own _ rfl _ 52 rfl 3 3 keyN Tryz.underlying52 RI bs sl1.length _ rfl hms8 ?_; intro w9 hrg0 hg0 hs0)
          go_frame
          have hc9 : Chg Non w8 w9 := (Chg.of_grown hg0).mono fun b _ e => by cases e
          have hmf9 := ownsMap_chg HP8.out.mf hc9 (fun h => h)
          have HT0 := hide (Cnt.start hG1.out.inv.rs)
          rw [dat_size] at hrg0
          clear hms8
          go_loopw [] (fun wr => ∃ (left : Lit → Bool) (cnt : Nat) (tk : List (Int × Int)), wr.ranges Tryz.prog 3 RI bs w8.heap.size sl1.length (dat klI eZ sl1) left cnt ∧ wr.ownsMap Tryz.prog 3 RI nb tk.length (dat klZ eZ tk) ∧ Hid (Cnt sl1 left cnt tk) ∧ Hid (∀ z, left z = true → Maps.has (dat klI eZ sl1) z = true) ∧ cnt ≤ sl1.length ∧ Chg (fun k => k = nb) w8 wr) (fun wr => wr.rangeLeft bs w8.heap.size)
          case atStart => exact ⟨_, _, [], hrg0, hmf9, HT0, hide fun z hz => hz, Nat.le_refl _, hc9.mono fun _ _ h => h.elim⟩
          case round =>
            clear hrg0 hg0 hs0 HT0 hc9 hmf9
            obtain ⟨left, cnt, tk, hrg, hmt, hT, hsub, hcn, hcw⟩ := hrel
            have hrl := hrg.lt
            go_wp2_with (at_next; refine wpList_next_ranges_ii _ rfl _ rfl 3 3 .i64 .i64 keyN Tryz.underlying3 Tryz.underlying3 bs w8.heap.size sl1.length _ _ _ rfl hrg ?_ ?_)
            · intro hn0 hl0
              have hsafe := hide (hT.out.safe hl0 nS1)
              have hPz := hide (HP8.out.turnM hcw hmt)
              clear hrg hl0 hrl hT hmt
              go_wp2_with fail
              go_ret
              have nz := hcw.size
              refine ⟨(HC7.out.trans HC78.out fun j hj e => .inr ((show j = g from e) ▸ HP.out.tg.1)).trans hcw fun j hj e => ?_, .inr ⟨rfl, S2, sl1, tk, at1, _, _, _, nb, hPz.out, hG1.out.inv.tabOk, hK1.out.keys, ⟨_, fun j => hK1.out.cont j, HPG.out tk hsafe.out, HCT.out⟩, fun e => HA.out (hK1.out.arm e), HQ0.out, ?_, fun b hb => (HT7.out b hb).up (by omega), fun b hb => ?_⟩⟩
              · have e : j = nb := e
                have := HNB.out
                omega
              · have h9 := congrArg List.length hkeys1.out
                rw [List.length_map, List.length_map] at h9
                exact h9
              · rcases hb with hb | hb
                · exact .inl hb
                · have := HNB.out
                  exact .inr ⟨by omega, by omega⟩
            · intro x c w3' cnt1 hwx hwc hlx hat hrg1 hlt hg1 hs1 hen
              obtain ⟨p, hp, hpk⟩ : ∃ p ∈ sl1, klI p.1 = .int .i64 x := by
                have h1 := hsub.out _ hlx
                rw [dat_has_any] at h1
                obtain ⟨p, hp, h2⟩ := List.any_eq_true.1 h1
                exact ⟨p, hp, WideAt.sameKey_eq h2⟩
              have hcp : c = p.2 := by
                have h1 := hat (eZ 0)
                rw [← hpk, dat_at, mem_get keyI hG1.out.inv.rs.once (k := p.1) (v := p.2) hp] at h1
                simp only [Option.map_some, Option.getD_some] at h1
                injection h1 with h1
                injection h1 with _ h1
                exact h1.symm
              rw [← hpk] at hrg1
              have hl2 := slot_big hG1.out.inv p hp
              have hw3 : Chg (fun k => k = nb) w8 w3' := hcw.grown hg1 fun b hb hlt => by injection hb with hb; omega
              have hmt3 := ownsMap_chg hmt (Chg.of_grown hg1) (fun e => by
                injection e with e
                have e : nb = w8.heap.size := e
                omega)
              have k4w : w3'.cell? ⟨g, 4, none⟩ = some (.map (some nb)) := hw3.cell k48 hgn
              have hkey := keyOf_z (i := c) (by omega) (by omega)
              have hlk := (lookZ hmt3 hkey).1
              have hgt := hT.out.get c
              have hstep := hT.out.step hG1.out.inv.rs hp hl2.1 hlt
              rw [← hcp] at hstep
              obtain ⟨c0, hc0⟩ : ∃ c0, c0 = (aGet klZ tk c).getD 0 := ⟨_, rfl⟩
              rw [← hc0] at hlk hgt hstep
              have hwr : IntKind.i64.wrap (c0 + 1) = c0 + 1 := IntWalk.i64_in _ (by omega)
              have hmx : tk.length < maxLen := by have := hT.out.len; unfold maxLen; omega
              have HST := hide hstep
              have HRG := hide hrg1
              have hle1 := hrg1.left_eq
              have hle2 := hrg.left_eq
              have hwf := wf64 (a := c0 + 1) (by omega) (by omega)
              have HPK := hide hpk
              clear hrg hrg1 hlx hat hgt hstep hc0 hpk hmt hT hcp
              go_wp2_with (at_mapUpdate; refine wpList_mapUpdate_own _ rfl _ _ _ 52 rfl 3 3 keyN Tryz.underlying52 RI nb tk.length _ rfl hmt3 hmx _ _ (klZ c) rfl rfl hkey (eZ (c0 + 1)) [] (plainElem_int Tryz.underlying3 hwf) ?_; intro w5' hm5 hg5)
              have hrg5 := HRG.out.kept hg5 (fun e => by injection e with e; omega) (fun e => by injection e with e; omega)
              have hw5 : Chg (fun k => k = nb) w8 w5' := hw3.grown hg5 fun b hb hlt => by injection hb with hb; exact hb.symm
              simp only [Act.put]
              go_roundw
              case rel => exact ⟨_, _, _, hrg5, putZ hm5, HST, hide fun z hz => hsub.out z (by simp only [Bool.and_eq_true] at hz; exact hz.1), by omega, hw5⟩
              case measure =>
                rw [hrg5.left_eq, hle2]
                exact hlt
end Go.Proofs.YtfgecgmgbngeaaaGreat
