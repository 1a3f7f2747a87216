/- The walks of the pool's names, has, Alloc, Free, touch. -/
import Derived.Test.YtliimeoblffigaaGreatPlAG
import Derived.Maps.RangeWalk
set_option linter.unusedVariables false
set_option linter.unusedSimpArgs false
set_option maxRecDepth 100000
namespace Go.Proofs.YtliimeoblffigaaGreat
open Go.RowKit Go.Maps
set_option linter.unusedVariables false

theorem joinOne {w : World} {b : Nat} {x : ByteArray} (h : w.cell? ⟨b, 0, none⟩ = some (.string x)) :
  Calls Tryz.prog 98 #[.slice (some ⟨b, 0, none⟩) 1 1, .string ⟨#[]⟩] w fun e w' => e = .returned (.string x) ∧ ∃ k, w' = w.drewN k := by
 go_enter Tryz.func98, Tryz.ntmps98
 go_wp2_with fail
 go_ret
 exact ⟨rfl, 0, rfl⟩
theorem plPath {w : World} {b gd : Nat} {pre x : ByteArray} (hz : pre.size + x.size ≤ 10000) (h : w.cell? ⟨b, 0, none⟩ = some (.string x)) :
  Calls Tryz.prog 117 #[.agg #[.pointer (some ⟨gd, 0, none⟩), .string pre], .slice (some ⟨b, 0, none⟩) 1 1] w fun e w' => e = .returned (.string (pre ++ x)) ∧ Chg Non w w' := by
 have hcb := (Chg.refl Non w).alloc (.cells #[.pointer (some ⟨gd, 0, none⟩), .string pre] 163)
 have hb1 : (w.alloc (.cells #[.pointer (some ⟨gd, 0, none⟩), .string pre] 163)).cell? ⟨w.heap.size, 1, none⟩ = some (.string pre) := (Blk.new w 163 #[.pointer (some ⟨gd, 0, none⟩), .string pre]).cell 1
 have hx := hcb.cell h (fun h => h)
 have hzz : ¬ (9223372036854775807 < pre.size + x.size) := by omega
 clear h
 go_enter Tryz.func117, Tryz.ntmps117
 go_upto_region 1 with fail
 generalize w.alloc (.cells #[.pointer (some ⟨gd, 0, none⟩), .string pre] 163) = wb at hcb hb1 hx ⊢
 go_region_law (go_simp; go_at_call 98; refine (joinOne (w := wb.drew) hx).mono ?_; rintro e w1 ⟨rfl, hq⟩; have hc1 := ((Chg.refl Non wb).drew).quiet hq; have hb2 := hc1.cell hb1 (fun h => h))
 all_goals
  try simp only [List.getElem_toArray, List.getElem_cons_succ, List.getElem_cons_zero, Act.put, List.setIfInBounds_toArray, List.set_cons_zero, List.set_cons_succ]
  go_wp2_with fail
  go_ret
  exact ⟨rfl, hcb.trans0 hc1⟩
/-- the name of the file of pages; of the table's file -/
theorem plFile {w : World} {TD TP G : Nat → Prop} {gd g hand bs bf ba : Nat} {pre : ByteArray} {S : DSt} {sl : Slots} {sf : List (Int × Int)} {at_ : Ats} {cl h1 h2 h3 : Int} (h : PoolM w TD TP G gd g pre hand S sl sf at_ bs bf ba cl h1 h2 h3) :
  Calls Tryz.prog 121 #[.pointer (some ⟨g, 0, none⟩)] w fun e w' => e = .returned (.string (nfB pre)) ∧ Chg Non w w' := by
 have k0 : w.cell? ⟨g, 0, none⟩ = some (.pointer (some ⟨gd, 0, none⟩)) := h.blk.cell 0
 have k1 : w.cell? ⟨g, 1, none⟩ = some (.string pre) := h.blk.cell 1
 have hcb := (Chg.refl Non w).alloc (.cells #[.string ⟨#[112, 97, 103, 101, 115]⟩] 9)
 have hp := plPath (w := w.alloc (.cells #[.string ⟨#[112, 97, 103, 101, 115]⟩] 9)) (b := w.heap.size) (gd := gd) (pre := pre) (x := ⟨#[112, 97, 103, 101, 115]⟩) (by have := h.pre; rw [show (⟨#[112, 97, 103, 101, 115]⟩ : ByteArray).size = 5 from rfl]; omega) ((Blk.new w 9 #[.string ⟨#[112, 97, 103, 101, 115]⟩]).cell 0)
 clear h
 go_enter Tryz.func121, Tryz.ntmps121
 go_wp2_with fail
 refine hp.mono ?_
 rintro e w1 ⟨rfl, hc1⟩
 clear hp
 go_wp2_with fail
 go_ret
 exact ⟨rfl, hcb.trans0 hc1⟩
theorem plMeta {w : World} {TD TP G : Nat → Prop} {gd g hand bs bf ba : Nat} {pre : ByteArray} {S : DSt} {sl : Slots} {sf : List (Int × Int)} {at_ : Ats} {cl h1 h2 h3 : Int} (h : PoolM w TD TP G gd g pre hand S sl sf at_ bs bf ba cl h1 h2 h3) :
  Calls Tryz.prog 84 #[.pointer (some ⟨g, 0, none⟩)] w fun e w' => e = .returned (.string (nmB pre)) ∧ Chg Non w w' := by
 have k0 : w.cell? ⟨g, 0, none⟩ = some (.pointer (some ⟨gd, 0, none⟩)) := h.blk.cell 0
 have k1 : w.cell? ⟨g, 1, none⟩ = some (.string pre) := h.blk.cell 1
 have hcb := (Chg.refl Non w).alloc (.cells #[.string ⟨#[109, 101, 116, 97]⟩] 9)
 have hp := plPath (w := w.alloc (.cells #[.string ⟨#[109, 101, 116, 97]⟩] 9)) (b := w.heap.size) (gd := gd) (pre := pre) (x := ⟨#[109, 101, 116, 97]⟩) (by have := h.pre; rw [show (⟨#[109, 101, 116, 97]⟩ : ByteArray).size = 4 from rfl]; omega) ((Blk.new w 9 #[.string ⟨#[109, 101, 116, 97]⟩]).cell 0)
 clear h
 go_enter Tryz.func84, Tryz.ntmps84
 go_wp2_with fail
 refine hp.mono ?_
 rintro e w1 ⟨rfl, hc1⟩
 clear hp
 go_wp2_with fail
 go_ret
 exact ⟨rfl, hcb.trans0 hc1⟩
theorem plHas {w : World} {TD TP G : Nat → Prop} {gd g hand bs bf ba : Nat} {pre : ByteArray} {S : DSt} {sl : Slots} {sf : List (Int × Int)} {at_ : Ats} {cl h1 h2 h3 : Int} (h : PoolM w TD TP G gd g pre hand S sl sf at_ bs bf ba cl h1 h2 h3) {i : Nat} (hi : i ≤ 1000000000) :
  Calls Tryz.prog 122 #[.pointer (some ⟨g, 0, none⟩), .int .i64 (i : Int)] w fun e w' => e = .returned (.bool (aGet klI sl i).isSome) ∧ w' = w := by
 have k3 : w.cell? ⟨g, 3, none⟩ = some (.map (some bs)) := h.blk.cell 3
 have hl := (lookZ h.ms (keyOf_i hi)).2
 clear h
 go_enter Tryz.func122, Tryz.ntmps122
 go_wp2_with fail
 go_ret
 exact ⟨rfl, rfl⟩

section
variable {w w' : World} {TD TP G : Nat → Prop} {gd g hand bs bf ba : Nat} {pre : ByteArray} {S : DSt} {sl : Slots} {sf : List (Int × Int)} {at_ : Ats} {cl h1 h2 h3 : Int}
theorem PoolM.neS (h : PoolM w TD TP G gd g pre hand S sl sf at_ bs bf ba cl h1 h2 h3) : g ≠ bs ∧ g ≠ bf ∧ g ≠ ba ∧ ∀ p ∈ at_, p.2.blk ≠ bs ∧ p.2.blk ≠ bf ∧ p.2.blk ≠ ba := by
 refine ⟨fun e => ?_, fun e => ?_, fun e => ?_, fun p hp => ⟨fun e => ?_, fun e => ?_, fun e => ?_⟩⟩
 ·exact ownsMap_cells h.ms (e ▸ h.blk)
 ·exact ownsMap_cells h.mf (e ▸ h.blk)
 ·exact ownsMap_cells h.ma (e ▸ h.blk)
 ·obtain ⟨dv, u, h4, _⟩ := h.fr p hp
  exact ownsMap_cells h.ms (e ▸ h4)
 ·obtain ⟨dv, u, h4, _⟩ := h.fr p hp
  exact ownsMap_cells h.mf (e ▸ h4)
 ·obtain ⟨dv, u, h4, _⟩ := h.fr p hp
  exact ownsMap_cells h.ma (e ▸ h4)
/-- the slots have turned -/
theorem PoolM.turnS (h : PoolM w TD TP G gd g pre hand S sl sf at_ bs bf ba cl h1 h2 h3) (hc : Chg (fun k => k = bs) w w') {sl' : Slots} (hm : w'.ownsMap Tryz.prog 3 RI bs sl'.length (dat klI eZ sl')) : PoolM w' TD TP G gd g pre hand S sl' sf at_ bs bf ba cl h1 h2 h3 := by
 obtain ⟨n1, n2, n3, n4⟩ := h.neS
 exact ⟨h.drv.chg hc (fun b hb e => h.off bs h.tg.2.1 ((show b = bs from e) ▸ hb)), h.blk.chg hc n1, hm, ownsMap_chg h.mf hc (fun e => h.dist.1 e.symm), ownsMap_chg h.ma hc (fun e => h.dist.2.1 e.symm), fun p hp => by
  obtain ⟨dv, u, h4, h5⟩ := h.fr p hp
  exact ⟨dv, u, h4.chg hc (n4 p hp).1, h5.chg hc fun b hb => (h.gG b hb).2.2.1⟩, h.tg, h.tf, h.apart, h.dist, h.gG, fun b hb => Nat.lt_of_lt_of_le (h.lt b hb) hc.size, h.off, h.pre⟩
/-- the pages at hand have turned, but no page's bytes -/
theorem PoolM.turnA (h : PoolM w TD TP G gd g pre hand S sl sf at_ bs bf ba cl h1 h2 h3) (hc : Chg (fun k => k = ba) w w') {at' : Ats} (hm : w'.ownsMap Tryz.prog 3 heldR ba at'.length (dat klI eF at')) (hs : ∀ p ∈ at', p ∈ at_) : PoolM w' TD TP G gd g pre hand S sl sf at' bs bf ba cl h1 h2 h3 := by
 obtain ⟨n1, n2, n3, n4⟩ := h.neS
 exact ⟨h.drv.chg hc (fun b hb e => h.off ba h.tg.2.2.2 ((show b = ba from e) ▸ hb)), h.blk.chg hc n3, ownsMap_chg h.ms hc h.dist.2.1, ownsMap_chg h.mf hc h.dist.2.2, hm, fun p hp => by
  obtain ⟨dv, u, h4, h5⟩ := h.fr p (hs p hp)
  exact ⟨dv, u, h4.chg hc (n4 p (hs p hp)).2.2, h5.chg hc fun b hb => (h.gG b hb).2.2.2.2.1⟩, h.tg, fun p hp => h.tf p (hs p hp), fun p hp q hq => h.apart p (hs p hp) q (hs q hq), h.dist, fun b hb => by
  obtain ⟨a1, a2, a3, a4, a5, a6⟩ := h.gG b hb
  exact ⟨a1, a2, a3, a4, a5, fun p hp => a6 p (hs p hp)⟩, fun b hb => Nat.lt_of_lt_of_le (h.lt b hb) hc.size, h.off, h.pre⟩
/-- the pool's numbers have turned -/
theorem PoolM.turnB (h : PoolM w TD TP G gd g pre hand S sl sf at_ bs bf ba cl h1 h2 h3) (hc : Chg (fun k => k = g) w w') {cl' a1 a2 a3 : Int} (hb : Blk w' g 171 #[.pointer (some ⟨gd, 0, none⟩), .string pre, .int .i64 (hand : Int), .map (some bs), .map (some bf), .map (some ba), .int .i64 cl', .int .i64 a1, .int .i64 a2, .int .i64 a3]) : PoolM w' TD TP G gd g pre hand S sl sf at_ bs bf ba cl' a1 a2 a3 := by
 obtain ⟨n1, n2, n3, n4⟩ := h.neS
 exact ⟨h.drv.chg hc (fun b hb e => h.off g h.tg.1 ((show b = g from e) ▸ hb)), hb, ownsMap_chg h.ms hc (fun e => n1 e.symm), ownsMap_chg h.mf hc (fun e => n2 e.symm), ownsMap_chg h.ma hc (fun e => n3 e.symm), fun p hp => by
  obtain ⟨dv, u, h4, h5⟩ := h.fr p hp
  exact ⟨dv, u, h4.chg hc (h.tf p hp).2, h5.chg hc fun b hb => (h.gG b hb).2.1⟩, h.tg, h.tf, h.apart, h.dist, h.gG, fun b hb => Nat.lt_of_lt_of_le (h.lt b hb) hc.size, h.off, h.pre⟩
theorem put_self {α : Type} {k : Nat} {v : α} : ∀ {l : List (Nat × α)}, Rise l → (k, v) ∈ l → aPut klI k v l = l
 | [], _, h => by simp at h
 | y :: r, hr, h => by
  obtain ⟨r1, r2⟩ := List.pairwise_cons.1 hr
  have hb : ∀ a b : Nat, (klI a).before (klI b) = decide (a < b) := fun a b => by
   show decide ((a : Int) < (b : Int)) = _
   congr 1
   exact propext Int.ofNat_lt
  rcases List.mem_cons.1 h with e | h
  ·subst e
   have e2 : aDel klI k ((k, v) :: r) = r := by
    have e3 : aDel klI k ((k, v) :: r) = aDel klI k r := by
     unfold aDel
     rw [List.filter_cons, if_neg (by rw [(keyI.same k k).2 rfl]; simp)]
    rw [e3, del_none keyI fun p hp => Nat.ne_of_gt (r1 p hp)]
   unfold aPut
   rw [e2]
   cases r with
   | nil => rfl
   | cons z t =>
    unfold aIns
    rw [hb, if_pos (decide_eq_true (r1 z (by simp)))]
  ·have hlt : y.1 < k := r1 _ h
   have ih := put_self r2 h
   unfold aPut at ih ⊢
   have e3 : aDel klI k (y :: r) = y :: aDel klI k r := by
    unfold aDel
    rw [List.filter_cons, if_pos (by rw [keyI.ne (Nat.ne_of_lt hlt)]; rfl)]
   rw [e3]
   unfold aIns
   rw [hb, if_neg (by simp; omega), ih]
theorem dat_turn {at_ : Ats} (hr : Rise at_) {i : Nat} {f f' : Fr} (hf : (i, f) ∈ at_) (hb : f'.blk = f.blk) : dat klI eF (aPut klI i f' at_) = dat klI eF at_ := by
 rw [← dat_put, show (eF f' : DataW Value) = eF f by unfold eF; rw [hb], dat_put, put_self hr hf]
/-- one page at hand has turned: its bytes, whether they are only here, when it was used; its block is what it was -/
theorem PoolM.turnF (h : PoolM w TD TP G gd g pre hand S sl sf at_ bs bf ba cl h1 h2 h3) {i : Nat} {f : Fr} (hr : Rise at_) (hf : (i, f) ∈ at_) (hc : Chg (fun k => k = f.blk) w w') {dv : Value} {u : Int} {dt : List UInt8} {dirty : Bool} {G' TP' : Nat → Prop} (hb : Blk w' f.blk 281 #[dv, .bool dirty, .int .i64 u]) (hd : RdB w' G' dv dt)
  (hG : ∀ b, G' b → TP' b ∧ b ≠ g ∧ b ≠ bs ∧ b ≠ bf ∧ b ≠ ba ∧ ∀ p ∈ at_, b ≠ p.2.blk) (hT : ∀ b, TP b → TP' b) (hlt : ∀ b, TP' b → b < w'.heap.size) (hoff : ∀ b, TP' b → ¬ TD b) :
  PoolM w' TD TP' (fun b => G b ∨ G' b) gd g pre hand S sl sf (aPut klI i ⟨f.blk, dt, dirty⟩ at_) bs bf ba cl h1 h2 h3 := by
 obtain ⟨n1, n2, n3, n4⟩ := h.neS
 have hne := h.tf _ hf
 have n5 := n4 _ hf
 have hm := ownsMap_chg h.ma hc (fun e => n5.2.2 e.symm)
 have hlen : (aPut klI i ⟨f.blk, dt, dirty⟩ at_).length = at_.length := length_put_has keyI hr.once hf _
 have hmem : ∀ p, p ∈ aPut klI i ⟨f.blk, dt, dirty⟩ at_ → p = (i, ⟨f.blk, dt, dirty⟩) ∨ (p ∈ at_ ∧ p.1 ≠ i) := fun p hp => (mem_put keyI).1 hp
 refine ⟨h.drv.chg hc (fun b hb e => h.off f.blk hne.1 ((show b = f.blk from e) ▸ hb)), h.blk.chg hc (fun e => hne.2 e.symm), ownsMap_chg h.ms hc (fun e => n5.1 e.symm), ownsMap_chg h.mf hc (fun e => n5.2.1 e.symm), ?_, fun p hp => ?_, ⟨hT _ h.tg.1, hT _ h.tg.2.1, hT _ h.tg.2.2.1, hT _ h.tg.2.2.2⟩, fun p hp => ?_, fun p hp q hq e => ?_, h.dist, fun b hb => ?_, hlt, hoff, h.pre⟩
 ·rw [dat_turn hr hf (f' := ⟨f.blk, dt, dirty⟩) rfl, hlen]; exact hm
 ·rcases hmem p hp with rfl | ⟨hp, hne'⟩
  ·exact ⟨dv, u, hb, hd.mono fun b hb => .inr hb⟩
  ·obtain ⟨dv', u', h4, h5⟩ := h.fr p hp
   have hbk : p.2.blk ≠ f.blk := fun e => hne' (congrArg Prod.fst (h.apart p hp _ hf e))
   exact ⟨dv', u', h4.chg hc hbk, (h5.chg hc fun b hb e => (h.gG b hb).2.2.2.2.2 _ hf e).mono fun b hb => .inl hb⟩
 ·rcases hmem p hp with rfl | ⟨hp, _⟩
  ·exact ⟨hT _ hne.1, hne.2⟩
  ·exact ⟨hT _ (h.tf p hp).1, (h.tf p hp).2⟩
 ·rcases hmem p hp with rfl | ⟨hp, hp'⟩
  ·rcases hmem q hq with rfl | ⟨hq, hq'⟩
   ·rfl
   ·exact absurd (congrArg Prod.fst (h.apart _ hf q hq e)) (Ne.symm hq')
  ·rcases hmem q hq with rfl | ⟨hq, hq'⟩
   ·exact absurd (congrArg Prod.fst (h.apart p hp _ hf e)) hp'
   ·exact h.apart p hp q hq e
 ·have hold : ∀ c, (∀ p ∈ at_, c ≠ p.2.blk) → ∀ p ∈ aPut klI i ⟨f.blk, dt, dirty⟩ at_, c ≠ p.2.blk := fun c hc p hp => by
   rcases hmem p hp with rfl | ⟨hp, _⟩
   ·exact hc (i, f) hf
   ·exact hc p hp
  rcases hb with hb | hb
  ·obtain ⟨a1, a2, a3, a4, a5, a6⟩ := h.gG b hb
   exact ⟨hT _ a1, a2, a3, a4, a5, hold b a6⟩
  ·obtain ⟨a1, a2, a3, a4, a5, a6⟩ := hG b hb
   exact ⟨a1, a2, a3, a4, a5, hold b a6⟩
end
set_option maxHeartbeats 1000000 in
theorem plAlloc {w : World} {TD TP G : Nat → Prop} {gd g hand bs bf ba : Nat} {pre : ByteArray} {S : DSt} {sl : Slots} {sf : List (Int × Int)} {at_ : Ats} {cl h1 h2 h3 : Int} (h : PoolM w TD TP G gd g pre hand S sl sf at_ bs bf ba cl h1 h2 h3) (hn : sl.length < 65536) (hr : Rise sl) :
  Calls Tryz.prog 86 #[.pointer (some ⟨g, 0, none⟩)] w fun e w' => ∃ i : Nat, e = .returned (.tuple #[.int .i64 (i : Int), .int .i64 0]) ∧ (∀ p ∈ sl, p.1 ≠ i) ∧ i < 65536 ∧ (∀ j, j < i → ∃ p ∈ sl, p.1 = j) ∧ PoolM w' TD TP G gd g pre hand S (aPut klI i (-1) sl) sf at_ bs bf ba cl h1 h2 h3 ∧ Chg (fun k => k = bs) w w' := by
 have k3 : w.cell? ⟨g, 3, none⟩ = some (.map (some bs)) := h.blk.cell 3
 have hl0 := World.ownsMap.len h.ms Tryz.underlying164 3
 rw [dat_size] at hl0
 have hhas := fun {i : Nat} (hi : i ≤ 1000000000) => plHas h hi
 have hge : decide ((65536 : Int) ≤ (sl.length : Int)) = false := decide_eq_false (by omega)
 have hge2 : ¬ 65536 ≤ sl.length := by omega
 have HP := hide h
 have HR := hide hr
 have hms := h.ms
 have HM := hide hms
 clear h hr hms
 go_enter Tryz.func86, Tryz.ntmps86
 go_wp2_with fail
 go_loopw [4] (fun iv wr => ∃ i : Nat, iv = .int .i64 (i : Int) ∧ i ≤ sl.length ∧ Hid (∀ j, j < i → ∃ p ∈ sl, p.1 = j) ∧ wr = w) (fun iv _ => sl.length + 1 - (intOf iv).toNat)
 case atStart => exact ⟨0, rfl, Nat.zero_le _, hide (fun j hj => absurd hj (Nat.not_lt_zero _)), rfl⟩
 case round =>
  obtain ⟨i, rfl, hi, hall, hw⟩ := hrel
  subst wr
  have hh := hhas (i := i) (by omega)
  cases hg : aGet klI sl i with
  | some s0 =>
   rw [hg] at hh
   have hall2 := hide (show ∀ j, j < i + 1 → ∃ p ∈ sl, p.1 = j from fun j hj => by
    by_cases e : j = i
    ·subst e; exact ⟨_, get_mem keyI hg, rfl⟩
    ·exact hall.out j (by omega))
   have hi2 : i + 1 ≤ sl.length := by
    have := pigeon (i + 1) (sl.map fun p => (p.1 : Int)) fun t ht => by
     obtain ⟨p, hp, e⟩ := hall2.out t ht
     exact List.mem_map.2 ⟨p, hp, by rw [e]⟩
    simpa using this
   have hwr : IntKind.i64.wrap ((i : Int) + 1) = (i : Int) + 1 := IntWalk.i64_in _ (by omega)
   clear hhas hg
   go_wp2_with fail
   refine hh.mono ?_
   rintro e w1 ⟨rfl, hw⟩
   subst w1
   clear hh
   go_wp2_with fail
   go_round
   case rel => exact ⟨i + 1, by go_num, hi2, hall2, trivial⟩
   case measure => simp [intOf]; omega
  | none =>
   rw [hg] at hh
   have hno := hide ((get_none_iff keyI HR.out.once).1 hg)
   have hmx : sl.length < maxLen := by unfold maxLen; omega
   have hmm := HM.out
   have hkey := keyOf_i (i := i) (by omega)
   clear hhas hg
   go_wp2_with fail
   refine hh.mono ?_
   rintro e w1 ⟨rfl, hw⟩
   subst w1
   clear hh
   go_wp2_with (at_mapUpdate; refine wpList_mapUpdate_own _ rfl _ _ _ 164 rfl 3 3 keyN Tryz.underlying164 RI bs sl.length _ rfl hmm hmx _ _ (klI i) rfl rfl hkey (eZ (-1)) [] (plainElem_int Tryz.underlying3 (by decide)) ?_; intro w5 hm5 hg5)
   go_ret2
   have hc5 : Chg (fun k => k = bs) w w5 := (Chg.of_grown hg5).mono fun b _ e => by injection e
   exact ⟨i, rfl, hno.out, by omega, hall.out, HP.out.turnS hc5 (putZ hm5), hc5⟩

set_option maxHeartbeats 1000000 in
theorem plFree {w : World} {TD TP G : Nat → Prop} {gd g hand bs bf ba : Nat} {pre : ByteArray} {S : DSt} {sl : Slots} {sf : List (Int × Int)} {at_ : Ats} {cl h1 h2 h3 : Int} (h : PoolM w TD TP G gd g pre hand S sl sf at_ bs bf ba cl h1 h2 h3) {i : Nat} (hi : i ≤ 1000000000) (hin : ∃ p ∈ sl, p.1 = i) (hr : Rise sl) :
  Calls Tryz.prog 127 #[.pointer (some ⟨g, 0, none⟩), .int .i64 (i : Int)] w fun e w' => e = .returned (.int .i64 0) ∧ PoolM w' TD TP G gd g pre hand S (aDel klI i sl) sf (aDel klI i at_) bs bf ba cl h1 h2 h3 ∧ Chg (fun k => k = bs ∨ k = ba) w w' := by
 have k3 : w.cell? ⟨g, 3, none⟩ = some (.map (some bs)) := h.blk.cell 3
 have hh := plHas h hi
 have hsome : (aGet klI sl i).isSome = true := by
  obtain ⟨p, hp, rfl⟩ := hin
  rw [mem_get keyI hr.once (k := p.1) (v := p.2) hp]; rfl
 rw [hsome] at hh
 have hkey := keyOf_i hi
 have hms := h.ms
 have HP := hide h
 clear h hin hsome
 go_enter Tryz.func127, Tryz.ntmps127
 go_wp2_with fail
 refine hh.mono ?_
 rintro e w1 ⟨rfl, hw⟩
 subst w1
 clear hh
 go_upto_region 4 with (at_delete; refine wpList_delete_own _ rfl _ _ 164 3 rfl 3 keyN Tryz.underlying164 RI bs sl.length _ rfl hms _ (klI i) rfl hkey ?_; intro w2 hm2 ht2)
 have hc2 : Chg (fun k => k = bs) w w2 := (Chg.of_grown ht2.grown).mono fun b _ e => by injection e
 have h2 := HP.out.turnS hc2 (delZ hm2)
 have k5 : w2.cell? ⟨g, 5, none⟩ = some (.map (some ba)) := h2.blk.cell 5
 have hma := h2.ma
 have HP2 := hide h2
 clear hms k3 h2 hm2 ht2
 go_wp2_with (at_delete; refine wpList_delete_own _ rfl _ _ 165 3 rfl 279 keyN Tryz.underlying165 heldR ba at_.length _ rfl hma _ (klI i) rfl hkey ?_; intro w3 hm3 ht3)
 have hc3 : Chg (fun k => k = ba) w2 w3 := (Chg.of_grown ht3.grown).mono fun b _ e => by injection e
 go_ret
 exact ⟨rfl, HP2.out.turnA hc3 (delZ hm3) (fun p hp => ((mem_del keyI).1 hp).1), (hc2.mono fun _ _ e => .inl e).trans hc3 fun _ _ e => .inr e⟩

theorem plTouch {w : World} {TD TP G : Nat → Prop} {gd g hand bs bf ba : Nat} {pre : ByteArray} {S : DSt} {sl : Slots} {sf : List (Int × Int)} {at_ : Ats} {cl h1 h2 h3 : Int} (h : PoolM w TD TP G gd g pre hand S sl sf at_ bs bf ba cl h1 h2 h3) {i : Nat} {f : Fr} (hr : Rise at_) (hf : (i, f) ∈ at_) :
  Calls Tryz.prog 185 #[.pointer (some ⟨g, 0, none⟩), .pointer (some ⟨f.blk, 0, none⟩)] w fun e w' => e = .returned (.tuple #[]) ∧ (∃ cl' G', PoolM w' TD TP G' gd g pre hand S sl sf at_ bs bf ba cl' h1 h2 h3) ∧ Chg (fun k => k = g ∨ k = f.blk) w w' := by
 have k6 : w.cell? ⟨g, 6, none⟩ = some (.int .i64 cl) := h.blk.cell 6
 have z6 := h.blk.frozen 6
 obtain ⟨dv, u, hb, hd⟩ := h.fr _ hf
 have hne := h.tf _ hf
 obtain ⟨cl', hcl⟩ : ∃ cl', cl' = IntKind.i64.wrap (cl + 1) := ⟨_, rfl⟩
 have hc1 : Chg (fun k => k = g) w (w.setCell ⟨g, 6, none⟩ (.int .i64 cl')) := Chg.setCell (p := ⟨g, 6, none⟩) (Chg.refl (fun k => k = g) w) (fun _ => rfl) _
 have hb1 := h.blk.set_ 6 (.int .i64 cl')
 simp at hb1
 have h1' := h.turnB hc1 hb1
 have hfb := hb.chg hc1 hne.2
 have j2 := hfb.cell 2
 have z2 := hfb.frozen 2
 have hc2 : Chg (fun k => k = f.blk) (w.setCell ⟨g, 6, none⟩ (.int .i64 cl')) ((w.setCell ⟨g, 6, none⟩ (.int .i64 cl')).setCell ⟨f.blk, 2, none⟩ (.int .i64 cl')) := Chg.setCell (p := ⟨f.blk, 2, none⟩) (Chg.refl (fun k => k = f.blk) _) (fun _ => rfl) _
 have hb2 := hfb.set_ 2 (.int .i64 cl')
 simp at hb2
 have hd2 := (hd.chg hc1 fun b hb e => (h.gG b hb).2.1 e).chg hc2 fun b hb e => (h.gG b hb).2.2.2.2.2 _ hf e
 have hfin := h1'.turnF hr hf hc2 hb2 hd2 h1'.gG (fun b hb => hb) (fun b hb => Nat.lt_of_lt_of_le (h1'.lt b hb) hc2.size) h1'.off
 rw [show (⟨f.blk, f.data, f.dirty⟩ : Fr) = f from rfl, put_self hr hf] at hfin
 have HF := hide hfin
 have HC := hide ((hc1.mono (S' := fun k => k = g ∨ k = f.blk) fun _ _ e => .inl e).trans hc2 fun _ _ e => .inr e)
 have hcl2 := hcl.symm
 clear h h1' hb1 hfb hb2 hd2 hfin hb hd hc1 hc2 hcl
 go_enter Tryz.func185, Tryz.ntmps185
 go_wp2_with fail
 exact bodyPost_end (results_none rfl _ _ _) rfl ⟨rfl, ⟨_, _, HF.out⟩, HC.out⟩
end Go.Proofs.YtliimeoblffigaaGreat

set_option maxRecDepth 100000
namespace Go.Proofs.YtliimeoblffigaaGreat
open Go.RowKit Go.Maps
set_option linter.unusedVariables false

theorem nilm_eqI (w : World) (r : Option Nat) : (binOp .eql 164 (.map r) (.map none)).run Tryz.prog w = .ok (.bool r.isNone) w := run_eql_map_nil w _ _ _ r Tryz.underlying164
theorem cloneI {w : World} {B n : Nat} {D : DataW Value} (h : w.ownsMap Tryz.prog 3 RI B n D) : Calls Tryz.prog 243 #[.map (some B)] w fun e w' => e = .returned (.map (some w.heap.size)) ∧ w'.ownsMap Tryz.prog 3 RI w.heap.size n D ∧ Chg Non w w' := by
 have hq := nilm_eqI
 obtain ⟨es, clock, hb, F, hs, hD⟩ := h
 have HF := hide F
 have HD := hide hD
 clear F hD
 go_enter Tryz.func243, Tryz.ntmps243
 go_wp2_with fail
 rw [run_callFunc_extern Tryz.func246 (by kernel_rfl) (by kernel_rfl) (by kernel_rfl) (e := Extern.MapsClone.clone) (by kernel_rfl), run_maps_clone_sl w 164 hb]
 simp only [Result.andThen]
 rw [Oper.upon_value]
 go_wp2_with fail
 rw [run_typeAssert_map_sl _ 164 20 _ _ _ Tryz.underlying164]
 simp only [Result.andThen]
 rw [Oper.upon_value]
 go_wp2_with fail
 go_ret
 exact ⟨rfl, ⟨es, clock, (MapKept.heap_alloc w _).1, HF.out, hs, HD.out⟩, (Chg.refl Non w).alloc _⟩

/-- how often each slot is needed: those of the table, and those of the pages -/
structure SafeM (sf : List (Int × Int)) (tab : Slots) : Prop where
 once : Once sf
 pos : ∀ s : Int, (∃ c, (s, c) ∈ sf ∧ 0 < c) ↔ ∃ p ∈ tab, p.2 = s
 lo : ∀ p ∈ sf, 0 ≤ p.2 ∧ p.2 ≤ 1000000 ∧ -1 ≤ p.1
 len : sf.length ≤ 1000000

theorem keyOf_zinv {v : Value} {kl : Lit} (h : keyOf Tryz.prog 3 v = some kl) : ∃ x : Int, v = .int .i64 x ∧ kl = klZ x := by
 obtain ⟨x, e1, e2, _⟩ := Maps.keyOf_int_inv Tryz.underlying3 h
 exact ⟨x, e1, e2⟩

/-- what has been counted so far of the slots -/
structure Taken (sl tab : Slots) (left : Lit → Bool) (cnt : Nat) (tk : List (Int × Int)) : Prop where
 once : Once tk
 lo : ∀ p ∈ tk, 0 ≤ p.2 ∧ p.2 + (cnt : Int) ≤ 1000000 + (sl.length : Int) ∧ -1 ≤ p.1
 len : tk.length + cnt ≤ 1000000 + sl.length
 pos : ∀ s : Int, (∃ c, (s, c) ∈ tk ∧ 0 < c) ↔ (∃ p ∈ tab, p.2 = s) ∨ ∃ p ∈ sl, left (klI p.1) = false ∧ p.2 = s
theorem Taken.get {sl tab : Slots} {left : Lit → Bool} {cnt : Nat} {tk : List (Int × Int)} (h : Taken sl tab left cnt tk) (s : Int) : 0 ≤ (aGet klZ tk s).getD 0 ∧ (aGet klZ tk s).getD 0 ≤ 1000000 + (sl.length : Int) - (if (aGet klZ tk s).isSome = true then (cnt : Int) else 0) := by
 cases e : aGet klZ tk s with
 | none => simp; omega
 | some c =>
  obtain ⟨h1, h2, _⟩ := h.lo _ (get_mem keyZ e)
  simp only [Option.getD_some, Option.isSome_some, if_true]
  exact ⟨h1, by omega⟩
theorem Taken.step {sl tab : Slots} {left : Lit → Bool} {cnt cnt' : Nat} {tk : List (Int × Int)} (h : Taken sl tab left cnt tk) (hr : Rise sl) {p : Nat × Int} (hp : p ∈ sl) (hlo : -1 ≤ p.2) (hc : cnt' < cnt) (hcs : cnt ≤ sl.length) :
  Taken sl tab (fun z => left z && !z.sameKey (klI p.1)) cnt' (aPut klZ p.2 ((aGet klZ tk p.2).getD 0 + 1) tk) := by
 have hg := h.get p.2
 have hleft : ∀ q ∈ sl, (left (klI q.1) && !(klI q.1).sameKey (klI p.1)) = false ↔ left (klI q.1) = false ∨ q = p := fun q hq => by
  by_cases e : q.1 = p.1
  ·have e2 : q = p := by
    have h1 := mem_get keyI hr.once (k := q.1) (v := q.2) hq
    have h2 := mem_get keyI hr.once (k := p.1) (v := p.2) hp
    rw [e, h2] at h1
    injection h1 with h1
    exact Prod.ext e h1.symm
   rw [e2, (keyI.same _ _).2 rfl]
   simp
  ·rw [keyI.ne e]
   simp only [Bool.not_false, Bool.and_true]
   exact ⟨.inl, fun h => h.elim id fun e2 => absurd (congrArg Prod.fst e2) e⟩
 refine ⟨h.once.put keyZ _ _, fun q hq => ?_, ?_, fun s => ?_⟩
 ·rcases (mem_put keyZ).1 hq with rfl | ⟨hq, _⟩
  ·refine ⟨by show 0 ≤ _ + 1; omega, ?_, hlo⟩
   show (aGet klZ tk p.2).getD 0 + 1 + (cnt' : Int) ≤ _
   split at hg
   ·omega
   ·rename_i hz
    have : (aGet klZ tk p.2).getD 0 = 0 := by cases e : aGet klZ tk p.2 with
     | none => rfl
     | some c => rw [e] at hz; simp at hz
    omega
  ·obtain ⟨a, b, c⟩ := h.lo q hq
   exact ⟨a, by omega, c⟩
 ·have := length_put_le (kl := klZ) p.2 ((aGet klZ tk p.2).getD 0 + 1) tk
  have := h.len
  omega
 ·constructor
  ·rintro ⟨c, hm, hc⟩
   rcases (mem_put keyZ).1 hm with e | ⟨hm, _⟩
   ·injection e with e1 e2
    exact .inr ⟨p, hp, (hleft p hp).2 (.inr rfl), e1.symm⟩
   ·rcases (h.pos s).1 ⟨c, hm, hc⟩ with h1 | ⟨q, hq, hl, e⟩
    ·exact .inl h1
    ·exact .inr ⟨q, hq, (hleft q hq).2 (.inl hl), e⟩
  ·intro hx
   by_cases e : s = p.2
   ·exact ⟨_, (mem_put keyZ).2 (.inl (by rw [e])), by omega⟩
   ·have : ∃ c, (s, c) ∈ tk ∧ 0 < c := (h.pos s).2 (by
     rcases hx with h1 | ⟨q, hq, hl, e2⟩
     ·exact .inl h1
     ·rcases (hleft q hq).1 hl with hl | e3
      ·exact .inr ⟨q, hq, hl, e2⟩
      ·rw [e3] at e2; exact absurd e2.symm e)
    obtain ⟨c, hm, hc⟩ := this
    exact ⟨c, (mem_put keyZ).2 (.inr ⟨hm, e⟩), hc⟩

set_option maxHeartbeats 2000000 in
theorem plFreeSlot {w : World} {TD TP G : Nat → Prop} {gd g hand bs bf ba : Nat} {pre : ByteArray} {S : DSt} {sl tab : Slots} {sf : List (Int × Int)} {at_ : Ats} {cl h1 h2 h3 : Int} (h : PoolM w TD TP G gd g pre hand S sl sf at_ bs bf ba cl h1 h2 h3) (hs : SafeM sf tab) (hr : Rise sl) (hlo : ∀ p ∈ sl, -1 ≤ p.2 ∧ p.2 ≤ 1000000) (hn : sl.length ≤ 65536) (ht : tab.length ≤ 65536) :
  Calls Tryz.prog 238 #[.pointer (some ⟨g, 0, none⟩)] w fun e w' => ∃ s : Nat, e = .returned (.int .i64 (s : Int)) ∧ FreeS sl tab s ∧ Chg Non w w' := by
 have k3 : w.cell? ⟨g, 3, none⟩ = some (.map (some bs)) := h.blk.cell 3
 have k4 : w.cell? ⟨g, 4, none⟩ = some (.map (some bf)) := h.blk.cell 4
 have hcl := cloneI h.mf
 have hms := h.ms
 have HS := hide hs
 have HR := hide hr
 have HLO := hide hlo
 have HMS := hide hms
 have hbs := hms.lt
 clear h hs hr hlo hms
 go_enter Tryz.func238, Tryz.ntmps238
 go_wp2_with fail
 refine hcl.mono ?_
 rintro e w1 ⟨rfl, hmt, hc1⟩
 have n1 := hc1.size
 have hbt1 := hmt.lt
 obtain ⟨bt, hbt⟩ : ∃ bt, bt = w.heap.size := ⟨_, rfl⟩
 rw [← hbt] at hmt hbt1 ⊢
 have hbsbt : bs < bt := by omega
 have HBT := hide hbt
 have k3' := hc1.cell k3 (fun h => h)
 have hms1 := ownsMap_chg HMS.out hc1 (fun h => h)
 clear hcl hbt k4
 go_wp2_with (at_range; refine wpList_range_own _ rfl _ 164 rfl 3 3 keyN Tryz.underlying164 RI bs sl.length _ rfl hms1 ?_; intro w2 hrg0 hg0 hs0)
 go_frame
 have hc2 : Chg Non w1 w2 := (Chg.of_grown hg0).mono fun b _ e => by cases e
 have hmt2 := ownsMap_chg hmt hc2 (fun h => h)
 have hT0 : Hid (Taken sl tab (Maps.has (dat klI eZ sl)) sl.length sf) := hide ⟨HS.out.once, fun p hp => by
  obtain ⟨a, b, c⟩ := HS.out.lo p hp
  exact ⟨a, by omega, c⟩, by have := HS.out.len; omega, fun s => by
  rw [HS.out.pos s]
  constructor
  ·exact .inl
  ·rintro (h | ⟨p, hp, hl, _⟩)
   ·exact h
   ·rw [dat_has, mem_get keyI HR.out.once (k := p.1) (v := p.2) hp] at hl; cases hl⟩
 rw [dat_size] at hrg0
 clear hms1 hmt
 go_loopw [5] (fun _ wr => ∃ (left : Lit → Bool) (cnt : Nat) (tk : List (Int × Int)), wr.ranges Tryz.prog 3 RI bs w1.heap.size sl.length (dat klI eZ sl) left cnt ∧ wr.ownsMap Tryz.prog 3 RI bt tk.length (dat klZ eZ tk) ∧ Hid (Taken sl tab left cnt tk) ∧ Hid (∀ z, left z = true → Maps.has (dat klI eZ sl) z = true) ∧ cnt ≤ sl.length ∧ Chg Non w wr) (fun _ wr => wr.rangeLeft bs w1.heap.size)
 case atStart => exact ⟨_, _, sf, hrg0, hmt2, hT0, hide fun z hz => hz, Nat.le_refl _, hc1.trans0 hc2⟩
 case round =>
  clear hrg0 hg0 hs0 hmt2 hT0 hc2
  obtain ⟨left, cnt, tk, hrg, hmt, hT, hsub, hcn, hcw⟩ := hrel
  have hrl := hrg.lt
  go_wp2_with (at_next; refine wpList_next_ranges_ii _ rfl _ rfl 3 3 .i64 .i64 keyN Tryz.underlying3 Tryz.underlying3 bs w1.heap.size sl.length _ _ _ rfl hrg ?_ ?_)
  ·intro hn0 hl0
   have hpos : Hid (∀ s : Int, (∃ c, (s, c) ∈ tk ∧ 0 < c) ↔ (∃ p ∈ sl, p.2 = s) ∨ ∃ p ∈ tab, p.2 = s) := hide fun s => by
    rw [hT.out.pos s]
    constructor
    ·rintro (h | ⟨p, hp, _, e⟩)
     ·exact .inr h
     ·exact .inl ⟨p, hp, e⟩
    ·rintro (⟨p, hp, e⟩ | h)
     ·exact .inr ⟨p, hp, hl0 _, e⟩
     ·exact .inl h
   obtain ⟨w3, rfl⟩ : ∃ w', w' = wr := ⟨_, rfl⟩
   clear hrg hl0 hrl
   go_wp2_with fail
   go_loopw [6] (fun sv wr => ∃ s : Nat, sv = .int .i64 (s : Int) ∧ s ≤ 200000 ∧ Hid (∀ t, t < s → (∃ p ∈ sl, p.2 = (t : Int)) ∨ ∃ p ∈ tab, p.2 = (t : Int)) ∧ wr = w3) (fun sv _ => 200001 - (intOf sv).toNat)
   case atStart => exact ⟨0, rfl, by omega, hide (fun t ht => absurd ht (Nat.not_lt_zero _)), rfl⟩
   case round =>
    obtain ⟨s, rfl, hs, hall, hw⟩ := hrel
    subst wr
    have hlk := (lookZ hmt (keyOf_z (i := (s : Int)) (by omega) (by omega))).1
    by_cases hp : 0 < (aGet klZ tk (s : Int)).getD 0
    ·have hin := (hpos.out (s : Int)).1 (by
      cases e : aGet klZ tk (s : Int) with
      | none => rw [e] at hp; simp at hp
      | some c => rw [e] at hp; exact ⟨c, get_mem keyZ e, hp⟩)
     have hall2 := hide (show ∀ t, t < s + 1 → (∃ p ∈ sl, p.2 = (t : Int)) ∨ ∃ p ∈ tab, p.2 = (t : Int) from fun t ht => by
      by_cases e : t = s
      ·subst e; exact hin
      ·exact hall.out t (by omega))
     have hs2 : s + 1 ≤ 200000 := by
      have := pigeon (s + 1) (sl.map (·.2) ++ tab.map (·.2)) fun t ht => by
       rw [List.mem_append, List.mem_map, List.mem_map]
       exact hall2.out t ht
      rw [List.length_append, List.length_map, List.length_map] at this
      omega
     obtain ⟨k0, hk0⟩ : ∃ k0, k0 = (aGet klZ tk (s : Int)).getD 0 := ⟨_, rfl⟩
     rw [← hk0] at hlk hp
     have hd : decide ((0 : Int) < k0) = true := decide_eq_true hp
     have hwr : IntKind.i64.wrap ((s : Int) + 1) = (s : Int) + 1 := IntWalk.i64_in _ (by omega)
     clear hk0 hin
     go_wp2_with fail
     go_round
     case rel => exact ⟨s + 1, by go_num, hs2, hall2, trivial⟩
     case measure => simp [intOf]; omega
    ·have hfree : Hid (FreeS sl tab s) := hide ⟨fun p hq e => hp (by
      obtain ⟨c, hm, hc⟩ := (hpos.out (s : Int)).2 (.inl ⟨p, hq, e⟩)
      rw [mem_get keyZ hT.out.once hm]; exact hc), fun p hq e => hp (by
      obtain ⟨c, hm, hc⟩ := (hpos.out (s : Int)).2 (.inr ⟨p, hq, e⟩)
      rw [mem_get keyZ hT.out.once hm]; exact hc), hall.out⟩
     obtain ⟨k0, hk0⟩ : ∃ k0, k0 = (aGet klZ tk (s : Int)).getD 0 := ⟨_, rfl⟩
     rw [← hk0] at hlk hp
     have hd : decide ((0 : Int) < k0) = false := decide_eq_false hp
     clear hk0
     go_wp2_with fail
     go_ret
     exact ⟨s, rfl, hfree.out, hcw⟩
  ·intro x c w3 cnt1 hwx hwc hlx hat hrg1 hlt hg1 hs1 hen
   obtain ⟨p, hp, hpk⟩ : ∃ p ∈ sl, klI p.1 = .int .i64 x := by
    have h1 := hsub.out _ hlx
    rw [dat_has_any] at h1
    obtain ⟨p, hp, h2⟩ := List.any_eq_true.1 h1
    exact ⟨p, hp, WideAt.sameKey_eq h2⟩
   have hcp : c = p.2 := by
    have h1 := hat (eZ 0)
    rw [← hpk, dat_at, mem_get keyI HR.out.once (k := p.1) (v := p.2) hp] at h1
    simp only [Option.map_some, Option.getD_some] at h1
    injection h1 with h1
    injection h1 with _ h1
    exact h1.symm
   rw [← hpk] at hrg1
   have hl2 := HLO.out p hp
   have hw3 : Chg Non w w3 := hcw.grown hg1 fun b hb hlt => by injection hb with hb; omega
   have hmt3 := ownsMap_chg hmt (Chg.of_grown hg1) (fun e => by
    injection e with e
    have e : bt = w1.heap.size := e
    omega)
   have hkey := keyOf_z (i := c) (by omega) (by omega)
   have hlk := (lookZ hmt3 hkey).1
   have hgt := hT.out.get c
   have hstep := hT.out.step HR.out hp hl2.1 hlt hcn
   rw [← hcp] at hstep
   obtain ⟨k0, hk0⟩ : ∃ k0, k0 = (aGet klZ tk c).getD 0 := ⟨_, rfl⟩
   rw [← hk0] at hlk hgt hstep
   have hk1 : k0 ≤ 1000000 + (sl.length : Int) := by split at hgt <;> omega
   have hwr : IntKind.i64.wrap (k0 + 1) = k0 + 1 := IntWalk.i64_in _ (by omega)
   have hmx : tk.length < maxLen := by have := hT.out.len; unfold maxLen; omega
   have HST := hide hstep
   have HRG := hide hrg1
   have hle1 := hrg1.left_eq
   have hle2 := hrg.left_eq
   have hwf := wf64 (a := k0 + 1) (by omega) (by omega)
   have HPK := hide hpk
   clear hrg hrg1 hlx hat hgt hstep hk0 hpk hmt hT hcp
   go_wp2_with (at_mapUpdate; refine wpList_mapUpdate_own _ rfl _ _ _ 164 rfl 3 3 keyN Tryz.underlying164 RI bt tk.length _ rfl hmt3 hmx _ _ (klZ c) rfl rfl hkey (eZ (k0 + 1)) [] (plainElem_int Tryz.underlying3 hwf) ?_; intro w5 hm5 hg5)
   have hrg5 := HRG.out.kept hg5 (fun e => by injection e with e; omega) (fun e => by injection e with e; omega)
   have hw5 : Chg Non w w5 := hw3.grown hg5 fun b hb hlt => by injection hb with hb; have := HBT.out; omega
   simp only [Act.put]
   go_roundw
   case rel => exact ⟨_, _, _, hrg5, putZ hm5, HST, hide fun z hz => hsub.out z (by simp only [Bool.and_eq_true] at hz; exact hz.1), by omega, hw5⟩
   case measure =>
    rw [hrg5.left_eq, hle2]
    exact hlt
end Go.Proofs.YtliimeoblffigaaGreat

set_option maxRecDepth 100000
namespace Go.Proofs.YtliimeoblffigaaGreat
set_option linter.unusedVariables false

/-- a pool, well -/
structure PG (pre : ByteArray) (S : DSt) (sl : Slots) (sf : List (Int × Int)) (at_ : Ats) (tab : Slots) (sv : Option (List UInt8 × (Nat → List UInt8))) : Prop where
 inv : PInv ((S.seen (nf pre)).getD []) sl at_ tab
 sf : SafeM sf tab
 dead : S.dead = false
 out : Outside (nf pre) tab S.queue
 seen : S.seen = doneF S.safe S.queue
 nt : (sv ≠ none ∨ tab = []) → S.seen (nt pre) = none
 mt : ((S.seen (nm pre)).getD []).length ≤ 10000000
 bs : BndF S.safe
 hold : ∀ x, sv = some x → Holds (nf pre) (nm pre) x.1 tab x.2 S.safe
/-- a dead drive: what a crash leaves is so -/
structure PDead (pre : ByteArray) (S : DSt) (R : Fls → Prop) : Prop where
 dead : S.dead = true
 bs : BndF S.safe
 dq : ∀ x ∈ S.queue, DeedB (supP pre) x
 un : unitsQ S.queue ≤ 1000000000
 rk : ∀ k, R (crashF S.safe S.queue k)
/-- what was saved last -/
def Last (pre : ByteArray) (tab : Slots) (sv : Option (List UInt8 × (Nat → List UInt8))) (f : Fls) : Prop := ∀ x, sv = some x → Holds (nf pre) (nm pre) x.1 tab x.2 f
theorem unitsQ_out {nf : Nm} {tab : Slots} : ∀ {q : List Deed}, Outside nf tab q → unitsQ q = 513 * q.length
 | [], _ => rfl
 | x :: r, h => by
  obtain ⟨s, d, rfl, hd, _, _⟩ := h x (by simp)
  have ih := unitsQ_out (q := r) fun y hy => h y (by simp [hy])
  have e : unitsQ (Deed.wr nf (s * 512) d :: r) = (d.length + 1) + unitsQ r := by simp [unitsQ, Deed.units]
  rw [e, ih, hd, List.length_cons]
  omega
theorem BndF.done {sup : List Nm} : ∀ {q : List Deed} {f : Fls}, BndF f → (∀ x ∈ q, DeedB sup x) → BndF (doneF f q)
 | [], f, h, _ => h
 | x :: r, f, h, hq => (BndF.done (f := x.all f) (q := r) (h.app (hq x (by simp)) _) fun y hy => hq y (by simp [hy]) : BndF (doneF (x.all f) r))
theorem deedB_out {pre : ByteArray} {tab : Slots} {q : List Deed} (h : Outside (nf pre) tab q) : ∀ x ∈ q, DeedB (supP pre) x := fun x hx => by
 obtain ⟨s, d, rfl, hd, hs, _⟩ := h x hx
 exact ⟨by simp [supP], by rw [hd]; omega⟩
theorem Outside.snoc {nf : Nm} {tab : Slots} {q : List Deed} (h : Outside nf tab q) {s : Nat} {d : List UInt8} (hd : d.length = 512) (hs : s ≤ 131072) (ht : ∀ p ∈ tab, p.2 ≠ (s : Int)) : Outside nf tab (q ++ [.wr nf (s * 512) d]) := fun x hx => by
 rcases List.mem_append.1 hx with hx | hx
 ·exact h x hx
 ·rw [List.mem_singleton.1 hx]; exact ⟨s, d, rfl, hd, hs, ht⟩
section
variable {pre : ByteArray} {S : DSt} {sl tab : Slots} {sf : List (Int × Int)} {at_ : Ats} {sv : Option (List UInt8 × (Nat → List UInt8))}
/-- how much the files are -/
theorem PG.tot (h : PG pre S sl sf at_ tab sv) : totF (supP pre) S.seen ≤ 210000000 := by
 have h1 := h.inv.big
 have h2 := h.mt
 have hb := BndF.done h.bs (deedB_out h.out)
 rw [← h.seen] at hb
 have h3 := hb (Go.Proofs.YtliimeoblffigaaGreat.nt pre)
 rw [totF_P]
 omega
/-- a page is written into its slot -/
theorem PG.wr (h : PG pre S sl sf at_ tab sv) {i s : Nat} {f : Fr} (hf : (i, f) ∈ at_) (G : Good ((S.seen (nf pre)).getD []) sl tab i s) (hq : S.queue.length ≤ 900000) :
  (S.kl = true → PDead pre (S.did (.wr (nf pre) (s * 512) f.data)) (Last pre tab sv)) ∧
  (S.kl = false → PG pre (S.did (.wr (nf pre) (s * 512) f.data)) (aPut klI i (s : Int) sl) sf (aPut klI i ⟨f.blk, f.data, false⟩ at_) tab sv ∧
   ∀ j, cont (((S.did (.wr (nf pre) (s * 512) f.data)).seen (nf pre)).getD []) (aPut klI i (s : Int) sl) (aPut klI i ⟨f.blk, f.data, false⟩ at_) j = cont ((S.seen (nf pre)).getD []) sl at_ j) := by
 have hd := h.inv.len _ hf
 have hout := h.out.snoc hd G.big G.tab
 have hse : (S.did (.wr (nf pre) (s * 512) f.data)).seen = setF S.seen (nf pre) (some (wrL ((S.seen (nf pre)).getD []) (s * 512) f.data)) := Deed.all_wr ..
 have hN := nm3 pre
 refine ⟨fun hk => ⟨hk, h.bs, deedB_out hout, ?_, fun k x hx => hout.crash (h.hold x hx) hN.fm k⟩, fun hk => ?_⟩
 ·show unitsQ (S.queue ++ [_]) ≤ _
  rw [unitsQ_out hout, List.length_append]
  simp only [List.length_cons, List.length_nil]
  omega
 ·obtain ⟨h1, h2⟩ := h.inv.clean hf G
  have e1 : ((S.did (.wr (nf pre) (s * 512) f.data)).seen (nf pre)).getD [] = wrL ((S.seen (nf pre)).getD []) (s * 512) f.data := by rw [hse, setF_same]; rfl
  refine ⟨⟨by rw [e1]; exact h1, h.sf, hk, hout, ?_, ?_, ?_, h.bs, h.hold⟩, fun j => by rw [e1]; exact h2 j⟩
  ·have e2 : (S.did (.wr (nf pre) (s * 512) f.data)).seen = Deed.all (doneF S.safe S.queue) (.wr (nf pre) (s * 512) f.data) := by rw [← h.seen]; rfl
   rw [e2]
   exact (doneF_snoc S.safe S.queue _).symm
  ·intro e; rw [hse, setF_ne _ hN.ft]; exact h.nt e
  ·rw [hse, setF_ne _ hN.fm]; exact h.mt
end
end Go.Proofs.YtliimeoblffigaaGreat

