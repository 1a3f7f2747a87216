/- Orders of a region: a condition on the world is held behind every operation but the last ones, which wait for all loads. -/
import Derived.Test.YtliimeoblffigaaGreatDgAG
import Derived.Deep.RegionHeld
import Derived.Test.YtliimeoblffigaaGreatDgDG
import Derived.Deep.RegionLaw
import Derived.Deep.CutRange
import Derived.Deep.RegionLawGrows
open List renaming getElem_toArray → lz1, getElem_cons_succ → lz2, getElem_cons_zero → lz3, setIfInBounds_toArray → lz4, set_cons_zero → lz5, set_cons_succ → lz6
set_option linter.unusedVariables false
set_option linter.unusedSimpArgs false
set_option maxRecDepth 100000
namespace Go.Proofs.YtliimeoblffigaaGreat
open Go
set_option linter.unusedVariables false

section
variable {P : Program} {ops : Array Oper} {Q : Exit → Act → World → Prop} {md : Region.Mode} {S : World → Prop} {L : Nat}

/-- any order is borne, and S holds behind every operation below number L -/
def AnyT (P : Program) (md : Region.Mode) (ops : Array Oper) (Q : Exit → Act → World → Prop) (S : World → Prop) (L : Nat) : Nat → Array Bool → Act → World → Prop
 | 0 => fun done a w => Region.ready md ops done = [] ∧ Q .normal a w
 | n + 1 => fun done a w => (Region.ready md ops done = [] → Q .normal a w) ∧
   ∀ j, j ∈ Region.ready md ops done → wpOp P ops Q j (fun a1 w1 => (j < L → S w1) ∧ AnyT P md ops Q S L n (done.setIfInBounds j true) a1 w1) a w

theorem AnyT.any : ∀ {n : Nat} {done : Array Bool} {a : Act} {w : World}, AnyT P md ops Q S L n done a w → wpAny P md ops Q n done a w := by
 intro n
 induction n with
 | zero => exact fun h => h
 | succ n ih => exact fun h => ⟨h.1, fun j hj => wpOp_mono (fun _ _ k => ih k.2) (h.2 j hj)⟩

/-- every operation from number L on waits for operation i itself -/
def waitsB (md : Region.Mode) (ops : Array Oper) (L i : Nat) : Bool := (List.range ops.size).all fun j => Nat.blt j L || ((ops[j]?).map fun o => o.after.any fun e => Region.binds md e && e.on == i).getD true

theorem getD_up {l : Array Bool} {j k : Nat} {d : Bool} (h : l.getD k d = true) : (l.setIfInBounds j true).getD k d = true := by
 by_cases e : j = k
 ·subst e
  rcases Nat.lt_or_ge j l.size with h' | h'
  ·simp [h']
  ·simp [Array.getElem?_eq_none h'] at h ⊢; exact .inr h
 ·rw [getD_set_ne d e]; exact h

theorem free_up {l : Array Bool} {i j : Nat} (h : Region.free md ops l i = true) : Region.free md ops (l.setIfInBounds j true) i = true := by
 unfold Region.free at *
 cases ho : ops[i]? with
 | none => rw [ho] at h; cases h
 | some oi =>
  rw [ho] at h
  simp only [List.all_eq_true, List.mem_range] at h ⊢
  intro k hk
  have := h k hk
  simp only [Bool.or_eq_true] at this ⊢
  rcases this with (h1 | h1) | h1
  ·exact .inl (.inl h1)
  ·exact .inl (.inr (getD_up h1))
  ·exact .inr h1

theorem AnyT.take_ {i : Nat} {oi : Oper} {v : Value} (hi : ops[i]? = some oi) (hs : Region.noSelect ops = true) (hL : waitsB md ops L i = true)
  (hQ : ∀ c a w, Q (.panic c) (a.put oi.dst v) w → Q (.panic c) a w) : ∀ {n : Nat} {done : Array Bool} {a : Act} {w : World},
  Region.free md ops done i = true → i ∈ Region.ready md ops done → YieldsIf P ops S oi v a → S w →
  AnyT P md ops Q S L n (done.setIfInBounds i true) (a.put oi.dst v) w → AnyT P md ops Q S L (n + 1) done a w := by
 intro n
 induction n with
 | zero =>
  intro done a w _ hr hy hS h
  refine ⟨fun e => (by rw [e] at hr; cases hr), fun j hj => ?_⟩
  by_cases e : j = i
  ·subst e; exact hy.wpOp hi hS ⟨fun _ => hS, h⟩
  ·have := ready_mono hj e
   rw [h.1] at this
   cases this
 | succ n ih =>
  intro done a w hf hr hy hS h
  have hun := (mem_ready.1 hr).1
  refine ⟨fun e => (by rw [e] at hr; cases hr), fun j hj => ?_⟩
  by_cases e : j = i
  ·subst e; exact hy.wpOp hi hS ⟨fun _ => hS, h⟩
  ·obtain ⟨hj0, oj, hoj, haft⟩ := mem_ready.1 hj
   have hun' : ∀ x ∈ oj.after, Region.binds md x = true → x.on ≠ i := by
    intro x hx hb heq
    have h1 := haft x hx hb
    rw [heq] at h1
    rcases Nat.lt_or_ge i done.size with h' | h'
    ·simp [h'] at hun h1; rw [hun] at h1; cases h1
    ·simp [Array.getElem?_eq_none h'] at h1
   have hjL : j < L := by
    have h1 := List.all_eq_true.1 hL j (List.mem_range.2 (Array.getElem?_eq_some_iff.1 hoj).1)
    rw [Bool.or_eq_true] at h1
    rcases h1 with h1 | h1
    ·exact Nat.le_of_ble_eq_true h1
    ·simp only [hoj, Option.map_some, Option.getD_some] at h1
     obtain ⟨x, hx, hb⟩ := Array.any_eq_true'.1 h1
     simp only [Bool.and_eq_true, beq_iff_eq] at hb
     exact absurd hb.2 (hun' x hx hb.1)
   have hap := Region.free_spec hi hf j oj hoj e hj0 hun'
   refine wpOp_mono ?_ (wpOp_putIf hoj hap (fun cs b => Region.noSelect_spec hs i oi cs b hi) (fun cs b => Region.noSelect_spec hs j oj cs b hoj) hQ hy (h.2 j (ready_mono hj e)))
   intro a1 w1 k
   have hS1 := k.2.1 hjL
   refine ⟨fun _ => hS1, ih (free_up hf) (ready_mono hr (Ne.symm e)) k.1 hS1 ?_⟩
   rw [Array.setIfInBounds_comm _ _ e]
   exact k.2.2

/-- what yields its value in whatever world is taken first, where S need not hold behind it -/
theorem AnyT.takeL_ {i : Nat} {oi : Oper} {v : Value} (hi : ops[i]? = some oi) (hs : Region.noSelect ops = true) (hL : L ≤ i)
  (hQ : ∀ c a w, Q (.panic c) (a.put oi.dst v) w → Q (.panic c) a w) : ∀ {n : Nat} {done : Array Bool} {a : Act} {w : World},
  Region.free md ops done i = true → i ∈ Region.ready md ops done → Yields P ops oi v a →
  AnyT P md ops Q S L n (done.setIfInBounds i true) (a.put oi.dst v) w → AnyT P md ops Q S L (n + 1) done a w := by
 intro n
 induction n with
 | zero =>
  intro done a w _ hr hy h
  refine ⟨fun e => (by rw [e] at hr; cases hr), fun j hj => ?_⟩
  by_cases e : j = i
  ·subst e; exact hy.wpOp hi ⟨fun h => absurd h (Nat.not_lt.2 hL), h⟩
  ·have := ready_mono hj e
   rw [h.1] at this
   cases this
 | succ n ih =>
  intro done a w hf hr hy h
  have hun := (mem_ready.1 hr).1
  refine ⟨fun e => (by rw [e] at hr; cases hr), fun j hj => ?_⟩
  by_cases e : j = i
  ·subst e; exact hy.wpOp hi ⟨fun h => absurd h (Nat.not_lt.2 hL), h⟩
  ·obtain ⟨hj0, oj, hoj, haft⟩ := mem_ready.1 hj
   have hun' : ∀ x ∈ oj.after, Region.binds md x = true → x.on ≠ i := by
    intro x hx hb heq
    have h1 := haft x hx hb
    rw [heq] at h1
    rcases Nat.lt_or_ge i done.size with h' | h'
    ·simp [h'] at hun h1; rw [hun] at h1; cases h1
    ·simp [Array.getElem?_eq_none h'] at h1
   have hap := Region.free_spec hi hf j oj hoj e hj0 hun'
   refine wpOp_mono ?_ (wpOp_put hoj hap (fun cs b => Region.noSelect_spec hs i oi cs b hi) (fun cs b => Region.noSelect_spec hs j oj cs b hoj) hQ hy (h.2 j (ready_mono hj e)))
   intro a1 w1 k
   refine ⟨k.2.1, ih (free_up hf) (ready_mono hr (Ne.symm e)) k.1 ?_⟩
   rw [Array.setIfInBounds_comm _ _ e]
   exact k.2.2
theorem AnyT.takeL {i : Nat} {oi : Oper} {v : Value} {n : Nat} {done : Array Bool} {a : Act} {w : World} (hi : ops[i]? = some oi) (hs : Region.noSelect ops = true) (hL : Nat.ble L i = true)
  (hQ : ∀ c a w, Q (.panic c) (a.put oi.dst v) w → Q (.panic c) a w) (hf : Region.free md ops done i = true) (hr : (Region.ready md ops done).contains i = true) (hy : Yields P ops oi v a)
  (h : AnyT P md ops Q S L n (done.setIfInBounds i true) (a.put oi.dst v) w) : AnyT P md ops Q S L (n + 1) done a w :=
 AnyT.takeL_ hi hs (Nat.le_of_ble_eq_true hL) hQ hf (by simpa using hr) hy h

/-- what yields its value wherever S holds is taken first -/
theorem AnyT.take {i : Nat} {oi : Oper} {v : Value} {n : Nat} {done : Array Bool} {a : Act} {w : World} (hi : ops[i]? = some oi) (hs : Region.noSelect ops = true) (hL : waitsB md ops L i = true)
  (hQ : ∀ c a w, Q (.panic c) (a.put oi.dst v) w → Q (.panic c) a w) (hf : Region.free md ops done i = true) (hr : (Region.ready md ops done).contains i = true) (hy : YieldsIf P ops S oi v a) (hS : S w)
  (h : AnyT P md ops Q S L n (done.setIfInBounds i true) (a.put oi.dst v) w) : AnyT P md ops Q S L (n + 1) done a w :=
 AnyT.take_ hi hs hL hQ hf (by simpa using hr) hy hS h

/-- one alone may come up -/
theorem AnyT.one {i : Nat} {o : Oper} {n : Nat} {done : Array Bool} {a : Act} {w : World} (hr : Region.ready md ops done = [i]) (ho : ops[i]? = some o)
  (h : ∀ K : Act → World → Prop, Shut (∀ a1 w1, (i < L → S w1) → AnyT P md ops Q S L n (done.setIfInBounds i true) a1 w1 → K a1 w1) → if Region.wanted o (yielded ops a.tmps) = true then Oper.wp P o a w K Q else K (a.put o.dst undef) w) :
  AnyT P md ops Q S L (n + 1) done a w := by
 refine ⟨fun e => (by rw [hr] at e; cases e), fun j hj => ?_⟩
 rw [hr] at hj
 cases List.mem_singleton.1 hj
 exact wpOp_step ho fun K hK => h K fun a1 w1 h1 h2 => hK a1 w1 ⟨h1, h2⟩

theorem AnyT.nil {n : Nat} {done : Array Bool} {a : Act} {w : World} (hr : Region.ready md ops done = []) (h : Q .normal a w) : AnyT P md ops Q S L n done a w := by
 cases n with
 | zero => exact ⟨hr, h⟩
 | succ n => exact ⟨fun _ => h, fun j hj => by rw [hr] at hj; cases hj⟩

theorem wp_region_T {id : Nat} {a : Act} {w : World} (S : World → Prop) (L : Nat) (hm : P.follows .mixedOrders = true)
  (h : AnyT P .any ops Q S L ops.size (Array.replicate ops.size false) a w.drew) : (Code.region id ops true).wp P Q a w :=
 wp_region_any hm h.any
end
end Go.Proofs.YtliimeoblffigaaGreat

set_option maxRecDepth 100000
namespace Go.Proofs.YtliimeoblffigaaGreat
open Go
set_option linter.unusedVariables false

section
variable {P : Program} {ops : Array Oper} {Q : Exit → Act → World → Prop} {md : Region.Mode} {S : World → Prop} {L : Nat}

theorem AnyT.takeM_ {i : Nat} {oi : Oper} {v : Value} {R : Nat → Bool} (hi : ops[i]? = some oi) (hs : Region.noSelect ops = true)
  (hR0 : ∀ k, R k = true → k = i ∨ ∃ o, ops[k]? = some o ∧ ∃ e ∈ o.after, Region.binds md e = true ∧ R e.on = true)
  (hRL : ∀ (k : Nat) (o : Oper), ops[k]? = some o → L ≤ k → R k = true)
  (hQ : ∀ c a w, Q (.panic c) (a.put oi.dst v) w → Q (.panic c) a w) : ∀ {n : Nat} {done : Array Bool} {a : Act} {w : World},
  Region.free md ops done i = true → i ∈ Region.ready md ops done → (∀ k, R k = true → done.getD k false = false) → YieldsIf P ops S oi v a → S w →
  AnyT P md ops Q S L n (done.setIfInBounds i true) (a.put oi.dst v) w → AnyT P md ops Q S L (n + 1) done a w := by
 intro n
 induction n with
 | zero =>
  intro done a w _ hr _ hy hS h
  refine ⟨fun e => (by rw [e] at hr; cases hr), fun j hj => ?_⟩
  by_cases e : j = i
  ·subst e; exact hy.wpOp hi hS ⟨fun _ => hS, h⟩
  ·have := ready_mono hj e
   rw [h.1] at this
   cases this
 | succ n ih =>
  intro done a w hf hr hD hy hS h
  have hun := (mem_ready.1 hr).1
  refine ⟨fun e => (by rw [e] at hr; cases hr), fun j hj => ?_⟩
  by_cases e : j = i
  ·subst e; exact hy.wpOp hi hS ⟨fun _ => hS, h⟩
  ·obtain ⟨hj0, oj, hoj, haft⟩ := mem_ready.1 hj
   have hun' : ∀ x ∈ oj.after, Region.binds md x = true → x.on ≠ i := by
    intro x hx hb heq
    have h1 := haft x hx hb
    rw [heq] at h1
    rcases Nat.lt_or_ge i done.size with h' | h'
    ·simp [h'] at hun h1; rw [hun] at h1; cases h1
    ·simp [Array.getElem?_eq_none h'] at h1
   have hjR : ¬ R j = true := by
    intro hRj
    rcases hR0 j hRj with e' | ⟨o, ho, x, hx, hb, hRx⟩
    ·exact e e'
    ·rw [hoj] at ho
     cases ho
     have h1 := haft x hx hb
     rw [hD x.on hRx] at h1
     cases h1
   have hjL : j < L := Nat.lt_of_not_le fun hl => hjR (hRL j oj hoj hl)
   have hD' : ∀ k, R k = true → (done.setIfInBounds j true).getD k false = false := fun k hk => by
    have e' : ¬ j = k := fun e' => hjR (e' ▸ hk)
    rw [getD_set_ne false e']
    exact hD k hk
   have hap := Region.free_spec hi hf j oj hoj e hj0 hun'
   refine wpOp_mono ?_ (wpOp_putIf hoj hap (fun cs b => Region.noSelect_spec hs i oi cs b hi) (fun cs b => Region.noSelect_spec hs j oj cs b hoj) hQ hy (h.2 j (ready_mono hj e)))
   intro a1 w1 k
   have hS1 := k.2.1 hjL
   refine ⟨fun _ => hS1, ih (free_up hf) (ready_mono hr (Ne.symm e)) hD' k.1 hS1 ?_⟩
   rw [Array.setIfInBounds_comm _ _ e]
   exact k.2.2

/-- what waits for operation i, by way of whatever -/
def downs (md : Region.Mode) (ops : Array Oper) (i : Nat) : Array Bool :=
 ops.toList.foldl (fun r o => r.push (r.size == i || o.after.any fun e => Region.binds md e && r.getD e.on false)) #[]
def downAt (ops : Array Oper) (r : Array Bool) (k : Nat) : Bool := Nat.blt k ops.size && r.getD k false
/-- the marked ones are not done; each but i waits for a marked one; all from L on are marked -/
def downOk (md : Region.Mode) (ops : Array Oper) (L i : Nat) (done r : Array Bool) : Bool :=
 (List.range ops.size).all fun k => ((ops[k]?).map fun o =>
  (!downAt ops r k || ((k == i || o.after.any fun e => Region.binds md e && downAt ops r e.on) && !done.getD k false)) && (Nat.blt k L || downAt ops r k)).getD true

theorem AnyT.takeM {i : Nat} {oi : Oper} {v : Value} {n : Nat} {done : Array Bool} {a : Act} {w : World} (hi : ops[i]? = some oi) (hs : Region.noSelect ops = true) (hL : downOk md ops L i done (downs md ops i) = true)
  (hQ : ∀ c a w, Q (.panic c) (a.put oi.dst v) w → Q (.panic c) a w) (hf : Region.free md ops done i = true) (hr : (Region.ready md ops done).contains i = true) (hy : YieldsIf P ops S oi v a) (hS : S w)
  (h : AnyT P md ops Q S L n (done.setIfInBounds i true) (a.put oi.dst v) w) : AnyT P md ops Q S L (n + 1) done a w := by
 have key : ∀ (k : Nat) (o : Oper), ops[k]? = some o → ((!downAt ops (downs md ops i) k || ((k == i || o.after.any fun e => Region.binds md e && downAt ops (downs md ops i) e.on) && !done.getD k false)) && (Nat.blt k L || downAt ops (downs md ops i) k)) = true := fun k o ho => by
  have h1 := List.all_eq_true.1 hL k (List.mem_range.2 (Array.getElem?_eq_some_iff.1 ho).1)
  rw [ho] at h1
  exact h1
 have lt : ∀ k, downAt ops (downs md ops i) k = true → k < ops.size := fun k hk => by
  unfold downAt at hk
  rw [Bool.and_eq_true] at hk
  exact Nat.le_of_ble_eq_true hk.1
 refine AnyT.takeM_ (R := downAt ops (downs md ops i)) hi hs (fun k hk => ?_) (fun k o ho hl => ?_) hQ hf (by simpa using hr) (fun k hk => ?_) hy hS h
 ·have h2 := key k _ (Array.getElem?_eq_getElem (lt k hk))
  rw [hk] at h2
  simp only [Bool.not_true, Bool.false_or, Bool.and_eq_true, Bool.or_eq_true, beq_iff_eq] at h2
  rcases h2.1.1 with e | e
  ·exact .inl e
  ·obtain ⟨x, hx, hb⟩ := Array.any_eq_true'.1 e
   rw [Bool.and_eq_true] at hb
   exact .inr ⟨_, Array.getElem?_eq_getElem (lt k hk), x, hx, hb.1, hb.2⟩
 ·have h2 := key k o ho
  simp only [Bool.and_eq_true, Bool.or_eq_true] at h2
  rcases h2.2 with e | e
  ·have := Nat.le_of_ble_eq_true e
   omega
  ·exact e
 ·have h2 := key k _ (Array.getElem?_eq_getElem (lt k hk))
  rw [hk] at h2
  simp only [Bool.not_true, Bool.false_or, Bool.and_eq_true, Bool.not_eq_true'] at h2
  exact h2.1.2
end
end Go.Proofs.YtliimeoblffigaaGreat

set_option maxRecDepth 100000
namespace Go.Proofs.YtliimeoblffigaaGreat
open Go.RowKit Go.Maps
set_option linter.unusedVariables false

/-- 'seen = files{}' where there was none -/
theorem DrvM.mkSeen {w : World} {sup : List Nm} {T F : Nat → Prop} {g : Nat} {S : DSt} {sv qv : Value} {lv : Int} (h : DrvM w sup T g S sv (.map none) qv lv F) :
  DrvM ((w.setCell ⟨g, 1, none⟩ (.map (some w.heap.size))).alloc (.map #[] 0)) sup (Ext T w ((w.setCell ⟨g, 1, none⟩ (.map (some w.heap.size))).alloc (.map #[] 0))) g S sv (.map (some w.heap.size)) qv lv F ∧ Chg (fun k => k = g) w ((w.setCell ⟨g, 1, none⟩ (.map (some w.heap.size))).alloc (.map #[] 0)) := by
 have hb := (h.blk.set_ 1 (.map (some w.heap.size))).al (.map #[] 0)
 simp at hb
 have hc : Chg (fun k => k = g) w ((w.setCell ⟨g, 1, none⟩ (.map (some w.heap.size))).alloc (.map #[] 0)) := (Chg.setCell (p := ⟨g, 1, none⟩) (Chg.refl (fun k => k = g) w) (fun _ => rfl) _).alloc _
 have hm := FsL.new (w.setCell ⟨g, 1, none⟩ (.map (some w.heap.size))) sup F
 rw [show (w.setCell ⟨g, 1, none⟩ (.map (some w.heap.size))).heap.size = w.heap.size by simp] at hm
 have hsz : ((w.setCell ⟨g, 1, none⟩ (.map (some w.heap.size))).alloc (.map #[] 0)).heap.size = w.heap.size + 1 := by simp
 have hno : S.seen = noF := by
  obtain ⟨l, hl, e⟩ := h.n
  rcases hl.map with ⟨_, rfl⟩ | ⟨B, e2, _⟩
  ·exact e
  ·cases e2
 have hgB : ∀ v f, FsAt w sup F v f → ∀ B, v = .map (some B) → ¬ B = g := fun v f hf B e e2 => by
  obtain ⟨l, hl, _⟩ := hf
  exact hl.noBlk e (e2 ▸ h.blk)
 have hF : ∀ b, F b → ¬ b = g := fun b hb => (h.f b hb).2.1
 refine ⟨⟨hb, h.arm, h.s.chg hc hF (hgB _ _ h.s), ⟨[], hm, hno⟩, h.qu.chg hc hF, .inl h.tg, fun B e => .inl (h.ts B e), fun B e => ?_, fun B e e2 => ?_, fun b hb => ⟨.inl (h.f b hb).1, (h.f b hb).2.1, (h.f b hb).2.2.1, fun e => ?_⟩, fun b hb => ?_⟩, hc⟩
 ·injection e with e; injection e with e
  exact .inr ⟨by omega, by omega⟩
 ·injection e2 with e2; injection e2 with e2
  have := h.lt B (h.ts B e)
  omega
 ·injection e with e; injection e with e
  have := h.lt b (h.f b hb).1
  omega
 ·rcases hb with hb | hb
  ·have := h.lt b hb; omega
  ·omega
theorem info_deed : (Tryz.prog.info? 334).map (fun i => (i.zero, i.size, i.bytes)) = some (some .nilIface, 1, 16) := by kernel_rfl
theorem under_deeds : Tryz.prog.underlying 176 = some (.slice (Tryz.prog.elem 176)) := by kernel_rfl
theorem size_deed (w : World) : (sizeOf (Tryz.prog.elem 176)).run Tryz.prog w = .ok 1 w := by kernel_rfl

/-- 'queue[:len:len]' -/
theorem queue_cut {w : World} {F : Nat → Prop} {Q : Option Addr} {n c : Nat} {xs : List Value} (h : RdV w F 1 (.slice Q n c) n xs) (hc : n ≤ c) :
  ∃ ao : Option Addr, (ao = none → n = 0 ∧ n = 0) ∧ (∀ b, ao = some b → ∀ j u, xs[j]? = some u → w.cell? (b.add j) = some u) ∧
   ∀ w' : World, (Instr.slice 176 (.slice Q n c) none (some (.int .i64 (n : Int))) (some (.int .i64 (n : Int)))).run Tryz.prog w' = .ok (.slice ao n n) w' := by
 refine ⟨if n = 0 then Q else Q.map (·.add (0 * 1)), fun e => ?_, fun b e j u hj => ?_, fun w' => ?_⟩
 ·by_cases h0 : n = 0
  ·exact ⟨h0, h0⟩
  ·rw [if_neg h0] at e
   obtain ⟨ad, hA, _, _⟩ := RdV.cells h (by omega)
   rw [hA] at e
   cases e
 ·by_cases h0 : n = 0
  ·have hl := h.1
   rw [h0] at hl
   have : xs = [] := List.eq_nil_of_length_eq_zero (by omega)
   rw [this] at hj
   simp at hj
  ·rw [if_neg h0] at e
   obtain ⟨ad, hA, _, hcs⟩ := RdV.cells h (by omega)
   rw [hA, Option.map_some] at e
   injection e with e
   rw [← e, add_of_add]
   simpa using hcs j u hj
 ·rw [run_slice_hm (P := Tryz.prog) w' 176 Q n c under_deeds .i64 .i64 (n : Int) (n : Int) (by omega) (by omega) (by omega), size_deed]
  simp only [Result.andThen, sliced, Int.toNat_natCast, Nat.sub_zero]
theorem step_Q {ops : Array Oper} {o : Oper} {a : Act} {w w0 : World} {K : Act → World → Prop} {Q : Exit → Act → World → Prop} {E : Prop} (hgd : o.guard = none) (s x : Operand)
  (ho : o.op = Op.call { callee := Callee.builtin Builtin.append, args := #[s, x], argTypes := #[176, 176] })
  {ao : Option Addr} {n g1 : Nat} {xs : List Value} {v : Value} (hs : a.eval s = .slice ao n n) (hao : ao = none → n = 0 ∧ n = 0) (hcs : ∀ b, ao = some b → ∀ j u, xs[j]? = some u → w0.cell? (b.add j) = some u) (hc : Chg Non w0 w) (hl : xs.length = n * 1)
  (hx : a.eval x = .slice (some ⟨g1, 0, none⟩) 1 1) (hb : Blk w g1 334 #[v]) (hv : v.oneCell' = true) (hn : n ≤ 1000000)
  (h : ∀ v' w', w'.ownsRow w.heap.size 334 1 v' (n + 1) (xs ++ [v]) → w.grownBy w' none → K (a.put o.dst v') w') :
  if Region.wanted o (yielded ops a.tmps) = true then Oper.wp Tryz.prog o a w K Q else E := by
 obtain ⟨i0, hi, hz0, hz1, hz2⟩ := info_parts info_deed
 refine step_append_grows hgd s x 176 ho 334 i0 _ 1 16 Tryz.underlying176 hi hz0 hz1 hz2 rfl (by decide) ao n n xs hs hao hl (fun b hb j u hj => hc.cell (hcs b hb j u hj) (fun h => h)) ⟨g1, 0, none⟩ 1 1 [v] hx rfl (fun j u hj => ?_) (fun u hu => ?_) (by omega) (by simp only [maxLen]; omega) (by omega) h
 ·rw [add_none, Nat.zero_add, hb.cell]
  simpa using hj
 ·simp only [List.mem_singleton] at hu
  subst hu
  exact hv

theorem chg_grown0 {w0 w w' : World} (hc : Chg Non w0 w) (hg : w.grownBy w' none) : Chg Non w0 w' := hc.grown hg fun b hb _ => by cases hb
/-- a deed is done and put into the queue -/
theorem DrvM.enq {w1 w2 w3 : World} {sup : List Nm} {T F F2 : Nat → Prop} {g B b3 : Nat} {S : DSt} {sv qv v' x : Value} {lv : Int} {d : Deed} {xs : List Value} {f' : Fls} {qn : Nat}
  (hD : DrvM w1 sup T g S sv (.map (some B)) qv lv F) (hm2 : FsAt w2 sup F2 (.map (some B)) f') (hF2 : ∀ b, F2 b → F b ∨ (w1.heap.size ≤ b ∧ b < w2.heap.size)) (hc2 : Chg (fun k => k = B) w1 w2)
  (hqn : qn = S.queue.length) (hx1 : xs.length = S.queue.length) (hx3 : ∀ (i : Nat) (x : Value) (d : Deed), xs[i]? = some x → S.queue[i]? = some d → DeedV w1 F x d) (hx : DeedV w1 F x d)
  (h3 : Chg Non w2 w3) (hown : w3.ownsRow b3 334 1 v' (qn + 1) (xs ++ [x])) (hb3 : w2.heap.size ≤ b3) :
  DrvAt (w3.setCell ⟨g, 2, none⟩ v') sup (Ext T w1 (w3.setCell ⟨g, 2, none⟩ v')) g ⟨S.safe, f', S.queue ++ [d], S.arm, S.dead⟩ ∧ Chg T w1 (w3.setCell ⟨g, 2, none⟩ v') := by
 subst hqn
 have hTB := hD.tn B rfl
 have hgB : g ≠ B := fun e => by
  obtain ⟨l, hl, _⟩ := hD.n
  exact hl.noBlk rfl (e ▸ hD.blk)
 have hlt := World.ownsRow.lt hown
 have h4 : Chg (fun k => k = g) w3 (w3.setCell ⟨g, 2, none⟩ v') := Chg.setCell (p := ⟨g, 2, none⟩) (Chg.refl (fun k => k = g) w3) (fun _ => rfl) _
 have h23 : Chg (fun k => k = B) w1 w3 := hc2.trans0 h3
 have hgl := hD.blk.lt
 have hBl := hD.lt B hTB
 have s2 := hc2.size
 have s3 := h3.size
 have s4 := h4.size
 have h14 : Chg (fun k => k = g ∨ k = B) w1 (w3.setCell ⟨g, 2, none⟩ v') := (h23.mono fun _ _ e => .inr e).trans h4 fun b _ e => .inl e
 have hblk := ((hD.blk.chg h23 hgB).set_ 2 v')
 simp at hblk
 have hn2 : FsAt (w3.setCell ⟨g, 2, none⟩ v') sup F2 (.map (some B)) f' := by
  have hF2g : ∀ b, F2 b → ¬ b = g := fun b hb e => by
   rcases hF2 b hb with h | h
   ·exact (hD.f b h).2.1 e
   ·omega
  exact (hm2.chg h3 (fun _ _ h => h) (fun _ _ h => h)).chg h4 hF2g (fun B' e e2 => by injection e with e; injection e with e; exact hgB (by omega))
 have hFF : ∀ b, F b → ¬ (b = g ∨ b = B) := fun b hb e => by
  rcases e with e | e
  ·exact (hD.f b hb).2.1 e
  ·exact (hD.f b hb).2.2.2 (by rw [e])
 refine ⟨⟨sv, .map (some B), v', lv, fun b => F b ∨ (w1.heap.size ≤ b ∧ b < (w3.setCell ⟨g, 2, none⟩ v').heap.size), ⟨hblk, hD.arm, ?_, hn2.mono fun b hb => ?_, ?_, .inl hD.tg, fun B' e => .inl (hD.ts B' e), fun B' e => .inl (hD.tn B' e), hD.sep, fun b hb => ?_, fun b hb => ?_⟩⟩, h14.mono fun k _ e => ?_⟩
 ·refine (hD.s.chg h14 hFF (fun B' e e2 => ?_)).mono fun b hb => .inl hb
  rcases e2 with e2 | e2
  ·obtain ⟨l, hl, _⟩ := hD.s
   exact hl.noBlk e (e2 ▸ hD.blk)
  ·exact hD.sep B' e (by rw [e2])
 ·rcases hF2 b hb with h | h
  ·exact .inl h
  ·exact .inr ⟨h.1, by omega⟩
 ·refine ⟨xs ++ [x], by simp [hx1], ?_, fun i y e hy he => ?_⟩
  ·rw [List.length_append, List.length_singleton]
   refine ((RdV.of_own hown).chg h4 fun b hb e => ?_).mono fun b hb => ?_
   ·have := (hlt b hb).1
    omega
   ·have := hlt b hb
    exact .inr ⟨by omega, by omega⟩
  ·by_cases hi : i < S.queue.length
   ·rw [List.getElem?_append_left (by omega)] at hy
    rw [List.getElem?_append_left hi] at he
    exact ((hx3 i y e hy he).chg h14 hFF).mono fun b hb => .inl hb
   ·rw [List.getElem?_append_right (by omega)] at hy he
    have h0 : i = S.queue.length := by
     have := (List.getElem?_eq_some_iff.1 he).1
     simp at this
     omega
    subst h0
    rw [hx1, Nat.sub_self] at hy
    rw [Nat.sub_self] at he
    simp only [List.getElem?_cons_zero, Option.some.injEq] at hy he
    subst hy; subst he
    exact (hx.chg h14 hFF).mono fun b hb => .inl hb
 ·rcases hb with hb | hb
  ·obtain ⟨h1, h2, h3, h4⟩ := hD.f b hb
   exact ⟨.inl h1, h2, h3, h4⟩
  ·refine ⟨.inr hb, by omega, fun e => ?_, fun e => ?_⟩
   ·have := hD.lt b (hD.ts b e); omega
   ·injection e with e; injection e with e; omega
 ·rcases hb with hb | hb
  ·have := hD.lt b hb; omega
  ·exact hb.2
 ·rcases e with e | e
  ·subst e; exact hD.tg
  ·subst e; exact hTB

theorem methUnitsWr (s : ByteArray) (a : Int) (dv : Value) (w : World) : (method 450 331 (.agg #[.string s, .int .i64 a, dv]) "groyne/drive.units").run Tryz.prog w = .ok (270, .agg #[.string s, .int .i64 a, dv]) w := by kernel_rfl
theorem aheadDoWr (s : ByteArray) (a : Int) (dv : Value) (w : World) : (nilAhead 450 331 (.agg #[.string s, .int .i64 a, dv]) "groyne/drive.do").run Tryz.prog w = .ok (some false) w := by kernel_rfl
theorem methDoWr (s : ByteArray) (a : Int) (dv : Value) (w : World) : (method 450 331 (.agg #[.string s, .int .i64 a, dv]) "groyne/drive.do").run Tryz.prog w = .ok (269, .agg #[.string s, .int .i64 a, dv]) w := by kernel_rfl

set_option maxHeartbeats 10000000 in
theorem dgRawWr {w : World} {sup : List Nm} {T F : Nat → Prop} {g : Nat} {S : DSt} {sv nv qv : Value} {lv : Int} {s : ByteArray} {a : Nat} {dv : Value} {dt : List UInt8} (h : DrvM w sup T g S sv nv qv lv F) (hd : S.dead = false) (hsl : sup.length ≤ 1000000) (hs : s.size ≤ 1000) (hsup : s.data.toList ∈ sup) (hdv : RdB w F dv dt) (hsz : a + dt.length ≤ 1000000000) (hol : ((S.seen s.data.toList).getD []).length ≤ 1000000000) (hq : S.queue.length ≤ 1000000) (hx : DeedV w F (.iface 331 (wrV s a dv)) (.wr s.data.toList a dt)) :
  Calls Tryz.prog 245 #[.pointer (some ⟨g, 0, none⟩), .iface 331 (wrV s a dv), .int .i64 0] w fun e w' => e = .returned (.int .i64 S.er) ∧ DrvAt w' sup (Ext T w w') g (S.did (.wr s.data.toList a dt)) ∧ Chg T w w' := by
 have hmay := dgMay2 h hd
 have hT0 := h.lt
 have hTg := h.tg
 obtain ⟨r, rfl⟩ : ∃ r, nv = .map r := by
  obtain ⟨l, hl, _⟩ := h.n
  exact hl.form
 have HX := hide hx
 have HSUP := hide hsup
 have HSL := hide hsl
 have HOL := hide hol
 unfold wrV
 clear hx hsup hsl hol h hd
 go_enter Tryz.func245, Tryz.ntmps245
 go_upto_region 1 with fail
 go_cut [2, 7, 8] from 9 (fun v2 v7 v8 wx => v2 = .int .i64 S.er ∧ v7 = .bool (!S.kl) ∧ v8 = .bool S.kl ∧ Chg (fun k => k = g) w wx ∧ ∃ lv', DrvM wx sup T g S.tick sv (.map r) qv lv' F)
 case first =>
  go_wp2_with fail
  refine hmay.mono ?_
  rintro e w1 ⟨rfl, hc, hD⟩
  clear hmay
  go_wp2_with fail
  go_meet
  case rel => exact ⟨rfl, rfl, rfl, hc, hD⟩
 case rest =>
  obtain ⟨rfl, rfl, rfl, hc1, lv1, hD1⟩ := hcut
  obtain ⟨w1, rfl⟩ : ∃ w', w' = wc := ⟨_, rfl⟩
  clear hmay
  go_upto_region 2 with fail
  obtain ⟨k, hk⟩ : ∃ k, k = S.kl := ⟨_, rfl⟩
  rw [← hk]
  clear hk
  go_cut [19] from 16 (fun v wx => v = .bool true ∧ wx = w1)
  case first =>
   cases k <;> (go_wp2_with fail; go_meet; exact ⟨rfl, rfl⟩)
  case rest =>
   obtain ⟨rfl, hw⟩ := hcut
   subst wc
   have HX1 := hide (HX.out.chg hc1 fun b hb => (hD1.f b hb).2.1)
   have k1 : w1.cell? ⟨g, 1, none⟩ = some (.map r) := hD1.blk.cell 1
   have f1 := hD1.blk.frozen 1
   have hq1 := nilm_eq
   have hmm := @run_makeMap Tryz.prog
   have hgl := hD1.blk.lt
   have HD1 := hide hD1
   clear hD1
   go_upto_if 24 with fail
   go_cut [] from 25 (fun wx => ∃ (B lv2 : _), DrvM wx sup (Ext T w1 wx) g S.tick sv (.map (some B)) qv lv2 F ∧ Chg (fun k => k = g) w1 wx)
   case first =>
    cases r with
    | none =>
     have hal := (Chg.refl Non w1).alloc (.map #[] 0)
     have k1a := hal.cell k1 (fun h => h)
     have f1a := (HD1.out.blk.al (.map #[] 0)).frozen 1
     go_wp2_with fail
     go_meet
     case rel =>
      obtain ⟨hD, hc⟩ := HD1.out.mkSeen
      exact ⟨w1.heap.size, lv1, hD, hc⟩
    | some B =>
     go_wp2_with fail
     go_meet
     case rel => exact ⟨B, lv1, HD1.out.up (fun b hb => .inl hb) (Ext.lt HD1.out.lt (Nat.le_refl _)), Chg.refl _ _⟩
   case rest =>
    obtain ⟨B, lv2, hD2, hc2⟩ := hcut
    obtain ⟨w2, rfl⟩ : ∃ w', w' = wc := ⟨_, rfl⟩
    have j1 : w2.cell? ⟨g, 1, none⟩ = some (.map (some B)) := hD2.blk.cell 1
    have hFB : ∀ b, F b → b ≠ B := fun b hb e => (hD2.f b hb).2.2.2 (by rw [e])
    have HX2 := hide (HX1.out.chg hc2 fun b hb => (hD2.f b hb).2.1)
    have hdv1 := (hdv.chg hc1 fun b hb => (hD2.f b hb).2.1).chg hc2 fun b hb => (hD2.f b hb).2.1
    have hmu := methUnitsWr
    have hmd := methDoWr
    have had := aheadDoWr
    clear k1 f1 hq1 hmm hdv
    go_upto_region 5 with fail
    go_cut [] from 29 (fun wx => ∃ F2 : Nat → Prop, FsAt wx sup F2 (.map (some B)) (Deed.all S.seen (.wr s.data.toList a dt)) ∧ (∀ b, F2 b → F b ∨ (w2.heap.size ≤ b ∧ b < wx.heap.size)) ∧ Chg (fun k => k = B) w2 wx)
    case first =>
     go_region_law (first
      | (go_simp; go_at_call 270; refine (dgWrUnits (s := s) (a := a) (hdv1.c0 (by first | exact (Chg.refl Non w2).drew | exact ((Chg.refl Non w2).drew).alloc _)) (by omega)).mono ?_; rintro e wd ⟨rfl, hcu⟩; have j2 := hcu.cell j1 (fun h => h); have hcd := ((Chg.refl Non w2).drew).trans0 hcu)
      | (go_simp; go_at_call 269; refine (dgWrDo (n := dt.length) hs HSUP.out (hD2.n.chg hcd (fun _ _ h => h) (fun _ _ h => h)) HSL.out hFB (hdv1.c0 hcd) hFB (Nat.le_refl _) hsz HOL.out).mono ?_; rintro e we ⟨rfl, hm2, hc3⟩))
     all_goals
      go_wp2_with fail
      go_meet
      refine ⟨_, hm2, fun b hb => ?_, (hcd.mono fun _ _ h => h.elim).trans hc3 fun _ _ h => h⟩
      have hcs := hcd.size
      have hcs3 := hc3.size
      rcases hb with h | h
      ·exact .inl h
      ·exact .inr ⟨by omega, h.2⟩
    case rest =>
     obtain ⟨F2, hm3, hF2, hc3⟩ := hcut
     obtain ⟨w3, rfl⟩ : ∃ w', w' = wc := ⟨_, rfl⟩
     obtain ⟨xs, hx1, hx2, hx3⟩ := hD2.qu
     obtain ⟨Q, cq, rfl, hcq, hmq⟩ := hx2.shape
     unfold maxLen at hmq
     have hgB : g ≠ B := fun e => by
      obtain ⟨l, hl, _⟩ := hD2.n
      exact hl.noBlk rfl (e ▸ hD2.blk)
     have hblk2 := hD2.blk.chg hc3 hgB
     have hx22 := hx2.chg hc3 hFB
     obtain ⟨ao, hao, hcs, hqc⟩ := queue_cut hx22 hcq
     obtain ⟨qn, hqn⟩ : ∃ qn, qn = S.tick.queue.length := ⟨_, rfl⟩
     rw [← hqn] at hblk2 hao hqc hcq
     have k2 : w3.cell? ⟨g, 2, none⟩ = some (.slice Q qn cq) := hblk2.cell 2
     have HX3 := hide hx3
     have HF2 := hide hF2
     have hx1' : xs.length = qn * 1 := by omega
     have hone : (Value.iface 331 (.agg #[.string s, .int .i64 (a : Int), dv])).oneCell' = true := rfl
     have k2a := ((Chg.refl Non w3).alloc (.cells #[.iface 331 (.agg #[.string s, .int .i64 (a : Int), dv])] 334)).cell k2 (fun h => h)
     have hq : qn ≤ 1000000 := by rw [hqn]; exact hq
     have HQN := hide hqn
     have HQ1 := hide hx1
     have HD2 := hide hD2
     clear hmu hmd had hx2 hx22 hx3 j1 hD2 hF2 hqn hx1 hdv1
     go_upto_region 6 with fail
     go_cut [] from 40 (fun wx => DrvAt wx sup (Ext (Ext T w1 w2) w2 wx) g (S.did (.wr s.data.toList a dt)) ∧ Chg (Ext T w1 w2) w2 wx)
     case rest =>
      obtain ⟨hDn, hcn⟩ := hcut
      go_wp2_with fail
      go_ret
      have n1 := hc1.size
      have n2 := hc2.size
      have n3 := hcn.size
      refine ⟨rfl, hDn.up (fun b hb => (hb.trans n2 n3).back n1) (Ext.lt hT0 (by omega)), ((hc1.trans hc2 fun _ _ h => h).mono fun k _ e => (show T k from (show k = g from e) ▸ hTg)).trans hcn fun k hk e => ?_⟩
      rcases e with e | e
      ·exact e
      ·omega
     case first =>
     have k2d : Hid (w3.drew.cell? ⟨g, 2, none⟩ = some (.slice Q qn cq)) := hide k2
     have hb3 : w3.heap.size ≤ (w3.drew.alloc (.cells #[.iface 331 (.agg #[.string s, .int .i64 (a : Int), dv])] 334)).heap.size := (((Chg.refl Non w3).drew).alloc _).size
     refine wp_region_T (Chg Non w3.drew) 21 (by kernel_rfl) ?_
     have HS := hide (Chg.refl Non w3.drew)
     refine AnyT.takeM (i := 0) (v := ?_) rfl (by kernel_rfl) (by kernel_rfl) (fun _ _ _ h => h) (by kernel_rfl) (by kernel_rfl) (Or.inl ⟨by rfl, ?_⟩) HS.out ?_
     rotate_left
     ·(intro w9 h9; go_simp; try with_reducible rfl)
     try simp only [lz1, lz2, lz3, Act.put, lz4, lz5, lz6]
     refine AnyT.takeM (i := 1) (v := ?_) rfl (by kernel_rfl) (by kernel_rfl) (fun _ _ _ h => h) (by kernel_rfl) (by kernel_rfl) (Or.inl ⟨by rfl, ?_⟩) HS.out ?_
     rotate_left
     ·(intro w9 h9; go_simp; try with_reducible rfl)
     try simp only [lz1, lz2, lz3, Act.put, lz4, lz5, lz6]
     refine AnyT.takeM (i := 2) (v := ?_) rfl (by kernel_rfl) (by kernel_rfl) (fun _ _ _ h => h) (by kernel_rfl) (by kernel_rfl) (Or.inl ⟨by rfl, ?_⟩) HS.out ?_
     rotate_left
     ·(intro w9 h9; go_simp; try with_reducible rfl)
     try simp only [lz1, lz2, lz3, Act.put, lz4, lz5, lz6]
     refine AnyT.takeM (i := 3) (v := ?_) rfl (by kernel_rfl) (by kernel_rfl) (fun _ _ _ h => h) (by kernel_rfl) (by kernel_rfl) (Or.inl ⟨by rfl, ?_⟩) HS.out ?_
     rotate_left
     ·(intro w9 h9; go_simp; try with_reducible rfl)
     try simp only [lz1, lz2, lz3, Act.put, lz4, lz5, lz6]
     refine AnyT.takeM (i := 4) (v := ?_) rfl (by kernel_rfl) (by kernel_rfl) (fun _ _ _ h => h) (by kernel_rfl) (by kernel_rfl) (Or.inl ⟨by rfl, ?_⟩) HS.out ?_
     rotate_left
     ·(intro w9 h9; have y := h9.cell k2d.out (fun h => h); go_simp; try with_reducible rfl)
     try simp only [lz1, lz2, lz3, Act.put, lz4, lz5, lz6]
     refine AnyT.takeM (i := 5) (v := ?_) rfl (by kernel_rfl) (by kernel_rfl) (fun _ _ _ h => h) (by kernel_rfl) (by kernel_rfl) (Or.inl ⟨by rfl, ?_⟩) HS.out ?_
     rotate_left
     ·(intro w9 h9; go_simp; try with_reducible rfl)
     try simp only [lz1, lz2, lz3, Act.put, lz4, lz5, lz6]
     refine AnyT.takeM (i := 6) (v := ?_) rfl (by kernel_rfl) (by kernel_rfl) (fun _ _ _ h => h) (by kernel_rfl) (by kernel_rfl) (Or.inl ⟨by rfl, ?_⟩) HS.out ?_
     rotate_left
     ·(intro w9 h9; go_simp; try with_reducible rfl)
     try simp only [lz1, lz2, lz3, Act.put, lz4, lz5, lz6]
     refine AnyT.takeM (i := 7) (v := ?_) rfl (by kernel_rfl) (by kernel_rfl) (fun _ _ _ h => h) (by kernel_rfl) (by kernel_rfl) (Or.inl ⟨by rfl, ?_⟩) HS.out ?_
     rotate_left
     ·(intro w9 h9; go_simp; try with_reducible rfl)
     try simp only [lz1, lz2, lz3, Act.put, lz4, lz5, lz6]
     refine AnyT.takeM (i := 8) (v := ?_) rfl (by kernel_rfl) (by kernel_rfl) (fun _ _ _ h => h) (by kernel_rfl) (by kernel_rfl) (Or.inl ⟨by rfl, ?_⟩) HS.out ?_
     rotate_left
     ·(intro w9 h9; have y := h9.cell k2d.out (fun h => h); go_simp; try with_reducible rfl)
     try simp only [lz1, lz2, lz3, Act.put, lz4, lz5, lz6]
     refine AnyT.takeM (i := 9) (v := ?_) rfl (by kernel_rfl) (by kernel_rfl) (fun _ _ _ h => h) (by kernel_rfl) (by kernel_rfl) (Or.inl ⟨by rfl, ?_⟩) HS.out ?_
     rotate_left
     ·(intro w9 h9; go_simp; try with_reducible rfl)
     try simp only [lz1, lz2, lz3, Act.put, lz4, lz5, lz6]
     refine AnyT.takeM (i := 10) (v := ?_) rfl (by kernel_rfl) (by kernel_rfl) (fun _ _ _ h => h) (by kernel_rfl) (by kernel_rfl) (Or.inl ⟨by rfl, ?_⟩) HS.out ?_
     rotate_left
     ·(intro w9 h9; go_simp; try with_reducible rfl)
     try simp only [lz1, lz2, lz3, Act.put, lz4, lz5, lz6]
     refine AnyT.takeM (i := 11) (v := ?_) rfl (by kernel_rfl) (by kernel_rfl) (fun _ _ _ h => h) (by kernel_rfl) (by kernel_rfl) (Or.inl ⟨by rfl, ?_⟩) HS.out ?_
     rotate_left
     ·(intro w9 h9; go_simp; try with_reducible rfl)
     try simp only [lz1, lz2, lz3, Act.put, lz4, lz5, lz6]
     refine AnyT.takeM (i := 12) (v := ?_) rfl (by kernel_rfl) (by kernel_rfl) (fun _ _ _ h => h) (by kernel_rfl) (by kernel_rfl) (Or.inl ⟨by rfl, ?_⟩) HS.out ?_
     rotate_left
     ·(intro w9 h9; go_simp; try with_reducible rfl)
     try simp only [lz1, lz2, lz3, Act.put, lz4, lz5, lz6]
     refine AnyT.takeM (i := 13) (v := ?_) rfl (by kernel_rfl) (by kernel_rfl) (fun _ _ _ h => h) (by kernel_rfl) (by kernel_rfl) (Or.inl ⟨by rfl, ?_⟩) HS.out ?_
     rotate_left
     ·(intro w9 h9; have y := h9.cell k2d.out (fun h => h); go_simp; try with_reducible rfl)
     try simp only [lz1, lz2, lz3, Act.put, lz4, lz5, lz6]
     refine AnyT.takeM (i := 14) (v := ?_) rfl (by kernel_rfl) (by kernel_rfl) (fun _ _ _ h => h) (by kernel_rfl) (by kernel_rfl) (Or.inl ⟨by rfl, ?_⟩) HS.out ?_
     rotate_left
     ·(intro w9 h9; go_simp; try with_reducible rfl)
     try simp only [lz1, lz2, lz3, Act.put, lz4, lz5, lz6]
     refine AnyT.takeM (i := 15) (v := ?_) rfl (by kernel_rfl) (by kernel_rfl) (fun _ _ _ h => h) (by kernel_rfl) (by kernel_rfl) (Or.inl ⟨by rfl, ?_⟩) HS.out ?_
     rotate_left
     ·(intro w9 h9; go_simp; try with_reducible rfl)
     try simp only [lz1, lz2, lz3, Act.put, lz4, lz5, lz6]
     refine AnyT.takeM (i := 16) (v := ?_) rfl (by kernel_rfl) (by kernel_rfl) (fun _ _ _ h => h) (by kernel_rfl) (by kernel_rfl) (Or.inl ⟨by rfl, ?_⟩) HS.out ?_
     rotate_left
     ·(intro w9 h9; go_simp; try with_reducible rfl)
     try simp only [lz1, lz2, lz3, Act.put, lz4, lz5, lz6]
     refine AnyT.one (i := 17) (by kernel_rfl) rfl (fun K hK => ?_)
     go_simp
     refine hK.out _ _ (fun _ => HS.out.alloc _) ?_
     have HSA := hide (HS.out.alloc (.cells #[.iface 331 (.agg #[.string s, .int .i64 (a : Int), dv])] 334))
     clear hK K
     try simp only [lz1, lz2, lz3, Act.put, lz4, lz5, lz6]
     refine AnyT.one (i := 18) (by kernel_rfl) rfl (fun K hK => ?_)
     refine step_Q rfl _ _ rfl rfl hao hcs (((Chg.refl Non w3).drew).alloc _) hx1' rfl (Blk.new w3.drew _ _) hone hq ?_
     intro v' w4 hown hgr
     obtain ⟨A3, c3, rfl, hc3', hm3'⟩ := (RdV.of_own hown).shape
     have h34 := chg_grown0 (((Chg.refl Non w3).drew).alloc (.cells #[.iface 331 (.agg #[.string s, .int .i64 (a : Int), dv])] 334)) hgr
     have h34d := chg_grown0 HSA.out hgr
     have hb4 := hblk2.chg h34 (fun h => h)
     have k3 := hb4.cell 2
     have f3 := hb4.frozen 2
     simp at k3
     refine hK.out _ _ (fun _ => h34d) ?_
     clear hK K
     try simp only [lz1, lz2, lz3, Act.put, lz4, lz5, lz6]
     have HS2 := hide h34d
     refine AnyT.takeM (i := 19) (v := ?_) rfl (by kernel_rfl) (by kernel_rfl) (fun _ _ _ h => h) (by kernel_rfl) (by kernel_rfl) (Or.inl ⟨by rfl, ?_⟩) HS2.out ?_
     rotate_left
     ·(intro w9 h9; go_simp; try with_reducible rfl)
     try simp only [lz1, lz2, lz3, Act.put, lz4, lz5, lz6]
     refine AnyT.takeM (i := 20) (v := ?_) rfl (by kernel_rfl) (by kernel_rfl) (fun _ _ _ h => h) (by kernel_rfl) (by kernel_rfl) (Or.inl ⟨by rfl, ?_⟩) HS2.out ?_
     rotate_left
     ·(intro w9 h9; go_simp; try with_reducible rfl)
     try simp only [lz1, lz2, lz3, Act.put, lz4, lz5, lz6]
     refine AnyT.one (i := 21) (by kernel_rfl) rfl (fun K hK => ?_)
     go_simp
     refine hK.out _ _ (fun h => absurd h (by decide)) ?_
     clear hK K
     try simp only [lz1, lz2, lz3, Act.put, lz4, lz5, lz6]
     refine AnyT.nil (by kernel_rfl) ?_
     go_wp2_with fail
     go_meet
     exact HD2.out.enq hm3 HF2.out hc3 HQN.out HQ1.out HX3.out HX2.out h34 hown hb3


end Go.Proofs.YtliimeoblffigaaGreat

