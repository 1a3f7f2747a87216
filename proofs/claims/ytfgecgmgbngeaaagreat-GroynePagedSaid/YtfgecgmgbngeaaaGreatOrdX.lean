/- Orders of a region: a condition on the world is held behind every operation but the last ones, which wait for all loads. -/
import Derived.Test.YtfgecgmgbngeaaaGreatWords
import Derived.Deep.RegionHeld
set_option linter.unusedSimpArgs false
set_option maxRecDepth 100000
namespace Go.Proofs.YtfgecgmgbngeaaaGreat
open Go
set_option linter.unusedVariables false

section
variable {P : Program} {ops : Array Oper} {Q : Exit → Act → World → Prop} {md : Region.Mode} {S : World → Prop} {L : Nat}

/-- any order is borne, and S holds behind every operation below number L -/
def AnyT (P : Program) (md : Region.Mode) (ops : Array Oper) (Q : Exit → Act → World → Prop) (S : World → Prop) (L : Nat) : Nat → Array Bool → Act → World → Prop
  | 0 => fun done a w => Region.ready md ops done = [] ∧ Q .normal a w
  | n + 1 => fun done a w => (Region.ready md ops done = [] → Q .normal a w) ∧
      ∀ j, j ∈ Region.ready md ops done → wpOp P ops Q j (fun a1 w1 => (j < L → S w1) ∧ AnyT P md ops Q S L n (done.setIfInBounds j true) a1 w1) a w

theorem AnyT.any : ∀ {n : Nat} {done : Array Bool} {a : Act} {w : World}, AnyT P md ops Q S L n done a w → wpAny P md ops Q n done a w := by
  intro n
  induction n with
  | zero => exact fun h => h
  | succ n ih => exact fun h => ⟨h.1, fun j hj => wpOp_mono (fun _ _ k => ih k.2) (h.2 j hj)⟩

/-- every operation from number L on waits for operation i itself -/
def waitsB (md : Region.Mode) (ops : Array Oper) (L i : Nat) : Bool := (List.range ops.size).all fun j => Nat.blt j L || ((ops[j]?).map fun o => o.after.any fun e => Region.binds md e && e.on == i).getD true

theorem getD_up {l : Array Bool} {j k : Nat} {d : Bool} (h : l.getD k d = true) : (l.setIfInBounds j true).getD k d = true := by
  by_cases e : j = k
  · subst e
    rcases Nat.lt_or_ge j l.size with h' | h'
    · simp [h']
    · simp [Array.getElem?_eq_none h'] at h ⊢; exact .inr h
  · rw [getD_set_ne d e]; exact h

theorem free_up {l : Array Bool} {i j : Nat} (h : Region.free md ops l i = true) : Region.free md ops (l.setIfInBounds j true) i = true := by
  unfold Region.free at *
  cases ho : ops[i]? with
  | none => rw [ho] at h; cases h
  | some oi =>
    rw [ho] at h
    simp only [List.all_eq_true, List.mem_range] at h ⊢
    intro k hk
    have := h k hk
    simp only [Bool.or_eq_true] at this ⊢
    rcases this with (h1 | h1) | h1
    · exact .inl (.inl h1)
    · exact .inl (.inr (getD_up h1))
    · exact .inr h1

theorem AnyT.take_ {i : Nat} {oi : Oper} {v : Value} (hi : ops[i]? = some oi) (hs : Region.noSelect ops = true) (hL : waitsB md ops L i = true)
    (hQ : ∀ c a w, Q (.panic c) (a.put oi.dst v) w → Q (.panic c) a w) : ∀ {n : Nat} {done : Array Bool} {a : Act} {w : World},
    Region.free md ops done i = true → i ∈ Region.ready md ops done → YieldsIf P ops S oi v a → S w →
    AnyT P md ops Q S L n (done.setIfInBounds i true) (a.put oi.dst v) w → AnyT P md ops Q S L (n + 1) done a w := by
  intro n
  induction n with
  | zero =>
    intro done a w _ hr hy hS h
    refine ⟨fun e => (by rw [e] at hr; cases hr), fun j hj => ?_⟩
    by_cases e : j = i
    · subst e; exact hy.wpOp hi hS ⟨fun _ => hS, h⟩
    · have := ready_mono hj e
      rw [h.1] at this
      cases this
  | succ n ih =>
    intro done a w hf hr hy hS h
    have hun := (mem_ready.1 hr).1
    refine ⟨fun e => (by rw [e] at hr; cases hr), fun j hj => ?_⟩
    by_cases e : j = i
    · subst e; exact hy.wpOp hi hS ⟨fun _ => hS, h⟩
    · obtain ⟨hj0, oj, hoj, haft⟩ := mem_ready.1 hj
      have hun' : ∀ x ∈ oj.after, Region.binds md x = true → x.on ≠ i := by
        intro x hx hb heq
        have h1 := haft x hx hb
        rw [heq] at h1
        rcases Nat.lt_or_ge i done.size with h' | h'
        · simp [h'] at hun h1; rw [hun] at h1; cases h1
        · simp [Array.getElem?_eq_none h'] at h1
      have hjL : j < L := by
        have h1 := List.all_eq_true.1 hL j (List.mem_range.2 (Array.getElem?_eq_some_iff.1 hoj).1)
        rw [Bool.or_eq_true] at h1
        rcases h1 with h1 | h1
        · exact Nat.le_of_ble_eq_true h1
        · simp only [hoj, Option.map_some, Option.getD_some] at h1
          obtain ⟨x, hx, hb⟩ := Array.any_eq_true'.1 h1
          simp only [Bool.and_eq_true, beq_iff_eq] at hb
          exact absurd hb.2 (hun' x hx hb.1)
      have hap := Region.free_spec hi hf j oj hoj e hj0 hun'
      refine wpOp_mono ?_ (wpOp_putIf hoj hap (fun cs b => Region.noSelect_spec hs i oi cs b hi) (fun cs b => Region.noSelect_spec hs j oj cs b hoj) hQ hy (h.2 j (ready_mono hj e)))
      intro a1 w1 k
      have hS1 := k.2.1 hjL
      refine ⟨fun _ => hS1, ih (free_up hf) (ready_mono hr (Ne.symm e)) k.1 hS1 ?_⟩
      rw [Array.setIfInBounds_comm _ _ e]
      exact k.2.2

/-- what yields its value in whatever world is taken first, where S need not hold behind it -/
theorem AnyT.takeL_ {i : Nat} {oi : Oper} {v : Value} (hi : ops[i]? = some oi) (hs : Region.noSelect ops = true) (hL : L ≤ i)
    (hQ : ∀ c a w, Q (.panic c) (a.put oi.dst v) w → Q (.panic c) a w) : ∀ {n : Nat} {done : Array Bool} {a : Act} {w : World},
    Region.free md ops done i = true → i ∈ Region.ready md ops done → Yields P ops oi v a →
    AnyT P md ops Q S L n (done.setIfInBounds i true) (a.put oi.dst v) w → AnyT P md ops Q S L (n + 1) done a w := by
  intro n
  induction n with
  | zero =>
    intro done a w _ hr hy h
    refine ⟨fun e => (by rw [e] at hr; cases hr), fun j hj => ?_⟩
    by_cases e : j = i
    · subst e; exact hy.wpOp hi ⟨fun h => absurd h (Nat.not_lt.2 hL), h⟩
    · have := ready_mono hj e
      rw [h.1] at this
      cases this
  | succ n ih =>
    intro done a w hf hr hy h
    have hun := (mem_ready.1 hr).1
    refine ⟨fun e => (by rw [e] at hr; cases hr), fun j hj => ?_⟩
    by_cases e : j = i
    · subst e; exact hy.wpOp hi ⟨fun h => absurd h (Nat.not_lt.2 hL), h⟩
    · obtain ⟨hj0, oj, hoj, haft⟩ := mem_ready.1 hj
      have hun' : ∀ x ∈ oj.after, Region.binds md x = true → x.on ≠ i := by
        intro x hx hb heq
        have h1 := haft x hx hb
        rw [heq] at h1
        rcases Nat.lt_or_ge i done.size with h' | h'
        · simp [h'] at hun h1; rw [hun] at h1; cases h1
        · simp [Array.getElem?_eq_none h'] at h1
      have hap := Region.free_spec hi hf j oj hoj e hj0 hun'
      refine wpOp_mono ?_ (wpOp_put hoj hap (fun cs b => Region.noSelect_spec hs i oi cs b hi) (fun cs b => Region.noSelect_spec hs j oj cs b hoj) hQ hy (h.2 j (ready_mono hj e)))
      intro a1 w1 k
      refine ⟨k.2.1, ih (free_up hf) (ready_mono hr (Ne.symm e)) k.1 ?_⟩
      rw [Array.setIfInBounds_comm _ _ e]
      exact k.2.2
theorem AnyT.takeL {i : Nat} {oi : Oper} {v : Value} {n : Nat} {done : Array Bool} {a : Act} {w : World} (hi : ops[i]? = some oi) (hs : Region.noSelect ops = true) (hL : Nat.ble L i = true)
    (hQ : ∀ c a w, Q (.panic c) (a.put oi.dst v) w → Q (.panic c) a w) (hf : Region.free md ops done i = true) (hr : (Region.ready md ops done).contains i = true) (hy : Yields P ops oi v a)
    (h : AnyT P md ops Q S L n (done.setIfInBounds i true) (a.put oi.dst v) w) : AnyT P md ops Q S L (n + 1) done a w :=
  AnyT.takeL_ hi hs (Nat.le_of_ble_eq_true hL) hQ hf (by simpa using hr) hy h

/-- what yields its value wherever S holds is taken first -/
theorem AnyT.take {i : Nat} {oi : Oper} {v : Value} {n : Nat} {done : Array Bool} {a : Act} {w : World} (hi : ops[i]? = some oi) (hs : Region.noSelect ops = true) (hL : waitsB md ops L i = true)
    (hQ : ∀ c a w, Q (.panic c) (a.put oi.dst v) w → Q (.panic c) a w) (hf : Region.free md ops done i = true) (hr : (Region.ready md ops done).contains i = true) (hy : YieldsIf P ops S oi v a) (hS : S w)
    (h : AnyT P md ops Q S L n (done.setIfInBounds i true) (a.put oi.dst v) w) : AnyT P md ops Q S L (n + 1) done a w :=
  AnyT.take_ hi hs hL hQ hf (by simpa using hr) hy hS h

/-- one alone may come up -/
theorem AnyT.one {i : Nat} {o : Oper} {n : Nat} {done : Array Bool} {a : Act} {w : World} (hr : Region.ready md ops done = [i]) (ho : ops[i]? = some o)
    (h : ∀ K : Act → World → Prop, Shut (∀ a1 w1, (i < L → S w1) → AnyT P md ops Q S L n (done.setIfInBounds i true) a1 w1 → K a1 w1) → if Region.wanted o (yielded ops a.tmps) = true then Oper.wp P o a w K Q else K (a.put o.dst undef) w) :
    AnyT P md ops Q S L (n + 1) done a w := by
  refine ⟨fun e => (by rw [hr] at e; cases e), fun j hj => ?_⟩
  rw [hr] at hj
  cases List.mem_singleton.1 hj
  exact wpOp_step ho fun K hK => h K fun a1 w1 h1 h2 => hK a1 w1 ⟨h1, h2⟩

theorem AnyT.nil {n : Nat} {done : Array Bool} {a : Act} {w : World} (hr : Region.ready md ops done = []) (h : Q .normal a w) : AnyT P md ops Q S L n done a w := by
  cases n with
  | zero => exact ⟨hr, h⟩
  | succ n => exact ⟨fun _ => h, fun j hj => by rw [hr] at hj; cases hj⟩

theorem wp_region_T {id : Nat} {a : Act} {w : World} (S : World → Prop) (L : Nat) (hm : P.follows .mixedOrders = true)
    (h : AnyT P .any ops Q S L ops.size (Array.replicate ops.size false) a w.drew) : (Code.region id ops true).wp P Q a w :=
  wp_region_any hm h.any
end
end Go.Proofs.YtfgecgmgbngeaaaGreat

set_option maxRecDepth 100000
namespace Go.Proofs.YtfgecgmgbngeaaaGreat
open Go
set_option linter.unusedVariables false

section
variable {P : Program} {ops : Array Oper} {Q : Exit → Act → World → Prop} {md : Region.Mode} {S : World → Prop} {L : Nat}

theorem AnyT.takeM_ {i : Nat} {oi : Oper} {v : Value} {R : Nat → Bool} (hi : ops[i]? = some oi) (hs : Region.noSelect ops = true)
    (hR0 : ∀ k, R k = true → k = i ∨ ∃ o, ops[k]? = some o ∧ ∃ e ∈ o.after, Region.binds md e = true ∧ R e.on = true)
    (hRL : ∀ (k : Nat) (o : Oper), ops[k]? = some o → L ≤ k → R k = true)
    (hQ : ∀ c a w, Q (.panic c) (a.put oi.dst v) w → Q (.panic c) a w) : ∀ {n : Nat} {done : Array Bool} {a : Act} {w : World},
    Region.free md ops done i = true → i ∈ Region.ready md ops done → (∀ k, R k = true → done.getD k false = false) → YieldsIf P ops S oi v a → S w →
    AnyT P md ops Q S L n (done.setIfInBounds i true) (a.put oi.dst v) w → AnyT P md ops Q S L (n + 1) done a w := by
  intro n
  induction n with
  | zero =>
    intro done a w _ hr _ hy hS h
    refine ⟨fun e => (by rw [e] at hr; cases hr), fun j hj => ?_⟩
    by_cases e : j = i
    · subst e; exact hy.wpOp hi hS ⟨fun _ => hS, h⟩
    · have := ready_mono hj e
      rw [h.1] at this
      cases this
  | succ n ih =>
    intro done a w hf hr hD hy hS h
    have hun := (mem_ready.1 hr).1
    refine ⟨fun e => (by rw [e] at hr; cases hr), fun j hj => ?_⟩
    by_cases e : j = i
    · subst e; exact hy.wpOp hi hS ⟨fun _ => hS, h⟩
    · obtain ⟨hj0, oj, hoj, haft⟩ := mem_ready.1 hj
      have hun' : ∀ x ∈ oj.after, Region.binds md x = true → x.on ≠ i := by
        intro x hx hb heq
        have h1 := haft x hx hb
        rw [heq] at h1
        rcases Nat.lt_or_ge i done.size with h' | h'
        · simp [h'] at hun h1; rw [hun] at h1; cases h1
        · simp [Array.getElem?_eq_none h'] at h1
      have hjR : ¬ R j = true := by
        intro hRj
        rcases hR0 j hRj with e' | ⟨o, ho, x, hx, hb, hRx⟩
        · exact e e'
        · rw [hoj] at ho
          cases ho
          have h1 := haft x hx hb
          rw [hD x.on hRx] at h1
          cases h1
      have hjL : j < L := Nat.lt_of_not_le fun hl => hjR (hRL j oj hoj hl)
      have hD' : ∀ k, R k = true → (done.setIfInBounds j true).getD k false = false := fun k hk => by
        have e' : ¬ j = k := fun e' => hjR (e' ▸ hk)
        rw [getD_set_ne false e']
        exact hD k hk
      have hap := Region.free_spec hi hf j oj hoj e hj0 hun'
      refine wpOp_mono ?_ (wpOp_putIf hoj hap (fun cs b => Region.noSelect_spec hs i oi cs b hi) (fun cs b => Region.noSelect_spec hs j oj cs b hoj) hQ hy (h.2 j (ready_mono hj e)))
      intro a1 w1 k
      have hS1 := k.2.1 hjL
      refine ⟨fun _ => hS1, ih (free_up hf) (ready_mono hr (Ne.symm e)) hD' k.1 hS1 ?_⟩
      rw [Array.setIfInBounds_comm _ _ e]
      exact k.2.2

/-- what waits for operation i, by way of whatever -/
def downs (md : Region.Mode) (ops : Array Oper) (i : Nat) : Array Bool :=
  ops.toList.foldl (fun r o => r.push (r.size == i || o.after.any fun e => Region.binds md e && r.getD e.on false)) #[]
def downAt (ops : Array Oper) (r : Array Bool) (k : Nat) : Bool := Nat.blt k ops.size && r.getD k false
/-- the marked ones are not done; each but i waits for a marked one; all from L on are marked -/
def downOk (md : Region.Mode) (ops : Array Oper) (L i : Nat) (done r : Array Bool) : Bool :=
  (List.range ops.size).all fun k => ((ops[k]?).map fun o =>
    (!downAt ops r k || ((k == i || o.after.any fun e => Region.binds md e && downAt ops r e.on) && !done.getD k false)) && (Nat.blt k L || downAt ops r k)).getD true

theorem AnyT.takeM {i : Nat} {oi : Oper} {v : Value} {n : Nat} {done : Array Bool} {a : Act} {w : World} (hi : ops[i]? = some oi) (hs : Region.noSelect ops = true) (hL : downOk md ops L i done (downs md ops i) = true)
    (hQ : ∀ c a w, Q (.panic c) (a.put oi.dst v) w → Q (.panic c) a w) (hf : Region.free md ops done i = true) (hr : (Region.ready md ops done).contains i = true) (hy : YieldsIf P ops S oi v a) (hS : S w)
    (h : AnyT P md ops Q S L n (done.setIfInBounds i true) (a.put oi.dst v) w) : AnyT P md ops Q S L (n + 1) done a w := by
  have key : ∀ (k : Nat) (o : Oper), ops[k]? = some o → ((!downAt ops (downs md ops i) k || ((k == i || o.after.any fun e => Region.binds md e && downAt ops (downs md ops i) e.on) && !done.getD k false)) && (Nat.blt k L || downAt ops (downs md ops i) k)) = true := fun k o ho => by
    have h1 := List.all_eq_true.1 hL k (List.mem_range.2 (Array.getElem?_eq_some_iff.1 ho).1)
    rw [ho] at h1
    exact h1
  have lt : ∀ k, downAt ops (downs md ops i) k = true → k < ops.size := fun k hk => by
    unfold downAt at hk
    rw [Bool.and_eq_true] at hk
    exact Nat.le_of_ble_eq_true hk.1
  refine AnyT.takeM_ (R := downAt ops (downs md ops i)) hi hs (fun k hk => ?_) (fun k o ho hl => ?_) hQ hf (by simpa using hr) (fun k hk => ?_) hy hS h
  · have h2 := key k _ (Array.getElem?_eq_getElem (lt k hk))
    rw [hk] at h2
    simp only [Bool.not_true, Bool.false_or, Bool.and_eq_true, Bool.or_eq_true, beq_iff_eq] at h2
    rcases h2.1.1 with e | e
    · exact .inl e
    · obtain ⟨x, hx, hb⟩ := Array.any_eq_true'.1 e
      rw [Bool.and_eq_true] at hb
      exact .inr ⟨_, Array.getElem?_eq_getElem (lt k hk), x, hx, hb.1, hb.2⟩
  · have h2 := key k o ho
    simp only [Bool.and_eq_true, Bool.or_eq_true] at h2
    rcases h2.2 with e | e
    · have := Nat.le_of_ble_eq_true e
      omega
    · exact e
  · have h2 := key k _ (Array.getElem?_eq_getElem (lt k hk))
    rw [hk] at h2
    simp only [Bool.not_true, Bool.false_or, Bool.and_eq_true, Bool.not_eq_true'] at h2
    exact h2.1.2
end
end Go.Proofs.YtfgecgmgbngeaaaGreat

set_option maxRecDepth 100000
namespace Go.Proofs.YtfgecgmgbngeaaaGreat
open Go.RowKit
set_option linter.unusedVariables false
/-- two may come up -/
theorem AnyT.pair {P : Program} {ops : Array Oper} {Q : Exit → Act → World → Prop} {md : Region.Mode} {S : World → Prop} {L : Nat} {i j : Nat} {oi oj : Oper} {n : Nat} {done : Array Bool} {a : Act} {w : World} (hr : Region.ready md ops done = [i, j]) (hoi : ops[i]? = some oi) (hoj : ops[j]? = some oj)
    (hi : ∀ K : Act → World → Prop, Hid (∀ a1 w1, (i < L → S w1) → AnyT P md ops Q S L n (done.setIfInBounds i true) a1 w1 → K a1 w1) → if Region.wanted oi (yielded ops a.tmps) = true then Oper.wp P oi a w K Q else K (a.put oi.dst undef) w)
    (hj : ∀ K : Act → World → Prop, Hid (∀ a1 w1, (j < L → S w1) → AnyT P md ops Q S L n (done.setIfInBounds j true) a1 w1 → K a1 w1) → if Region.wanted oj (yielded ops a.tmps) = true then Oper.wp P oj a w K Q else K (a.put oj.dst undef) w) :
    AnyT P md ops Q S L (n + 1) done a w := by
  refine ⟨fun e => (by rw [hr] at e; cases e), fun k hk => ?_⟩
  rw [hr] at hk
  rcases List.mem_cons.1 hk with rfl | hk
  · exact wpOp_step hoi fun K hK => hi K (hide fun a1 w1 h1 h2 => hK a1 w1 ⟨h1, h2⟩)
  · cases List.mem_singleton.1 hk
    exact wpOp_step hoj fun K hK => hj K (hide fun a1 w1 h1 h2 => hK a1 w1 ⟨h1, h2⟩)
end Go.Proofs.YtfgecgmgbngeaaaGreat
