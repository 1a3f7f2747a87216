/- Orders of a region: a condition on the world is held behind every operation below L; the ones from L on wait for the others by way of others. -/
import Derived.Test.YtncchbcoldgpbaaOrdT
namespace Go.Proofs.Ytncchbcoldgpbaa
open Go
set_option linter.unusedVariables false

section
variable {P : Program} {ops : Array Oper} {Q : Exit → Act → World → Prop} {md : Region.Mode} {S : World → Prop} {L : Nat}

theorem AnyT.takeM_ {i : Nat} {oi : Oper} {v : Value} {R : Nat → Bool} (hi : ops[i]? = some oi) (hs : Region.noSelect ops = true)
    (hR0 : ∀ k, R k = true → k = i ∨ ∃ o, ops[k]? = some o ∧ ∃ e ∈ o.after, Region.binds md e = true ∧ R e.on = true)
    (hRL : ∀ (k : Nat) (o : Oper), ops[k]? = some o → L ≤ k → R k = true)
    (hQ : ∀ c a w, Q (.panic c) (a.put oi.dst v) w → Q (.panic c) a w) : ∀ {n : Nat} {done : Array Bool} {a : Act} {w : World},
    Region.free md ops done i = true → i ∈ Region.ready md ops done → (∀ k, R k = true → done.getD k false = false) → YieldsIf P ops S oi v a → S w →
    AnyT P md ops Q S L n (done.setIfInBounds i true) (a.put oi.dst v) w → AnyT P md ops Q S L (n + 1) done a w := by
  intro n
  induction n with
  | zero =>
    intro done a w _ hr _ hy hS h
    refine ⟨fun e => (by rw [e] at hr; cases hr), fun j hj => ?_⟩
    by_cases e : j = i
    · subst e; exact hy.wpOp hi hS ⟨fun _ => hS, h⟩
    · have := ready_mono hj e
      rw [h.1] at this
      cases this
  | succ n ih =>
    intro done a w hf hr hD hy hS h
    have hun := (mem_ready.1 hr).1
    refine ⟨fun e => (by rw [e] at hr; cases hr), fun j hj => ?_⟩
    by_cases e : j = i
    · subst e; exact hy.wpOp hi hS ⟨fun _ => hS, h⟩
    · obtain ⟨hj0, oj, hoj, haft⟩ := mem_ready.1 hj
      have hun' : ∀ x ∈ oj.after, Region.binds md x = true → x.on ≠ i := by
        intro x hx hb heq
        have h1 := haft x hx hb
        rw [heq] at h1
        rcases Nat.lt_or_ge i done.size with h' | h'
        · simp [h'] at hun h1; rw [hun] at h1; cases h1
        · simp [Array.getElem?_eq_none h'] at h1
      have hjR : ¬ R j = true := by
        intro hRj
        rcases hR0 j hRj with e' | ⟨o, ho, x, hx, hb, hRx⟩
        · exact e e'
        · rw [hoj] at ho
          cases ho
          have h1 := haft x hx hb
          rw [hD x.on hRx] at h1
          cases h1
      have hjL : j < L := Nat.lt_of_not_le fun hl => hjR (hRL j oj hoj hl)
      have hD' : ∀ k, R k = true → (done.setIfInBounds j true).getD k false = false := fun k hk => by
        have e' : ¬ j = k := fun e' => hjR (e' ▸ hk)
        rw [getD_set_ne false e']
        exact hD k hk
      have hap := Region.free_spec hi hf j oj hoj e hj0 hun'
      refine wpOp_mono ?_ (wpOp_putIf hoj hap (fun cs b => Region.noSelect_spec hs i oi cs b hi) (fun cs b => Region.noSelect_spec hs j oj cs b hoj) hQ hy (h.2 j (ready_mono hj e)))
      intro a1 w1 k
      have hS1 := k.2.1 hjL
      refine ⟨fun _ => hS1, ih (free_up hf) (ready_mono hr (Ne.symm e)) hD' k.1 hS1 ?_⟩
      rw [Array.setIfInBounds_comm _ _ e]
      exact k.2.2

/-- what waits for operation i, by way of whatever -/
def downs (md : Region.Mode) (ops : Array Oper) (i : Nat) : Array Bool :=
  ops.toList.foldl (fun r o => r.push (r.size == i || o.after.any fun e => Region.binds md e && r.getD e.on false)) #[]
def downAt (ops : Array Oper) (r : Array Bool) (k : Nat) : Bool := Nat.blt k ops.size && r.getD k false
/-- the marked ones are not done; each but i waits for a marked one; all from L on are marked -/
def downOk (md : Region.Mode) (ops : Array Oper) (L i : Nat) (done r : Array Bool) : Bool :=
  (List.range ops.size).all fun k => ((ops[k]?).map fun o =>
    (!downAt ops r k || ((k == i || o.after.any fun e => Region.binds md e && downAt ops r e.on) && !done.getD k false)) && (Nat.blt k L || downAt ops r k)).getD true

theorem AnyT.takeM {i : Nat} {oi : Oper} {v : Value} {n : Nat} {done : Array Bool} {a : Act} {w : World} (hi : ops[i]? = some oi) (hs : Region.noSelect ops = true) (hL : downOk md ops L i done (downs md ops i) = true)
    (hQ : ∀ c a w, Q (.panic c) (a.put oi.dst v) w → Q (.panic c) a w) (hf : Region.free md ops done i = true) (hr : (Region.ready md ops done).contains i = true) (hy : YieldsIf P ops S oi v a) (hS : S w)
    (h : AnyT P md ops Q S L n (done.setIfInBounds i true) (a.put oi.dst v) w) : AnyT P md ops Q S L (n + 1) done a w := by
  have key : ∀ (k : Nat) (o : Oper), ops[k]? = some o → ((!downAt ops (downs md ops i) k || ((k == i || o.after.any fun e => Region.binds md e && downAt ops (downs md ops i) e.on) && !done.getD k false)) && (Nat.blt k L || downAt ops (downs md ops i) k)) = true := fun k o ho => by
    have h1 := List.all_eq_true.1 hL k (List.mem_range.2 (Array.getElem?_eq_some_iff.1 ho).1)
    rw [ho] at h1
    exact h1
  have lt : ∀ k, downAt ops (downs md ops i) k = true → k < ops.size := fun k hk => by
    unfold downAt at hk
    rw [Bool.and_eq_true] at hk
    exact Nat.le_of_ble_eq_true hk.1
  refine AnyT.takeM_ (R := downAt ops (downs md ops i)) hi hs (fun k hk => ?_) (fun k o ho hl => ?_) hQ hf (by simpa using hr) (fun k hk => ?_) hy hS h
  · have h2 := key k _ (Array.getElem?_eq_getElem (lt k hk))
    rw [hk] at h2
    simp only [Bool.not_true, Bool.false_or, Bool.and_eq_true, Bool.or_eq_true, beq_iff_eq] at h2
    rcases h2.1.1 with e | e
    · exact .inl e
    · obtain ⟨x, hx, hb⟩ := Array.any_eq_true'.1 e
      rw [Bool.and_eq_true] at hb
      exact .inr ⟨_, Array.getElem?_eq_getElem (lt k hk), x, hx, hb.1, hb.2⟩
  · have h2 := key k o ho
    simp only [Bool.and_eq_true, Bool.or_eq_true] at h2
    rcases h2.2 with e | e
    · have := Nat.le_of_ble_eq_true e
      omega
    · exact e
  · have h2 := key k _ (Array.getElem?_eq_getElem (lt k hk))
    rw [hk] at h2
    simp only [Bool.not_true, Bool.false_or, Bool.and_eq_true, Bool.not_eq_true'] at h2
    exact h2.1.2
end
end Go.Proofs.Ytncchbcoldgpbaa
