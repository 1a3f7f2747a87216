/- A drive as data: files by their names, deeds, and what a crash leaves of them. Plain theorems. -/
import Derived.Test.YtliimeoblffigaaGreatProg
import Derived.Maps.Own
import Derived.Maps.OwnSet
import Derived.Maps.Views
set_option linter.unusedVariables false
set_option linter.unusedSimpArgs false
set_option maxRecDepth 100000
namespace Go.Proofs.YtliimeoblffigaaGreat
set_option linter.unusedVariables false

abbrev Nm := List UInt8
/-- files by their names -/
abbrev Fls := Nm → Option (List UInt8)
def noF : Fls := fun _ => none
def setF (f : Fls) (n : Nm) (v : Option (List UInt8)) : Fls := fun k => if k = n then v else f k
theorem setF_same (f : Fls) (n : Nm) (v : Option (List UInt8)) : setF f n v n = v := if_pos rfl
theorem setF_ne (f : Fls) {n k : Nm} (h : k ≠ n) (v : Option (List UInt8)) : setF f n v k = f k := if_neg h
/-- what stands in a file behind a write of d at a place -/
def wrL (old : List UInt8) (a : Nat) (d : List UInt8) : List UInt8 := (old.take a ++ List.replicate (a - old.length) 0) ++ d ++ old.drop (a + d.length)
theorem wrL_length (old : List UInt8) (a : Nat) (d : List UInt8) : (wrL old a d).length = max old.length (a + d.length) := by
 simp only [wrL, List.length_append, List.length_take, List.length_replicate, List.length_drop]
 omega
/-- a deed: what is done to the files -/
inductive Deed where
 | wr (n : Nm) (a : Nat) (d : List UInt8)
 | mv (a b : Nm)
 | rm (n : Nm)
 | tr (n : Nm) (s : Nat)
def Deed.units : Deed → Nat
 | .wr _ _ d => d.length + 1
 | _ => 1
/-- the first n units of a deed -/
def Deed.app (f : Fls) : Deed → Nat → Fls
 | .wr k a d, n => setF f k (some (wrL ((f k).getD []) a (d.take (n - 1))))
 | .mv a b, _ => setF (setF f a none) b (some ((f a).getD []))
 | .rm k, _ => setF f k none
 | .tr k s, _ => setF f k (some (((f k).getD []).take s))
def Deed.all (f : Fls) (x : Deed) : Fls := x.app f x.units
theorem Deed.all_wr (f : Fls) (k : Nm) (a : Nat) (d : List UInt8) : (Deed.wr k a d).all f = setF f k (some (wrL ((f k).getD []) a d)) := by
 show setF f k (some (wrL ((f k).getD []) a (d.take (d.length + 1 - 1)))) = _
 rw [Nat.add_sub_cancel, List.take_length]
def doneF (f : Fls) (q : List Deed) : Fls := q.foldl Deed.all f
theorem doneF_snoc (f : Fls) (q : List Deed) (x : Deed) : doneF f (q ++ [x]) = x.all (doneF f q) := by simp [doneF]
def unitsQ (q : List Deed) : Nat := (q.map Deed.units).sum
/-- what a crash leaves: the first so many units of the queue -/
def crashF : Fls → List Deed → Nat → Fls
 | f, [], _ => f
 | f, x :: r, k => if k = 0 then f else crashF (x.app f (min k x.units)) r (k - min k x.units)
/-- a property that each deed keeps, whole or in part, is kept by a crash -/
theorem crash_inv {P : Fls → Prop} : ∀ {q : List Deed} {f : Fls} (k : Nat), P f → (∀ x ∈ q, ∀ f n, P f → P (x.app f n)) → P (crashF f q k)
 | [], f, k, h, _ => h
 | x :: r, f, k, h, hq => by
  unfold crashF
  split
  ·exact h
  ·exact crash_inv _ (hq x (by simp) f _ h) fun y hy => hq y (by simp [hy])
end Go.Proofs.YtliimeoblffigaaGreat

set_option maxRecDepth 100000
namespace Go.Proofs.YtliimeoblffigaaGreat
open Go Go.WideShapes
set_option linter.unusedVariables false

section
variable {κ α H : Type} (kl : κ → Lit)
def aIns (x : κ × α) : List (κ × α) → List (κ × α)
 | [] => [x]
 | y :: r => if (kl x.1).before (kl y.1) then x :: y :: r else y :: aIns x r
def aDel (k : κ) (l : List (κ × α)) : List (κ × α) := l.filter fun p => !(kl p.1).sameKey (kl k)
def aPut (k : κ) (v : α) (l : List (κ × α)) : List (κ × α) := aIns kl (k, v) (aDel kl k l)
def aGet (l : List (κ × α)) (k : κ) : Option α := (l.find? fun p => (kl p.1).sameKey (kl k)).map (·.2)
def dat (e : α → DataW H) (l : List (κ × α)) : DataW H := .map (l.map fun p => (kl p.1, e p.2))
theorem ins_map (e : α → DataW H) (x : κ × α) : ∀ l : List (κ × α), DataW.insert (kl x.1, e x.2) (l.map fun p => (kl p.1, e p.2)) = (aIns kl x l).map fun p => (kl p.1, e p.2)
 | [] => rfl
 | y :: r => by
  simp only [List.map_cons, DataW.insert, aIns]
  split
  ·rfl
  ·rw [ins_map e x r]; rfl
theorem filter_map' (e : α → DataW H) (k : κ) : ∀ l : List (κ × α), (l.map fun p => (kl p.1, e p.2)).filter (fun p => !p.1.sameKey (kl k)) = (aDel kl k l).map fun p => (kl p.1, e p.2)
 | [] => rfl
 | y :: r => by
  have ih := filter_map' e k r
  simp only [aDel] at ih ⊢
  rw [List.map_cons, List.filter_cons, List.filter_cons]
  by_cases h : (!(kl y.1).sameKey (kl k)) = true
  ·rw [if_pos h, if_pos h, ih]; rfl
  ·rw [if_neg h, if_neg h, ih]
theorem dat_put (e : α → DataW H) (l : List (κ × α)) (k : κ) (v : α) : (dat kl e l).put (kl k) (e v) = dat kl e (aPut kl k v l) := by
 show DataW.map (DataW.insert (kl k, e v) ((l.map fun p => (kl p.1, e p.2)).filter fun p => !p.1.sameKey (kl k))) = _
 rw [filter_map', ins_map kl e (k, v)]
 rfl
theorem dat_del (e : α → DataW H) (l : List (κ × α)) (k : κ) : (dat kl e l).del (kl k) = dat kl e (aDel kl k l) := by
 show DataW.map ((l.map fun p => (kl p.1, e p.2)).filter fun p => !p.1.sameKey (kl k)) = _
 rw [filter_map']
 rfl
theorem dat_find (e : α → DataW H) (l : List (κ × α)) (k : κ) : (l.map fun p => (kl p.1, e p.2)).find? (fun p => p.1.sameKey (kl k)) = (l.find? fun p => (kl p.1).sameKey (kl k)).map fun p => (kl p.1, e p.2) := by
 induction l with
 | nil => rfl
 | cons y r ih =>
  rw [List.map_cons, List.find?_cons, List.find?_cons]
  cases h : (kl y.1).sameKey (kl k) <;> simp [ih]
theorem dat_at (e : α → DataW H) (l : List (κ × α)) (k : κ) (z : DataW H) : (dat kl e l).atKey (kl k) z = ((aGet kl l k).map e).getD z := by
 show (match (l.map fun p => (kl p.1, e p.2)).find? (fun p => p.1.sameKey (kl k)) with | some p => p.2 | none => z) = _
 rw [dat_find]
 unfold aGet
 cases l.find? (fun p => (kl p.1).sameKey (kl k)) <;> rfl
theorem dat_has (e : α → DataW H) (l : List (κ × α)) (k : κ) : Maps.has (dat kl e l) (kl k) = (aGet kl l k).isSome := by
 show (l.map fun p => (kl p.1, e p.2)).any (fun p => p.1.sameKey (kl k)) = _
 rw [← List.isSome_find?, dat_find]
 unfold aGet
 cases l.find? (fun p => (kl p.1).sameKey (kl k)) <;> rfl
theorem dat_size (e : α → DataW H) (l : List (κ × α)) : Maps.size (dat kl e l) = l.length := by simp [dat, Maps.size]
theorem dat_has_any (e : α → DataW H) (l : List (κ × α)) (z : Lit) : Maps.has (dat kl e l) z = l.any fun p => (kl p.1).sameKey z := by
 show (l.map fun p => (kl p.1, e p.2)).any (fun p => p.1.sameKey z) = _
 rw [List.any_map]; rfl

/-- keys that are told apart -/
structure KeyK : Prop where
 inj : ∀ a b, kl a = kl b → a = b
 key : ∀ a, WideAt.IsKeyLit (kl a)
variable {kl}
theorem KeyK.same (K : KeyK kl) (a b : κ) : (kl a).sameKey (kl b) = true ↔ a = b := by
 constructor
 ·intro h; exact K.inj _ _ (WideAt.sameKey_eq h)
 ·intro h; subst h; exact WideAt.sameKey_self (K.key _)
theorem KeyK.ne (K : KeyK kl) {a b : κ} (h : a ≠ b) : (kl a).sameKey (kl b) = false := by
 cases e : (kl a).sameKey (kl b)
 ·rfl
 ·exact absurd ((K.same a b).1 e) h
theorem mem_ins {x p : κ × α} : ∀ {l : List (κ × α)}, p ∈ aIns kl x l ↔ p = x ∨ p ∈ l
 | [] => by simp [aIns]
 | y :: r => by
  unfold aIns
  split
  ·simp
  ·rw [List.mem_cons, mem_ins, List.mem_cons]
   constructor <;> (intro h; rcases h with h | h | h <;> simp [h])
theorem mem_del (K : KeyK kl) {k : κ} {p : κ × α} {l : List (κ × α)} : p ∈ aDel kl k l ↔ p ∈ l ∧ p.1 ≠ k := by
 unfold aDel
 rw [List.mem_filter]
 constructor
 ·rintro ⟨h1, h2⟩
  refine ⟨h1, fun e => ?_⟩
  rw [e, (K.same k k).2 rfl] at h2
  cases h2
 ·rintro ⟨h1, h2⟩
  exact ⟨h1, by rw [K.ne h2]; rfl⟩
theorem mem_put (K : KeyK kl) {k : κ} {v : α} {p : κ × α} {l : List (κ × α)} : p ∈ aPut kl k v l ↔ p = (k, v) ∨ (p ∈ l ∧ p.1 ≠ k) := by
 unfold aPut
 rw [mem_ins, mem_del K]
/-- no key stands twice -/
def Once (l : List (κ × α)) : Prop := l.Pairwise fun p q => p.1 ≠ q.1
theorem Once.nil_ : Once ([] : List (κ × α)) := List.Pairwise.nil
theorem once_ins {x : κ × α} : ∀ {l : List (κ × α)}, Once l → (∀ p ∈ l, p.1 ≠ x.1) → Once (aIns kl x l)
 | [], _, _ => by simp [aIns, Once]
 | y :: r, h, hx => by
  obtain ⟨h1, h2⟩ := List.pairwise_cons.1 h
  unfold aIns
  split
  ·exact List.pairwise_cons.2 ⟨fun p hp => (hx p hp).symm, h⟩
  ·refine List.pairwise_cons.2 ⟨fun p hp => ?_, once_ins h2 fun p hp => hx p (by simp [hp])⟩
   rcases mem_ins.1 hp with rfl | hp
   ·exact hx y (by simp)
   ·exact h1 p hp
theorem Once.del {l : List (κ × α)} (h : Once l) (k : κ) : Once (aDel kl k l) := h.filter _
theorem Once.put (K : KeyK kl) {l : List (κ × α)} (h : Once l) (k : κ) (v : α) : Once (aPut kl k v l) :=
 once_ins (h.del k) fun p hp => ((mem_del K).1 hp).2
theorem get_mem (K : KeyK kl) {l : List (κ × α)} {k : κ} {v : α} (h : aGet kl l k = some v) : (k, v) ∈ l := by
 unfold aGet at h
 obtain ⟨p, hp, rfl⟩ := Option.map_eq_some_iff.1 h
 have h1 := List.find?_some hp
 have h2 := List.mem_of_find?_eq_some hp
 rw [← (K.same _ _).1 h1]
 exact h2
theorem mem_get (K : KeyK kl) : ∀ {l : List (κ × α)} {k : κ} {v : α}, Once l → (k, v) ∈ l → aGet kl l k = some v
 | [], _, _, _, h => by simp at h
 | y :: r, k, v, ho, h => by
  obtain ⟨h1, h2⟩ := List.pairwise_cons.1 ho
  unfold aGet
  rw [List.find?_cons]
  rcases List.mem_cons.1 h with e | h
  ·subst e
   rw [(K.same k k).2 rfl]
   rfl
  ·rw [K.ne (h1 _ h)]
   exact mem_get K h2 h
theorem get_none (K : KeyK kl) {l : List (κ × α)} {k : κ} (h : ∀ p ∈ l, p.1 ≠ k) : aGet kl l k = none := by
 cases e : aGet kl l k with
 | none => rfl
 | some v => exact absurd rfl (h _ (get_mem K e))
theorem get_none_iff (K : KeyK kl) {l : List (κ × α)} (ho : Once l) {k : κ} : aGet kl l k = none ↔ ∀ p ∈ l, p.1 ≠ k := by
 refine ⟨fun h p hp e => ?_, get_none K⟩
 have := mem_get K ho (k := p.1) (v := p.2) hp
 rw [e, h] at this
 cases this
theorem put_same (K : KeyK kl) {l : List (κ × α)} (ho : Once l) (k : κ) (v : α) : aGet kl (aPut kl k v l) k = some v := mem_get K (ho.put K k v) ((mem_put K).2 (.inl rfl))
theorem get_ext (K : KeyK kl) {l l' : List (κ × α)} (ho : Once l) (ho' : Once l') {k : κ} (h : ∀ v, (k, v) ∈ l ↔ (k, v) ∈ l') : aGet kl l k = aGet kl l' k := by
 cases e : aGet kl l k with
 | some v => exact (mem_get K ho' ((h v).1 (get_mem K e))).symm
 | none =>
  cases e' : aGet kl l' k with
  | none => rfl
  | some v => rw [mem_get K ho ((h v).2 (get_mem K e'))] at e; cases e
theorem put_other (K : KeyK kl) {l : List (κ × α)} (ho : Once l) {k k' : κ} (hne : k' ≠ k) (v : α) : aGet kl (aPut kl k v l) k' = aGet kl l k' :=
 get_ext K (ho.put K k v) ho fun u => by
  rw [mem_put K]
  constructor
  ·rintro (e | ⟨h, _⟩)
   ·exact absurd (congrArg Prod.fst e) hne
   ·exact h
  ·intro h; exact .inr ⟨h, hne⟩
theorem del_same (K : KeyK kl) {l : List (κ × α)} (k : κ) : aGet kl (aDel kl k l) k = none := get_none K fun p hp => ((mem_del K).1 hp).2
theorem del_other (K : KeyK kl) {l : List (κ × α)} (ho : Once l) {k k' : κ} (hne : k' ≠ k) : aGet kl (aDel kl k l) k' = aGet kl l k' :=
 get_ext K (ho.del k) ho fun u => by
  rw [mem_del K]
  exact ⟨fun h => h.1, fun h => ⟨h, hne⟩⟩
theorem length_ins (x : κ × α) : ∀ l : List (κ × α), (aIns kl x l).length = l.length + 1
 | [] => rfl
 | y :: r => by
  unfold aIns
  split
  ·rfl
  ·simp [length_ins x r]
theorem del_none (K : KeyK kl) {l : List (κ × α)} {k : κ} (h : ∀ p ∈ l, p.1 ≠ k) : aDel kl k l = l := by
 unfold aDel
 rw [List.filter_eq_self]
 intro p hp
 rw [K.ne (h p hp)]; rfl
theorem length_put_new (K : KeyK kl) {l : List (κ × α)} {k : κ} (h : ∀ p ∈ l, p.1 ≠ k) (v : α) : (aPut kl k v l).length = l.length + 1 := by
 unfold aPut
 rw [length_ins, del_none K h]
theorem length_del_le (k : κ) (l : List (κ × α)) : (aDel kl k l).length ≤ l.length := List.length_filter_le _ _
theorem length_put_le (k : κ) (v : α) (l : List (κ × α)) : (aPut kl k v l).length ≤ l.length + 1 := by
 unfold aPut
 rw [length_ins]
 have := length_del_le (kl := kl) k l
 omega
theorem length_del_has (K : KeyK kl) : ∀ {l : List (κ × α)} {k : κ} {v : α}, Once l → (k, v) ∈ l → (aDel kl k l).length + 1 = l.length
 | [], _, _, _, h => by simp at h
 | y :: r, k, v, ho, h => by
  obtain ⟨h1, h2⟩ := List.pairwise_cons.1 ho
  rcases List.mem_cons.1 h with e | h
  ·subst e
   have e2 : aDel kl k ((k, v) :: r) = aDel kl k r := by
    unfold aDel
    rw [List.filter_cons, if_neg (by rw [(K.same k k).2 rfl]; simp)]
   rw [e2, del_none K fun p hp => (h1 p hp).symm]
   rfl
  ·have e2 : aDel kl k (y :: r) = y :: aDel kl k r := by
    unfold aDel
    rw [List.filter_cons, if_pos (by rw [K.ne (h1 _ h)]; rfl)]
   rw [e2, List.length_cons, List.length_cons, length_del_has K h2 h]
theorem length_put_has (K : KeyK kl) {l : List (κ × α)} {k : κ} {u : α} (ho : Once l) (h : (k, u) ∈ l) (v : α) : (aPut kl k v l).length = l.length := by
 unfold aPut
 rw [length_ins, length_del_has K ho h]
end

/-! ### two kinds of keys -/
def klI (i : Nat) : Lit := .int .i64 (i : Int)
def klZ (i : Int) : Lit := .int .i64 i
def klS (s : List UInt8) : Lit := .string s
theorem keyI : KeyK klI := ⟨fun a b h => by injection h with _ h; omega, fun _ => trivial⟩
theorem keyZ : KeyK klZ := ⟨fun a b h => by injection h, fun _ => trivial⟩
theorem keyS : KeyK klS := ⟨fun a b h => by injection h, fun _ => trivial⟩
/-- in rising order -/
def Rise {α : Type} (l : List (Nat × α)) : Prop := l.Pairwise fun p q => p.1 < q.1
theorem Rise.once {α : Type} {l : List (Nat × α)} (h : Rise l) : Once l := h.imp fun h => Nat.ne_of_lt h
theorem rise_ins {α : Type} {x : Nat × α} : ∀ {l : List (Nat × α)}, Rise l → (∀ p ∈ l, p.1 ≠ x.1) → Rise (aIns klI x l)
 | [], _, _ => by simp [aIns, Rise]
 | y :: r, h, hx => by
  obtain ⟨h1, h2⟩ := List.pairwise_cons.1 h
  have hb : (klI x.1).before (klI y.1) = decide (x.1 < y.1) := by
   show decide ((x.1 : Int) < (y.1 : Int)) = _
   congr 1
   exact propext Int.ofNat_lt
  unfold aIns
  rw [hb]
  by_cases h0 : x.1 < y.1
  ·rw [if_pos (decide_eq_true h0)]
   exact List.pairwise_cons.2 ⟨fun p hp => by
    rcases List.mem_cons.1 hp with rfl | hp
    ·exact h0
    ·exact Nat.lt_trans h0 (h1 p hp), h⟩
  ·rw [if_neg (by simpa using Nat.le_of_not_lt h0)]
   refine List.pairwise_cons.2 ⟨fun p hp => ?_, rise_ins h2 fun p hp => hx p (by simp [hp])⟩
   rcases mem_ins.1 hp with rfl | hp
   ·have := hx y (by simp); omega
   ·exact h1 p hp
theorem Rise.put {α : Type} {l : List (Nat × α)} (h : Rise l) (k : Nat) (v : α) : Rise (aPut klI k v l) :=
 rise_ins (h.filter _) fun p hp => ((mem_del keyI).1 hp).2
theorem Rise.del {α : Type} {l : List (Nat × α)} (h : Rise l) (k : Nat) : Rise (aDel klI k l) := h.filter _
end Go.Proofs.YtliimeoblffigaaGreat

