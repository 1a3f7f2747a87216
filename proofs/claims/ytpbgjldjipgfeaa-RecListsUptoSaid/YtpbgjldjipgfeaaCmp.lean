/- Plain laws of the order of byte lists. No program in sight. -/
import Derived.Lib.Bytealg
namespace Go.Proofs.Ytpbgjldjipgfeaa

abbrev cmpB := Lib.compareBytes

theorem cmpB_cons (a b : UInt8) (s t : List UInt8) : cmpB (a :: s) (b :: t) = if a < b then -1 else if b < a then 1 else cmpB s t := rfl

theorem cmpB_drop (xs ys : List UInt8) (k : Nat) (h1 : k < xs.length) (h2 : k < ys.length) :
    cmpB (xs.drop k) (ys.drop k) = if xs[k] < ys[k] then -1 else if ys[k] < xs[k] then 1 else cmpB (xs.drop (k+1)) (ys.drop (k+1)) := by
  rw [List.drop_eq_getElem_cons h1, List.drop_eq_getElem_cons h2, cmpB_cons]

theorem cmpB_end (xs ys : List UInt8) (k : Nat) (hk : k ≤ xs.length) (hk' : k ≤ ys.length) (h : ¬ (k < xs.length ∧ k < ys.length)) :
    cmpB (xs.drop k) (ys.drop k) = if xs.length < ys.length then -1 else if ys.length < xs.length then 1 else 0 := by
  rcases Nat.lt_or_ge k xs.length with h1 | h1
  · have h2 : k = ys.length := by omega
    subst h2
    rw [List.drop_eq_getElem_cons h1, List.drop_length, if_neg (by omega), if_pos h1]
    rfl
  · have h2 : k = xs.length := by omega
    subst h2
    rw [List.drop_length]
    rcases Nat.lt_or_ge xs.length ys.length with h3 | h3
    · rw [List.drop_eq_getElem_cons h3, if_pos h3]; rfl
    · have : xs.length = ys.length := by omega
      rw [List.drop_of_length_le (by omega)]; simp [Lib.compareBytes, this]

theorem cmpB_refl : ∀ s : List UInt8, cmpB s s = 0
  | [] => rfl
  | a :: s => by rw [cmpB_cons, if_neg (UInt8.lt_irrefl a), if_neg (UInt8.lt_irrefl a)]; exact cmpB_refl s

theorem cmpB_eq_zero : ∀ s t : List UInt8, cmpB s t = 0 ↔ s = t
  | [], [] => by simp [Lib.compareBytes]
  | [], _ :: _ => by simp [Lib.compareBytes]
  | _ :: _, [] => by simp [Lib.compareBytes]
  | a :: s, b :: t => by
    rw [cmpB_cons]
    by_cases h : a < b
    · rw [if_pos h]; constructor
      · intro h'; omega
      · intro h'; injection h' with h1 h2; subst h1; exact absurd h (UInt8.lt_irrefl a)
    · rw [if_neg h]
      by_cases h2 : b < a
      · rw [if_pos h2]; constructor
        · intro h'; omega
        · intro h'; injection h' with h1 h3; subst h1; exact absurd h2 (UInt8.lt_irrefl _)
      · rw [if_neg h2, cmpB_eq_zero s t]
        have : a = b := by
          apply UInt8.toNat_inj.1
          simp only [UInt8.lt_iff_toNat_lt] at h h2
          omega
        subst this
        simp

theorem cmpB_neg : ∀ s t : List UInt8, cmpB t s = - cmpB s t
  | [], [] => rfl
  | [], _ :: _ => rfl
  | _ :: _, [] => rfl
  | a :: s, b :: t => by
    rw [cmpB_cons, cmpB_cons]
    by_cases h : a < b
    · have h2 : ¬ b < a := fun h2 => by simp only [UInt8.lt_iff_toNat_lt] at h h2; omega
      rw [if_neg h2, if_pos h, if_pos h]; rfl
    · rw [if_neg h]
      by_cases h2 : b < a
      · rw [if_pos h2, if_pos h2, if_neg h]
      · rw [if_neg h2, if_neg h, if_neg h2]; exact cmpB_neg s t

theorem cmpB_range : ∀ s t : List UInt8, cmpB s t = -1 ∨ cmpB s t = 0 ∨ cmpB s t = 1
  | [], [] => by simp [Lib.compareBytes]
  | [], _ :: _ => by simp [Lib.compareBytes]
  | _ :: _, [] => by simp [Lib.compareBytes]
  | a :: s, b :: t => by
    rw [cmpB_cons]
    split
    · simp
    · split
      · simp
      · exact cmpB_range s t

theorem cmpB_after (s : List UInt8) : cmpB s (s ++ [0]) = -1 := by
  induction s with
  | nil => rfl
  | cons a s ih => rw [List.cons_append, cmpB_cons, if_neg (UInt8.lt_irrefl a), if_neg (UInt8.lt_irrefl a)]; exact ih

/-- the key behind one is the least above it -/
theorem cmpB_after_le : ∀ s t : List UInt8, cmpB s t < 0 → cmpB (s ++ [0]) t ≤ 0
  | [], [], h => by simp [Lib.compareBytes] at h
  | [], b :: t, _ => by
    rw [List.nil_append, cmpB_cons]
    have h0 : ¬ b < 0 := fun h => by simp only [UInt8.lt_iff_toNat_lt] at h; exact absurd h (Nat.not_lt_zero _)
    rw [if_neg h0]
    split
    · omega
    · cases t with
      | nil => simp [Lib.compareBytes]
      | cons => simp [Lib.compareBytes]
  | _ :: _, [], h => by simp [Lib.compareBytes] at h
  | a :: s, b :: t, h => by
    rw [cmpB_cons] at h
    rw [List.cons_append, cmpB_cons]
    by_cases h1 : a < b
    · rw [if_pos h1]; omega
    · rw [if_neg h1] at h ⊢
      by_cases h2 : b < a
      · rw [if_pos h2] at h; omega
      · rw [if_neg h2] at h ⊢; exact cmpB_after_le s t h
end Go.Proofs.Ytpbgjldjipgfeaa
