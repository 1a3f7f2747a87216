/- Parts as one list of bytes, and back. Plain mathematics, no program in sight. -/
import Derived.Test.YtpbgjldjipgfeaaPkNum
namespace Go.Proofs.Ytpbgjldjipgfeaa

/-! ### the number at the head -/
def hd (r : List UInt8) : Nat × Nat × Int :=
  match r with
  | [] => (0, 0, 5)
  | f :: r =>
    if f.toNat ≤ 247 then (f.toNat, 1, 0)
    else if r.length < f.toNat - 247 then (0, 0, 5)
    else if val (r.take (f.toNat - 247)) ≤ 247 ∨ r.head? = some 0 then (0, 0, 3)
    else (val (r.take (f.toNat - 247)), 1 + (f.toNat - 247), 0)
theorem takeB_hd (b : List UInt8) (a : Nat) (h : a ≤ b.length) : takeB b (a : Int) = ((hd (b.drop a)).1, if (hd (b.drop a)).2.2 = 0 then ((a + (hd (b.drop a)).2.1 : Nat) : Int) else 0, (hd (b.drop a)).2.2) := by
  rw [takeB, if_neg (by omega), Int.toNat_natCast]
  cases hb : b.drop a with
  | nil => rfl
  | cons f r =>
    by_cases h1 : f.toNat ≤ 247
    · simp only [hd, if_pos h1, if_true]
      refine Prod.ext rfl (Prod.ext ?_ rfl)
      show (a : Int) + 1 = ((a + 1 : Nat) : Int)
      omega
    · by_cases h2 : r.length < f.toNat - 247
      · simp only [hd, if_neg h1, if_pos h2]
        rfl
      · by_cases h3 : val (r.take (f.toNat - 247)) ≤ 247 ∨ r.head? = some 0
        · simp only [hd, if_neg h1, if_neg h2, if_pos h3]
          rfl
        · simp only [hd, if_neg h1, if_neg h2, if_neg h3, if_true]
          generalize val (r.take (f.toNat - 247)) = x
          refine Prod.ext rfl (Prod.ext ?_ rfl)
          show (a : Int) + 1 + ((f.toNat - 247 : Nat) : Int) = ((a + (1 + (f.toNat - 247)) : Nat) : Int)
          omega
theorem hd_numB {n : Nat} (h : n < 18446744073709551616) (post : List UInt8) : hd (numB n ++ post) = (n, (numB n).length, 0) := by
  have h1 := takeB_numB h [] post
  have h2 := takeB_hd (numB n ++ post) 0 (Nat.zero_le _)
  simp only [List.nil_append, List.length_nil, List.drop_zero] at h1 h2
  rw [h1] at h2
  simp only [Prod.mk.injEq] at h2
  obtain ⟨e1, e2, e3⟩ := h2
  rw [← e3, if_pos rfl] at e2
  refine Prod.ext e1.symm (Prod.ext ?_ e3.symm)
  show (hd (numB n ++ post)).2.1 = (numB n).length
  omega
theorem hd_used (r : List UInt8) (h : (hd r).2.2 = 0) : 0 < (hd r).2.1 ∧ (hd r).2.1 ≤ r.length ∧ (hd r).2.1 ≤ 9 := by
  cases r with
  | nil => simp [hd] at h
  | cons f r =>
    have hf := f.toNat_lt
    simp only [hd] at h ⊢
    split at h
    · rename_i h1; simp [h1]
    · rename_i h1
      split at h
      · simp at h
      · rename_i h2
        split at h
        · simp at h
        · rename_i h3
          rw [if_neg h1, if_neg h2, if_neg h3]
          simp only [List.length_cons]
          omega
theorem hd_err (r : List UInt8) (h : (hd r).2.2 ≠ 0) : hd r = (0, 0, 3) ∨ hd r = (0, 0, 5) := by
  cases r with
  | nil => exact .inr rfl
  | cons f r =>
    simp only [hd] at h ⊢
    split at h
    · simp at h
    · rename_i h1
      split at h
      · rename_i h2; rw [if_neg h1, if_pos h2]; exact .inr rfl
      · rename_i h2
        split at h
        · rename_i h3; rw [if_neg h1, if_neg h2, if_pos h3]; exact .inl rfl
        · simp at h
theorem pow8_lt {n k : Nat} (hk : k ≤ 8) (h : n < 256 ^ k) : n < 18446744073709551616 :=
  Nat.lt_of_lt_of_le h (Nat.le_trans (Nat.pow_le_pow_right (by omega) hk) (Nat.le_of_eq (by decide)))
theorem hd_lt (r : List UInt8) : (hd r).1 < 18446744073709551616 := by
  cases r with
  | nil => simp [hd]
  | cons f r =>
    have hf := f.toNat_lt
    by_cases h1 : f.toNat ≤ 247
    · simp only [hd, if_pos h1]; omega
    · by_cases h2 : r.length < f.toNat - 247
      · simp only [hd, if_neg h1, if_pos h2]; omega
      · by_cases h3 : val (r.take (f.toNat - 247)) ≤ 247 ∨ r.head? = some 0
        · simp only [hd, if_neg h1, if_neg h2, if_pos h3]; omega
        · simp only [hd, if_neg h1, if_neg h2, if_neg h3]
          have h := val_lt (r.take (f.toNat - 247))
          have hl : (r.take (f.toNat - 247)).length ≤ 8 := by rw [List.length_take]; omega
          generalize val (r.take (f.toNat - 247)) = x at h ⊢
          exact pow8_lt hl h
theorem be_val : ∀ (k : Nat) (p : List UInt8), p.length ≤ k → p.head? ≠ some 0 → beF k (val p) = p
  | 0, p, h, _ => by rw [List.eq_nil_of_length_eq_zero (show p.length = 0 by omega)]; rfl
  | k + 1, p, h, h0 => by
    rcases List.eq_nil_or_concat p with rfl | ⟨q, c, rfl⟩
    · exact beF_zero _
    · simp only [List.concat_eq_append] at h h0 ⊢
      have hc := c.toNat_lt
      rw [val_snoc]
      have hq : q.head? ≠ some 0 := by
        cases q with
        | nil => simp
        | cons x q => simpa using h0
      have hpos : 0 < val q * 256 + c.toNat := by
        cases q with
        | nil =>
          have : c ≠ 0 := by simpa using h0
          have h1 : c.toNat ≠ 0 := fun e => this (UInt8.toNat_inj.1 e)
          omega
        | cons x q =>
          have : x ≠ 0 := by simpa using h0
          have h1 : x.toNat ≠ 0 := fun e => this (UInt8.toNat_inj.1 e)
          have h2 : 0 < x.toNat * 256 ^ q.length := Nat.mul_pos (by omega) (Nat.pow_pos (by omega))
          rw [val_cons]
          omega
      rw [beF_succ _ _ hpos, show (val q * 256 + c.toNat) / 256 = val q by omega, show (val q * 256 + c.toNat) % 256 = c.toNat by omega, be_val k q (by simpa using h) hq]
      simp
/-- what is taken is what Number writes -/
theorem hd_inv (r : List UInt8) (h : (hd r).2.2 = 0) : r.take (hd r).2.1 = numB (hd r).1 := by
  cases r with
  | nil => simp [hd] at h
  | cons f r =>
    have hf := f.toNat_lt
    simp only [hd] at h ⊢
    split at h
    · rename_i h1
      rw [if_pos h1]
      simp only [List.take_succ_cons, List.take_zero]
      rw [numB_small _ h1]
      simp
    · rename_i h1
      split at h
      · simp at h
      · rename_i h2
        split at h
        · simp at h
        · rename_i h3
          rw [if_neg h1, if_neg h2, if_neg h3]
          have hl : (r.take (f.toNat - 247)).length = f.toNat - 247 := by rw [List.length_take]; omega
          simp only [not_or] at h3
          have hh : (r.take (f.toNat - 247)).head? ≠ some 0 := by
            rw [List.head?_take, if_neg (by omega)]; exact h3.2
          have hb : be (val (r.take (f.toNat - 247))) = r.take (f.toNat - 247) := be_val 8 _ (by omega) hh
          rw [numB_large _ h3.1, hb, hl, show 247 + (f.toNat - 247) = f.toNat by omega, show 1 + (f.toNat - 247) = f.toNat - 247 + 1 by omega, List.take_succ_cons]
          simp
theorem hd_short (n i : Nat) (h : i < (numB n).length) : hd ((numB n).take i) = (0, 0, 5) := by
  by_cases h1 : n ≤ 247
  · rw [numB_small n h1] at h ⊢
    simp at h
    subst h
    rfl
  · rw [numB_large n h1] at h ⊢
    have hk := be_length n
    cases i with
    | zero => rfl
    | succ i =>
      have hx : (UInt8.ofNat (247 + (be n).length)).toNat = 247 + (be n).length := by rw [UInt8.toNat_ofNat']; omega
      simp only [List.length_cons] at h
      simp only [List.take_succ_cons, hd, hx]
      rw [if_neg (by omega), if_pos (by rw [List.length_take]; omega)]

/-! ### parts -/
def partB (l : List UInt8) : List UInt8 := numB l.length ++ l
def flatB (ll : List (List UInt8)) : List UInt8 := ll.flatMap partB
def joinB (ll : List (List UInt8)) : List UInt8 := numB ll.length ++ flatB ll
theorem flatB_cons (l : List UInt8) (ll : List (List UInt8)) : flatB (l :: ll) = partB l ++ flatB ll := rfl
theorem flatB_take (ll : List (List UInt8)) (k : Nat) (h : k < ll.length) : flatB (ll.take (k + 1)) = flatB (ll.take k) ++ partB ll[k] := by
  rw [List.take_succ_eq_append_getElem h, flatB, List.flatMap_append]; simp [flatB]
theorem flatB_length (ll : List (List UInt8)) : (flatB ll).length ≤ 9 * (ll.map fun l => l.length + 1).sum := by
  induction ll with
  | nil => simp [flatB]
  | cons l ll ih =>
    have := numB_length l.length
    rw [flatB_cons]
    simp only [partB, List.length_append, List.map_cons, List.sum_cons]
    omega
/-- m more parts -/
def resF : Nat → List (List UInt8) → List UInt8 → List (List UInt8) × Int
  | 0, done, r => if 0 < r.length then ([], 3) else (done, 0)
  | m + 1, done, r =>
    if (hd r).2.2 ≠ 0 then ([], (hd r).2.2)
    else if (r.drop (hd r).2.1).length < (hd r).1 then ([], 5)
    else resF m (done ++ [(r.drop (hd r).2.1).take (hd r).1]) (r.drop ((hd r).2.1 + (hd r).1))
def splitB (b : List UInt8) : List (List UInt8) × Int := if (hd b).2.2 ≠ 0 then ([], (hd b).2.2) else resF (hd b).1 [] (b.drop (hd b).2.1)

def Fits (ll : List (List UInt8)) : Prop := ll.length < 18446744073709551616 ∧ ∀ l ∈ ll, l.length < 18446744073709551616
theorem hd_part {l : List UInt8} (h : l.length < 18446744073709551616) (post : List UInt8) : hd (partB l ++ post) = (l.length, (numB l.length).length, 0) := by
  rw [partB, List.append_assoc, hd_numB h]
theorem resF_join : ∀ (ll : List (List UInt8)) (done : List (List UInt8)) (post : List UInt8), (∀ l ∈ ll, l.length < 18446744073709551616) →
    resF ll.length done (flatB ll ++ post) = if 0 < post.length then ([], 3) else (done ++ ll, 0)
  | [], done, post, _ => by simp [resF, flatB]
  | l :: ll, done, post, h => by
    have hl := h l (by simp)
    rw [flatB_cons, List.append_assoc, List.length_cons, resF, hd_part hl]
    simp only [ne_eq, not_true, if_false]
    have e1 : (partB l ++ (flatB ll ++ post)).drop (numB l.length).length = l ++ (flatB ll ++ post) := by
      rw [partB, List.append_assoc, List.drop_left]
    rw [e1, if_neg (by simp), List.take_left, ← List.drop_drop, e1, List.drop_left, resF_join ll _ post fun x hx => h x (by simp [hx])]
    simp
theorem splitB_joinB (ll : List (List UInt8)) (h : Fits ll) (post : List UInt8) : splitB (joinB ll ++ post) = if 0 < post.length then ([], 3) else (ll, 0) := by
  rw [splitB, joinB, List.append_assoc, hd_numB h.1]
  simp only [ne_eq, not_true, if_false]
  rw [List.drop_left, resF_join ll [] post h.2]
  simp
theorem splitB_join (ll : List (List UInt8)) (h : Fits ll) : splitB (joinB ll) = (ll, 0) := by
  have := splitB_joinB ll h []
  simpa using this
theorem resF_short : ∀ (ll : List (List UInt8)) (done : List (List UInt8)) (i : Nat), (∀ l ∈ ll, l.length < 18446744073709551616) → i < (flatB ll).length →
    resF ll.length done ((flatB ll).take i) = ([], 5)
  | [], done, i, _, hi => by simp [flatB] at hi
  | l :: ll, done, i, h, hi => by
    have hl := h l (by simp)
    rw [flatB_cons] at hi ⊢
    rw [List.length_cons, resF]
    by_cases h1 : i < (numB l.length).length
    · have e : (partB l ++ flatB ll).take i = (numB l.length).take i := by
        rw [partB, List.append_assoc, List.take_append_of_le_length (by omega)]
      rw [e, hd_short _ _ h1]
      simp
    · have e : (partB l ++ flatB ll).take i = numB l.length ++ (l ++ flatB ll).take (i - (numB l.length).length) := by
        rw [partB, List.append_assoc, List.take_append, List.take_of_length_le (by omega)]
      rw [e, hd_numB hl]
      simp only [ne_eq, not_true, if_false]
      rw [List.drop_left]
      by_cases h2 : i - (numB l.length).length < l.length
      · rw [if_pos (by rw [List.length_take]; omega)]
      · rw [if_neg (by rw [List.length_take, List.length_append]; omega), ← List.drop_drop, List.drop_left, List.drop_take, List.drop_left]
        refine resF_short ll _ _ (fun x hx => h x (by simp [hx])) ?_
        simp only [partB, List.length_append] at hi
        omega
theorem splitB_short (ll : List (List UInt8)) (h : Fits ll) (i : Nat) (hi : i < (joinB ll).length) : splitB ((joinB ll).take i) = ([], 5) := by
  rw [splitB]
  by_cases h1 : i < (numB ll.length).length
  · have e : (joinB ll).take i = (numB ll.length).take i := by
      rw [joinB, List.take_append_of_le_length (by omega)]
    rw [e, hd_short _ _ h1]
    simp
  · have e : (joinB ll).take i = numB ll.length ++ (flatB ll).take (i - (numB ll.length).length) := by
      rw [joinB, List.take_append, List.take_of_length_le (by omega)]
    rw [e, hd_numB h.1]
    simp only [ne_eq, not_true, if_false]
    rw [List.drop_left]
    refine resF_short ll _ _ h.2 ?_
    simp only [joinB, List.length_append] at hi
    omega
theorem resF_inv : ∀ (m : Nat) (done : List (List UInt8)) (r : List UInt8) (out : List (List UInt8)), resF m done r = (out, 0) → ∃ ll, ll.length = m ∧ out = done ++ ll ∧ r = flatB ll
  | 0, done, r, out, h => by
    rw [resF] at h
    split at h
    · simp at h
    · rename_i h0
      injection h with h _
      exact ⟨[], rfl, by simp [h], List.eq_nil_of_length_eq_zero (by omega)⟩
  | m + 1, done, r, out, h => by
    rw [resF] at h
    split at h
    · rename_i h0
      injection h with _ h
      exact absurd h h0
    · rename_i h0
      have h0 := Decidable.not_not.1 h0
      split at h
      · simp at h
      · rename_i h1
        obtain ⟨ll, e1, e2, e3⟩ := resF_inv m _ _ _ h
        obtain ⟨_, hu, _⟩ := hd_used r h0
        refine ⟨(r.drop (hd r).2.1).take (hd r).1 :: ll, by simp [e1], by simp [e2], ?_⟩
        have hl : ((r.drop (hd r).2.1).take (hd r).1).length = (hd r).1 := by rw [List.length_take]; omega
        rw [flatB_cons, ← e3, partB, hl, ← hd_inv r h0, List.append_assoc, ← List.drop_drop, List.take_append_drop, List.take_append_drop]
theorem splitB_inv (b : List UInt8) (out : List (List UInt8)) (h : splitB b = (out, 0)) : joinB out = b := by
  rw [splitB] at h
  split at h
  · rename_i h0
    injection h with _ h
    exact absurd h h0
  · rename_i h0
    have h0 := Decidable.not_not.1 h0
    obtain ⟨ll, e1, e2, e3⟩ := resF_inv _ _ _ _ h
    rw [List.nil_append] at e2
    subst e2
    rw [joinB, e1, ← hd_inv b h0, ← e3, List.take_append_drop]
end Go.Proofs.Ytpbgjldjipgfeaa
