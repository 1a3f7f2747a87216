/- Plain laws of the order of byte lists. No program in sight. -/
import Derived.Lib.Bytealg
set_option linter.unusedVariables false
set_option linter.unusedSimpArgs false
set_option maxRecDepth 100000
namespace Go.Proofs.YtfgecgmgbngeaaaGreat

abbrev cmpB := Lib.compareBytes

theorem cmpB_cons (a b : UInt8) (s t : List UInt8) : cmpB (a :: s) (b :: t) = if a < b then -1 else if b < a then 1 else cmpB s t := rfl

theorem cmpB_drop (xs ys : List UInt8) (k : Nat) (h1 : k < xs.length) (h2 : k < ys.length) :
    cmpB (xs.drop k) (ys.drop k) = if xs[k] < ys[k] then -1 else if ys[k] < xs[k] then 1 else cmpB (xs.drop (k+1)) (ys.drop (k+1)) := by
  rw [List.drop_eq_getElem_cons h1, List.drop_eq_getElem_cons h2, cmpB_cons]

theorem cmpB_end (xs ys : List UInt8) (k : Nat) (hk : k ≤ xs.length) (hk' : k ≤ ys.length) (h : ¬ (k < xs.length ∧ k < ys.length)) :
    cmpB (xs.drop k) (ys.drop k) = if xs.length < ys.length then -1 else if ys.length < xs.length then 1 else 0 := by
  rcases Nat.lt_or_ge k xs.length with h1 | h1
  · have h2 : k = ys.length := by omega
    subst h2
    rw [List.drop_eq_getElem_cons h1, List.drop_length, if_neg (by omega), if_pos h1]
    rfl
  · have h2 : k = xs.length := by omega
    subst h2
    rw [List.drop_length]
    rcases Nat.lt_or_ge xs.length ys.length with h3 | h3
    · rw [List.drop_eq_getElem_cons h3, if_pos h3]; rfl
    · have : xs.length = ys.length := by omega
      rw [List.drop_of_length_le (by omega)]; simp [Lib.compareBytes, this]

theorem cmpB_refl : ∀ s : List UInt8, cmpB s s = 0
  | [] => rfl
  | a :: s => by rw [cmpB_cons, if_neg (UInt8.lt_irrefl a), if_neg (UInt8.lt_irrefl a)]; exact cmpB_refl s

theorem cmpB_eq_zero : ∀ s t : List UInt8, cmpB s t = 0 ↔ s = t
  | [], [] => by simp [Lib.compareBytes]
  | [], _ :: _ => by simp [Lib.compareBytes]
  | _ :: _, [] => by simp [Lib.compareBytes]
  | a :: s, b :: t => by
    rw [cmpB_cons]
    by_cases h : a < b
    · rw [if_pos h]; constructor
      · intro h'; omega
      · intro h'; injection h' with h1 h2; subst h1; exact absurd h (UInt8.lt_irrefl a)
    · rw [if_neg h]
      by_cases h2 : b < a
      · rw [if_pos h2]; constructor
        · intro h'; omega
        · intro h'; injection h' with h1 h3; subst h1; exact absurd h2 (UInt8.lt_irrefl _)
      · rw [if_neg h2, cmpB_eq_zero s t]
        have : a = b := by
          apply UInt8.toNat_inj.1
          simp only [UInt8.lt_iff_toNat_lt] at h h2
          omega
        subst this
        simp

theorem cmpB_neg : ∀ s t : List UInt8, cmpB t s = - cmpB s t
  | [], [] => rfl
  | [], _ :: _ => rfl
  | _ :: _, [] => rfl
  | a :: s, b :: t => by
    rw [cmpB_cons, cmpB_cons]
    by_cases h : a < b
    · have h2 : ¬ b < a := fun h2 => by simp only [UInt8.lt_iff_toNat_lt] at h h2; omega
      rw [if_neg h2, if_pos h, if_pos h]; rfl
    · rw [if_neg h]
      by_cases h2 : b < a
      · rw [if_pos h2, if_pos h2, if_neg h]
      · rw [if_neg h2, if_neg h, if_neg h2]; exact cmpB_neg s t

theorem cmpB_range : ∀ s t : List UInt8, cmpB s t = -1 ∨ cmpB s t = 0 ∨ cmpB s t = 1
  | [], [] => by simp [Lib.compareBytes]
  | [], _ :: _ => by simp [Lib.compareBytes]
  | _ :: _, [] => by simp [Lib.compareBytes]
  | a :: s, b :: t => by
    rw [cmpB_cons]
    split
    · simp
    · split
      · simp
      · exact cmpB_range s t

theorem cmpB_after (s : List UInt8) : cmpB s (s ++ [0]) = -1 := by
  induction s with
  | nil => rfl
  | cons a s ih => rw [List.cons_append, cmpB_cons, if_neg (UInt8.lt_irrefl a), if_neg (UInt8.lt_irrefl a)]; exact ih

/-- the key behind one is the least above it -/
theorem cmpB_after_le : ∀ s t : List UInt8, cmpB s t < 0 → cmpB (s ++ [0]) t ≤ 0
  | [], [], h => by simp [Lib.compareBytes] at h
  | [], b :: t, _ => by
    rw [List.nil_append, cmpB_cons]
    have h0 : ¬ b < 0 := fun h => by simp only [UInt8.lt_iff_toNat_lt] at h; exact absurd h (Nat.not_lt_zero _)
    rw [if_neg h0]
    split
    · omega
    · cases t with
      | nil => simp [Lib.compareBytes]
      | cons => simp [Lib.compareBytes]
  | _ :: _, [], h => by simp [Lib.compareBytes] at h
  | a :: s, b :: t, h => by
    rw [cmpB_cons] at h
    rw [List.cons_append, cmpB_cons]
    by_cases h1 : a < b
    · rw [if_pos h1]; omega
    · rw [if_neg h1] at h ⊢
      by_cases h2 : b < a
      · rw [if_pos h2] at h; omega
      · rw [if_neg h2] at h ⊢; exact cmpB_after_le s t h
end Go.Proofs.YtfgecgmgbngeaaaGreat

set_option maxRecDepth 100000
namespace Go.Proofs.YtfgecgmgbngeaaaGreat

/-- the bytes of a number, the greatest first, none for 0; with fuel -/
def beF : Nat → Nat → List UInt8
  | 0, _ => []
  | f + 1, n => if n = 0 then [] else beF f (n / 256) ++ [UInt8.ofNat (n % 256)]
def be (n : Nat) : List UInt8 := beF 8 n

theorem beF_zero (f : Nat) : beF f 0 = [] := by cases f <;> simp [beF]
theorem beF_succ (f n : Nat) (h : 0 < n) : beF (f + 1) n = beF f (n / 256) ++ [UInt8.ofNat (n % 256)] := by rw [beF, if_neg (by omega)]
theorem beF_length (f n : Nat) : (beF f n).length ≤ f := by
  induction f generalizing n with
  | zero => simp [beF]
  | succ f ih => rw [beF]; split <;> simp [ih]

/-- a number as bytes -/
def numB (n : Nat) : List UInt8 := if n < 248 then [UInt8.ofNat n] else UInt8.ofNat (247 + (be n).length) :: be n
def numsB (l : List Nat) : List UInt8 := l.flatMap numB

theorem be_length (n : Nat) : (be n).length ≤ 8 := beF_length 8 n
theorem numB_length (n : Nat) : (numB n).length ≤ 9 := by
  unfold numB; split
  · simp
  · have := be_length n; simp; omega
theorem numsB_length (l : List Nat) : (numsB l).length ≤ 9 * l.length := by
  induction l with
  | nil => simp [numsB]
  | cons n l ih => have := numB_length n; simp only [numsB, List.flatMap_cons, List.length_append, List.length_cons] at ih ⊢; omega
theorem numsB_take (l : List Nat) (k : Nat) (h : k < l.length) : numsB (l.take (k + 1)) = numsB (l.take k) ++ numB l[k] := by
  rw [List.take_succ_eq_append_getElem h, numsB, List.flatMap_append]; simp [numsB]

theorem numB_small (n : Nat) (h : n ≤ 247) : numB n = [UInt8.ofNat n] := by rw [numB, if_pos (by omega)]
theorem numB_large (n : Nat) (h : ¬ n ≤ 247) : numB n = UInt8.ofNat (247 + (be n).length) :: be n := by rw [numB, if_neg (by omega)]
/-- one step of taking bytes off a number: f more are left room for -/
theorem beF_step {n f m : Nat} {rest : List UInt8} (h : beF (f + 1) m ++ rest = be n) (h0 : 0 < m) : beF f (m / 256) ++ (UInt8.ofNat (m % 256) :: rest) = be n := by
  rw [beF_succ f m h0, List.append_assoc] at h; exact h
theorem beF_stop {n f : Nat} {rest : List UInt8} (h : beF f 0 ++ rest = be n) : rest = be n := by rw [beF_zero] at h; exact h

/-- the number that bytes are, the greatest first -/
def valF (a : Nat) (l : List UInt8) : Nat := l.foldl (fun v b => v * 256 + b.toNat) a
def val (l : List UInt8) : Nat := valF 0 l

theorem valF_snoc (a : Nat) (l : List UInt8) (b : UInt8) : valF a (l ++ [b]) = valF a l * 256 + b.toNat := by simp [valF]
theorem val_snoc (l : List UInt8) (b : UInt8) : val (l ++ [b]) = val l * 256 + b.toNat := valF_snoc 0 l b
theorem val_lt (l : List UInt8) : val l < 256 ^ l.length := by
  suffices h : ∀ (n : Nat) (l : List UInt8), l.length = n → val l < 256 ^ n from h _ _ rfl
  intro n
  induction n with
  | zero => intro l h; rw [List.eq_nil_of_length_eq_zero h]; simp [val, valF]
  | succ n ih =>
    intro l h
    obtain ⟨s, b, rfl⟩ : ∃ s b, l = s ++ [b] := ⟨l.dropLast, l.getLast (by intro e; rw [e] at h; simp at h), (List.dropLast_concat_getLast _).symm⟩
    rw [List.length_append, List.length_singleton] at h
    have := ih s (by omega)
    have hb := b.toNat_lt
    rw [val_snoc, Nat.pow_succ]
    omega
theorem val_take_succ (l : List UInt8) (i : Nat) (h : i < l.length) : val (l.take (i + 1)) = val (l.take i) * 256 + l[i].toNat := by
  rw [List.take_succ_eq_append_getElem h, val_snoc]
theorem val_take_lt (l : List UInt8) (i : Nat) : val (l.take i) < 256 ^ i := by
  refine Nat.lt_of_lt_of_le (val_lt _) (Nat.pow_le_pow_right (by omega) ?_)
  rw [List.length_take]; omega

theorem valF_eq (l : List UInt8) : ∀ a, valF a l = a * 256 ^ l.length + val l := by
  induction l with
  | nil => intro a; simp [valF, val]
  | cons c l ih =>
    intro a
    have h1 : valF a (c :: l) = valF (a * 256 + c.toNat) l := rfl
    have h2 : val (c :: l) = valF (0 * 256 + c.toNat) l := rfl
    rw [h1, h2, ih, ih (0 * 256 + c.toNat), List.length_cons, Nat.pow_succ, Nat.add_mul, Nat.zero_mul, Nat.zero_add, Nat.mul_assoc, Nat.mul_comm 256, Nat.add_assoc]
theorem val_cons (c : UInt8) (l : List UInt8) : val (c :: l) = c.toNat * 256 ^ l.length + val l := by
  have h : val (c :: l) = valF (0 * 256 + c.toNat) l := rfl
  rw [h, valF_eq]; simp

theorem beF_len_le : ∀ (f n j : Nat), n < 256 ^ j → (beF f n).length ≤ j
  | 0, _, _, _ => by simp [beF]
  | f + 1, n, j, h => by
    rw [beF]
    split
    · simp
    · rename_i h0
      cases j with
      | zero => simp at h; omega
      | succ j =>
        have := beF_len_le f (n / 256) j (Nat.div_lt_of_lt_mul (by rw [Nat.mul_comm, ← Nat.pow_succ]; exact h))
        simp; omega
theorem beF_len_ge : ∀ (f n j : Nat), 256 ^ j ≤ n → j < f → j < (beF f n).length
  | 0, _, _, _, h => by omega
  | f + 1, n, j, h, hj => by
    have hp : 0 < 256 ^ j := Nat.pow_pos (by omega)
    rw [beF, if_neg (by omega)]
    cases j with
    | zero => simp
    | succ j =>
      have := beF_len_ge f (n / 256) j ((Nat.le_div_iff_mul_le (by omega)).2 (by rw [← Nat.pow_succ]; exact h)) (by omega)
      simp; omega
/-- the shortest form is just that of the right length -/
theorem numB_len_iff (p : List UInt8) (h0 : 0 < p.length) (h8 : p.length ≤ 8) : (numB (val p)).length = p.length + 1 ↔ ¬ (val p ≤ 247 ∨ p.head? = some 0) := by
  obtain ⟨c, t, rfl⟩ : ∃ c t, p = c :: t := by cases p with
    | nil => simp at h0
    | cons c t => exact ⟨c, t, rfl⟩
  simp only [List.length_cons] at h0 h8 ⊢
  simp only [List.head?_cons, Option.some.injEq, not_or]
  have hv := val_cons c t
  have ht := val_lt t
  by_cases hs : val (c :: t) ≤ 247
  · rw [numB_small _ hs]; simp; omega
  · rw [numB_large _ hs]
    by_cases hc : c = 0
    · subst hc
      have : val (0 :: t) < 256 ^ t.length := by rw [hv]; simpa using ht
      have h1 := beF_len_le 8 _ _ this
      have h2 : (be (val (0 :: t))).length ≤ t.length := h1
      simp; omega
    · have hcpos : 0 < c.toNat := Nat.pos_of_ne_zero fun h => hc (UInt8.toNat_inj.1 h)
      have hge : 256 ^ t.length ≤ val (c :: t) := by
        rw [hv]
        exact Nat.le_trans (Nat.le_mul_of_pos_left _ hcpos) (Nat.le_add_right _ _)
      have hlt : val (c :: t) < 256 ^ (t.length + 1) := val_lt (c :: t)
      have h1 : t.length < (be (val (c :: t))).length := beF_len_ge 8 _ _ hge (by omega)
      have h2 : (be (val (c :: t))).length ≤ t.length + 1 := beF_len_le 8 _ _ hlt
      simp only [List.length_cons]
      exact ⟨fun _ => ⟨hs, hc⟩, fun _ => by omega⟩

theorem val_beF : ∀ (f n : Nat), n < 256 ^ f → val (beF f n) = n
  | 0, n, h => by simp at h; subst h; rfl
  | f + 1, n, h => by
    rw [beF]
    split
    · rename_i h0; subst h0; rfl
    · rw [val_snoc, val_beF f (n / 256) (Nat.div_lt_of_lt_mul (by rw [Nat.mul_comm, ← Nat.pow_succ]; exact h)), UInt8.toNat_ofNat']
      omega
theorem val_be {n : Nat} (h : n < 18446744073709551616) : val (be n) = n := val_beF 8 n (Nat.lt_of_lt_of_le h (Nat.le_of_eq (by decide)))

/-- the number at a place: itself, the place behind it, the error's number -/
def takeB (b : List UInt8) (at_ : Int) : Nat × Int × Int :=
  if at_ < 0 ∨ (b.length : Int) < at_ then (0, 0, 1) else
  match b.drop at_.toNat with
  | [] => (0, 0, 5)
  | f :: r =>
    if f.toNat ≤ 247 then (f.toNat, at_ + 1, 0)
    else if r.length < f.toNat - 247 then (0, 0, 5)
    else if val (r.take (f.toNat - 247)) ≤ 247 ∨ r.head? = some 0 then (0, 0, 3)
    else (val (r.take (f.toNat - 247)), at_ + 1 + ((f.toNat - 247 : Nat) : Int), 0)

theorem takeB_arg (b : List UInt8) (at_ : Int) (h : at_ < 0 ∨ (b.length : Int) < at_) : takeB b at_ = (0, 0, 1) := by rw [takeB, if_pos h]
theorem takeB_end (b : List UInt8) : takeB b b.length = (0, 0, 5) := by
  rw [takeB, if_neg (by omega), Int.toNat_natCast, List.drop_length]
theorem takeB_at (b : List UInt8) (a : Nat) (h : a < b.length) : takeB b a =
    if b[a].toNat ≤ 247 then (b[a].toNat, (a : Int) + 1, 0)
    else if (b.drop (a + 1)).length < b[a].toNat - 247 then (0, 0, 5)
    else if val ((b.drop (a + 1)).take (b[a].toNat - 247)) ≤ 247 ∨ (b.drop (a + 1)).head? = some 0 then (0, 0, 3)
    else (val ((b.drop (a + 1)).take (b[a].toNat - 247)), (a : Int) + 1 + ((b[a].toNat - 247 : Nat) : Int), 0) := by
  rw [takeB, if_neg (by omega), Int.toNat_natCast, List.drop_eq_getElem_cons h]
/-- what Number has written, Take takes -/
theorem takeB_numB {n : Nat} (h : n < 18446744073709551616) (pre post : List UInt8) : takeB (pre ++ numB n ++ post) (pre.length : Int) = (n, ((pre ++ numB n).length : Int), 0) := by
  by_cases h1 : n ≤ 247
  · have e : numB n = [UInt8.ofNat n] := numB_small n h1
    have hx : (UInt8.ofNat n).toNat = n := by rw [UInt8.toNat_ofNat']; omega
    rw [e, takeB_at _ _ (by simp)]
    have hb : (pre ++ [UInt8.ofNat n] ++ post)[pre.length]'(by simp) = UInt8.ofNat n := by simp
    rw [hb, hx, if_pos h1]
    simp
  · have e : numB n = UInt8.ofNat (247 + (be n).length) :: be n := numB_large n h1
    have hk := be_length n
    have hv := val_be h
    have hk0 : 0 < (be n).length := by
      rcases Nat.eq_zero_or_pos (be n).length with h0 | h0
      · rw [List.eq_nil_of_length_eq_zero h0] at hv
        have : val [] = 0 := rfl
        omega
      · exact h0
    have hx : (UInt8.ofNat (247 + (be n).length)).toNat = 247 + (be n).length := by rw [UInt8.toNat_ofNat']; omega
    have hf := (numB_len_iff (be n) hk0 hk).1 (by rw [hv, e]; simp)
    rw [hv] at hf
    rw [e, takeB_at _ _ (by simp)]
    have hb : (pre ++ (UInt8.ofNat (247 + (be n).length) :: be n) ++ post)[pre.length]'(by simp) = UInt8.ofNat (247 + (be n).length) := by simp
    have hd : (pre ++ (UInt8.ofNat (247 + (be n).length) :: be n) ++ post).drop (pre.length + 1) = be n ++ post := by
      rw [List.append_assoc, ← List.drop_drop, List.drop_left]; rfl
    have hkk : 247 + (be n).length - 247 = (be n).length := by omega
    have hh : (be n ++ post).head? = (be n).head? := by
      cases hbe : be n with
      | nil => rw [hbe] at hk0; simp at hk0
      | cons => rfl
    rw [hb, hx, hd, if_neg (by omega), hkk, if_neg (by simp), List.take_left, hv, hh, if_neg hf]
    simp only [List.length_append, List.length_cons, Prod.mk.injEq, true_and, and_true]
    omega
theorem takeB_numsB {l : List Nat} (hl : ∀ n ∈ l, n < 18446744073709551616) (k : Nat) (h : k < l.length) :
    takeB (numsB l) ((numsB (l.take k)).length : Int) = (l[k], ((numsB (l.take (k + 1))).length : Int), 0) := by
  have e : numsB l = numsB (l.take k) ++ numB l[k] ++ numsB (l.drop (k + 1)) := by
    rw [← numsB_take l k h]
    unfold numsB
    rw [← List.flatMap_append, List.take_append_drop]
  rw [numsB_take l k h, ← takeB_numB (hl _ (List.getElem_mem h)) (numsB (l.take k)) (numsB (l.drop (k + 1))), ← e]
end Go.Proofs.YtfgecgmgbngeaaaGreat

set_option maxRecDepth 100000
namespace Go.Proofs.YtfgecgmgbngeaaaGreat

/-! ### the number at the head -/
def hd (r : List UInt8) : Nat × Nat × Int :=
  match r with
  | [] => (0, 0, 5)
  | f :: r =>
    if f.toNat ≤ 247 then (f.toNat, 1, 0)
    else if r.length < f.toNat - 247 then (0, 0, 5)
    else if val (r.take (f.toNat - 247)) ≤ 247 ∨ r.head? = some 0 then (0, 0, 3)
    else (val (r.take (f.toNat - 247)), 1 + (f.toNat - 247), 0)
theorem takeB_hd (b : List UInt8) (a : Nat) (h : a ≤ b.length) : takeB b (a : Int) = ((hd (b.drop a)).1, if (hd (b.drop a)).2.2 = 0 then ((a + (hd (b.drop a)).2.1 : Nat) : Int) else 0, (hd (b.drop a)).2.2) := by
  rw [takeB, if_neg (by omega), Int.toNat_natCast]
  cases hb : b.drop a with
  | nil => rfl
  | cons f r =>
    by_cases h1 : f.toNat ≤ 247
    · simp only [hd, if_pos h1, if_true]
      refine Prod.ext rfl (Prod.ext ?_ rfl)
      show (a : Int) + 1 = ((a + 1 : Nat) : Int)
      omega
    · by_cases h2 : r.length < f.toNat - 247
      · simp only [hd, if_neg h1, if_pos h2]
        rfl
      · by_cases h3 : val (r.take (f.toNat - 247)) ≤ 247 ∨ r.head? = some 0
        · simp only [hd, if_neg h1, if_neg h2, if_pos h3]
          rfl
        · simp only [hd, if_neg h1, if_neg h2, if_neg h3, if_true]
          generalize val (r.take (f.toNat - 247)) = x
          refine Prod.ext rfl (Prod.ext ?_ rfl)
          show (a : Int) + 1 + ((f.toNat - 247 : Nat) : Int) = ((a + (1 + (f.toNat - 247)) : Nat) : Int)
          omega
theorem hd_numB {n : Nat} (h : n < 18446744073709551616) (post : List UInt8) : hd (numB n ++ post) = (n, (numB n).length, 0) := by
  have h1 := takeB_numB h [] post
  have h2 := takeB_hd (numB n ++ post) 0 (Nat.zero_le _)
  simp only [List.nil_append, List.length_nil, List.drop_zero] at h1 h2
  rw [h1] at h2
  simp only [Prod.mk.injEq] at h2
  obtain ⟨e1, e2, e3⟩ := h2
  rw [← e3, if_pos rfl] at e2
  refine Prod.ext e1.symm (Prod.ext ?_ e3.symm)
  show (hd (numB n ++ post)).2.1 = (numB n).length
  omega
theorem hd_used (r : List UInt8) (h : (hd r).2.2 = 0) : 0 < (hd r).2.1 ∧ (hd r).2.1 ≤ r.length ∧ (hd r).2.1 ≤ 9 := by
  cases r with
  | nil => simp [hd] at h
  | cons f r =>
    have hf := f.toNat_lt
    simp only [hd] at h ⊢
    split at h
    · rename_i h1; simp [h1]
    · rename_i h1
      split at h
      · simp at h
      · rename_i h2
        split at h
        · simp at h
        · rename_i h3
          rw [if_neg h1, if_neg h2, if_neg h3]
          simp only [List.length_cons]
          omega
theorem hd_err (r : List UInt8) (h : (hd r).2.2 ≠ 0) : hd r = (0, 0, 3) ∨ hd r = (0, 0, 5) := by
  cases r with
  | nil => exact .inr rfl
  | cons f r =>
    simp only [hd] at h ⊢
    split at h
    · simp at h
    · rename_i h1
      split at h
      · rename_i h2; rw [if_neg h1, if_pos h2]; exact .inr rfl
      · rename_i h2
        split at h
        · rename_i h3; rw [if_neg h1, if_neg h2, if_pos h3]; exact .inl rfl
        · simp at h
theorem pow8_lt {n k : Nat} (hk : k ≤ 8) (h : n < 256 ^ k) : n < 18446744073709551616 :=
  Nat.lt_of_lt_of_le h (Nat.le_trans (Nat.pow_le_pow_right (by omega) hk) (Nat.le_of_eq (by decide)))
theorem hd_lt (r : List UInt8) : (hd r).1 < 18446744073709551616 := by
  cases r with
  | nil => simp [hd]
  | cons f r =>
    have hf := f.toNat_lt
    by_cases h1 : f.toNat ≤ 247
    · simp only [hd, if_pos h1]; omega
    · by_cases h2 : r.length < f.toNat - 247
      · simp only [hd, if_neg h1, if_pos h2]; omega
      · by_cases h3 : val (r.take (f.toNat - 247)) ≤ 247 ∨ r.head? = some 0
        · simp only [hd, if_neg h1, if_neg h2, if_pos h3]; omega
        · simp only [hd, if_neg h1, if_neg h2, if_neg h3]
          have h := val_lt (r.take (f.toNat - 247))
          have hl : (r.take (f.toNat - 247)).length ≤ 8 := by rw [List.length_take]; omega
          generalize val (r.take (f.toNat - 247)) = x at h ⊢
          exact pow8_lt hl h
theorem be_val : ∀ (k : Nat) (p : List UInt8), p.length ≤ k → p.head? ≠ some 0 → beF k (val p) = p
  | 0, p, h, _ => by rw [List.eq_nil_of_length_eq_zero (show p.length = 0 by omega)]; rfl
  | k + 1, p, h, h0 => by
    rcases List.eq_nil_or_concat p with rfl | ⟨q, c, rfl⟩
    · exact beF_zero _
    · simp only [List.concat_eq_append] at h h0 ⊢
      have hc := c.toNat_lt
      rw [val_snoc]
      have hq : q.head? ≠ some 0 := by
        cases q with
        | nil => simp
        | cons x q => simpa using h0
      have hpos : 0 < val q * 256 + c.toNat := by
        cases q with
        | nil =>
          have : c ≠ 0 := by simpa using h0
          have h1 : c.toNat ≠ 0 := fun e => this (UInt8.toNat_inj.1 e)
          omega
        | cons x q =>
          have : x ≠ 0 := by simpa using h0
          have h1 : x.toNat ≠ 0 := fun e => this (UInt8.toNat_inj.1 e)
          have h2 : 0 < x.toNat * 256 ^ q.length := Nat.mul_pos (by omega) (Nat.pow_pos (by omega))
          rw [val_cons]
          omega
      rw [beF_succ _ _ hpos, show (val q * 256 + c.toNat) / 256 = val q by omega, show (val q * 256 + c.toNat) % 256 = c.toNat by omega, be_val k q (by simpa using h) hq]
      simp
/-- what is taken is what Number writes -/
theorem hd_inv (r : List UInt8) (h : (hd r).2.2 = 0) : r.take (hd r).2.1 = numB (hd r).1 := by
  cases r with
  | nil => simp [hd] at h
  | cons f r =>
    have hf := f.toNat_lt
    simp only [hd] at h ⊢
    split at h
    · rename_i h1
      rw [if_pos h1]
      simp only [List.take_succ_cons, List.take_zero]
      rw [numB_small _ h1]
      simp
    · rename_i h1
      split at h
      · simp at h
      · rename_i h2
        split at h
        · simp at h
        · rename_i h3
          rw [if_neg h1, if_neg h2, if_neg h3]
          have hl : (r.take (f.toNat - 247)).length = f.toNat - 247 := by rw [List.length_take]; omega
          simp only [not_or] at h3
          have hh : (r.take (f.toNat - 247)).head? ≠ some 0 := by
            rw [List.head?_take, if_neg (by omega)]; exact h3.2
          have hb : be (val (r.take (f.toNat - 247))) = r.take (f.toNat - 247) := be_val 8 _ (by omega) hh
          rw [numB_large _ h3.1, hb, hl, show 247 + (f.toNat - 247) = f.toNat by omega, show 1 + (f.toNat - 247) = f.toNat - 247 + 1 by omega, List.take_succ_cons]
          simp
theorem hd_short (n i : Nat) (h : i < (numB n).length) : hd ((numB n).take i) = (0, 0, 5) := by
  by_cases h1 : n ≤ 247
  · rw [numB_small n h1] at h ⊢
    simp at h
    subst h
    rfl
  · rw [numB_large n h1] at h ⊢
    have hk := be_length n
    cases i with
    | zero => rfl
    | succ i =>
      have hx : (UInt8.ofNat (247 + (be n).length)).toNat = 247 + (be n).length := by rw [UInt8.toNat_ofNat']; omega
      simp only [List.length_cons] at h
      simp only [List.take_succ_cons, hd, hx]
      rw [if_neg (by omega), if_pos (by rw [List.length_take]; omega)]

/-! ### parts -/
def partB (l : List UInt8) : List UInt8 := numB l.length ++ l
def flatB (ll : List (List UInt8)) : List UInt8 := ll.flatMap partB
def joinB (ll : List (List UInt8)) : List UInt8 := numB ll.length ++ flatB ll
theorem flatB_cons (l : List UInt8) (ll : List (List UInt8)) : flatB (l :: ll) = partB l ++ flatB ll := rfl
theorem flatB_take (ll : List (List UInt8)) (k : Nat) (h : k < ll.length) : flatB (ll.take (k + 1)) = flatB (ll.take k) ++ partB ll[k] := by
  rw [List.take_succ_eq_append_getElem h, flatB, List.flatMap_append]; simp [flatB]
theorem flatB_length (ll : List (List UInt8)) : (flatB ll).length ≤ 9 * (ll.map fun l => l.length + 1).sum := by
  induction ll with
  | nil => simp [flatB]
  | cons l ll ih =>
    have := numB_length l.length
    rw [flatB_cons]
    simp only [partB, List.length_append, List.map_cons, List.sum_cons]
    omega
/-- m more parts -/
def resF : Nat → List (List UInt8) → List UInt8 → List (List UInt8) × Int
  | 0, done, r => if 0 < r.length then ([], 3) else (done, 0)
  | m + 1, done, r =>
    if (hd r).2.2 ≠ 0 then ([], (hd r).2.2)
    else if (r.drop (hd r).2.1).length < (hd r).1 then ([], 5)
    else resF m (done ++ [(r.drop (hd r).2.1).take (hd r).1]) (r.drop ((hd r).2.1 + (hd r).1))
def splitB (b : List UInt8) : List (List UInt8) × Int := if (hd b).2.2 ≠ 0 then ([], (hd b).2.2) else resF (hd b).1 [] (b.drop (hd b).2.1)

def Fits (ll : List (List UInt8)) : Prop := ll.length < 18446744073709551616 ∧ ∀ l ∈ ll, l.length < 18446744073709551616
theorem hd_part {l : List UInt8} (h : l.length < 18446744073709551616) (post : List UInt8) : hd (partB l ++ post) = (l.length, (numB l.length).length, 0) := by
  rw [partB, List.append_assoc, hd_numB h]
theorem resF_join : ∀ (ll : List (List UInt8)) (done : List (List UInt8)) (post : List UInt8), (∀ l ∈ ll, l.length < 18446744073709551616) →
    resF ll.length done (flatB ll ++ post) = if 0 < post.length then ([], 3) else (done ++ ll, 0)
  | [], done, post, _ => by simp [resF, flatB]
  | l :: ll, done, post, h => by
    have hl := h l (by simp)
    rw [flatB_cons, List.append_assoc, List.length_cons, resF, hd_part hl]
    simp only [ne_eq, not_true, if_false]
    have e1 : (partB l ++ (flatB ll ++ post)).drop (numB l.length).length = l ++ (flatB ll ++ post) := by
      rw [partB, List.append_assoc, List.drop_left]
    rw [e1, if_neg (by simp), List.take_left, ← List.drop_drop, e1, List.drop_left, resF_join ll _ post fun x hx => h x (by simp [hx])]
    simp
theorem splitB_joinB (ll : List (List UInt8)) (h : Fits ll) (post : List UInt8) : splitB (joinB ll ++ post) = if 0 < post.length then ([], 3) else (ll, 0) := by
  rw [splitB, joinB, List.append_assoc, hd_numB h.1]
  simp only [ne_eq, not_true, if_false]
  rw [List.drop_left, resF_join ll [] post h.2]
  simp
theorem splitB_join (ll : List (List UInt8)) (h : Fits ll) : splitB (joinB ll) = (ll, 0) := by
  have := splitB_joinB ll h []
  simpa using this
theorem resF_short : ∀ (ll : List (List UInt8)) (done : List (List UInt8)) (i : Nat), (∀ l ∈ ll, l.length < 18446744073709551616) → i < (flatB ll).length →
    resF ll.length done ((flatB ll).take i) = ([], 5)
  | [], done, i, _, hi => by simp [flatB] at hi
  | l :: ll, done, i, h, hi => by
    have hl := h l (by simp)
    rw [flatB_cons] at hi ⊢
    rw [List.length_cons, resF]
    by_cases h1 : i < (numB l.length).length
    · have e : (partB l ++ flatB ll).take i = (numB l.length).take i := by
        rw [partB, List.append_assoc, List.take_append_of_le_length (by omega)]
      rw [e, hd_short _ _ h1]
      simp
    · have e : (partB l ++ flatB ll).take i = numB l.length ++ (l ++ flatB ll).take (i - (numB l.length).length) := by
        rw [partB, List.append_assoc, List.take_append, List.take_of_length_le (by omega)]
      rw [e, hd_numB hl]
      simp only [ne_eq, not_true, if_false]
      rw [List.drop_left]
      by_cases h2 : i - (numB l.length).length < l.length
      · rw [if_pos (by rw [List.length_take]; omega)]
      · rw [if_neg (by rw [List.length_take, List.length_append]; omega), ← List.drop_drop, List.drop_left, List.drop_take, List.drop_left]
        refine resF_short ll _ _ (fun x hx => h x (by simp [hx])) ?_
        simp only [partB, List.length_append] at hi
        omega
theorem splitB_short (ll : List (List UInt8)) (h : Fits ll) (i : Nat) (hi : i < (joinB ll).length) : splitB ((joinB ll).take i) = ([], 5) := by
  rw [splitB]
  by_cases h1 : i < (numB ll.length).length
  · have e : (joinB ll).take i = (numB ll.length).take i := by
      rw [joinB, List.take_append_of_le_length (by omega)]
    rw [e, hd_short _ _ h1]
    simp
  · have e : (joinB ll).take i = numB ll.length ++ (flatB ll).take (i - (numB ll.length).length) := by
      rw [joinB, List.take_append, List.take_of_length_le (by omega)]
    rw [e, hd_numB h.1]
    simp only [ne_eq, not_true, if_false]
    rw [List.drop_left]
    refine resF_short ll _ _ h.2 ?_
    simp only [joinB, List.length_append] at hi
    omega
theorem resF_inv : ∀ (m : Nat) (done : List (List UInt8)) (r : List UInt8) (out : List (List UInt8)), resF m done r = (out, 0) → ∃ ll, ll.length = m ∧ out = done ++ ll ∧ r = flatB ll
  | 0, done, r, out, h => by
    rw [resF] at h
    split at h
    · simp at h
    · rename_i h0
      injection h with h _
      exact ⟨[], rfl, by simp [h], List.eq_nil_of_length_eq_zero (by omega)⟩
  | m + 1, done, r, out, h => by
    rw [resF] at h
    split at h
    · rename_i h0
      injection h with _ h
      exact absurd h h0
    · rename_i h0
      have h0 := Decidable.not_not.1 h0
      split at h
      · simp at h
      · rename_i h1
        obtain ⟨ll, e1, e2, e3⟩ := resF_inv m _ _ _ h
        obtain ⟨_, hu, _⟩ := hd_used r h0
        refine ⟨(r.drop (hd r).2.1).take (hd r).1 :: ll, by simp [e1], by simp [e2], ?_⟩
        have hl : ((r.drop (hd r).2.1).take (hd r).1).length = (hd r).1 := by rw [List.length_take]; omega
        rw [flatB_cons, ← e3, partB, hl, ← hd_inv r h0, List.append_assoc, ← List.drop_drop, List.take_append_drop, List.take_append_drop]
theorem splitB_inv (b : List UInt8) (out : List (List UInt8)) (h : splitB b = (out, 0)) : joinB out = b := by
  rw [splitB] at h
  split at h
  · rename_i h0
    injection h with _ h
    exact absurd h h0
  · rename_i h0
    have h0 := Decidable.not_not.1 h0
    obtain ⟨ll, e1, e2, e3⟩ := resF_inv _ _ _ _ h
    rw [List.nil_append] at e2
    subst e2
    rw [joinB, e1, ← hd_inv b h0, ← e3, List.take_append_drop]
end Go.Proofs.YtfgecgmgbngeaaaGreat
