/- Plain mathematics of pack's numbers: how a number is written, how it is taken. No program in sight. -/
import Derived.Test.YtpbgjldjipgfeaaCmp
namespace Go.Proofs.Ytpbgjldjipgfeaa

/-- the bytes of a number, the greatest first, none for 0; with fuel -/
def beF : Nat → Nat → List UInt8
  | 0, _ => []
  | f + 1, n => if n = 0 then [] else beF f (n / 256) ++ [UInt8.ofNat (n % 256)]
def be (n : Nat) : List UInt8 := beF 8 n

theorem beF_zero (f : Nat) : beF f 0 = [] := by cases f <;> simp [beF]
theorem beF_succ (f n : Nat) (h : 0 < n) : beF (f + 1) n = beF f (n / 256) ++ [UInt8.ofNat (n % 256)] := by rw [beF, if_neg (by omega)]
theorem beF_length (f n : Nat) : (beF f n).length ≤ f := by
  induction f generalizing n with
  | zero => simp [beF]
  | succ f ih => rw [beF]; split <;> simp [ih]

/-- a number as bytes -/
def numB (n : Nat) : List UInt8 := if n < 248 then [UInt8.ofNat n] else UInt8.ofNat (247 + (be n).length) :: be n
def numsB (l : List Nat) : List UInt8 := l.flatMap numB

theorem be_length (n : Nat) : (be n).length ≤ 8 := beF_length 8 n
theorem numB_length (n : Nat) : (numB n).length ≤ 9 := by
  unfold numB; split
  · simp
  · have := be_length n; simp; omega
theorem numsB_length (l : List Nat) : (numsB l).length ≤ 9 * l.length := by
  induction l with
  | nil => simp [numsB]
  | cons n l ih => have := numB_length n; simp only [numsB, List.flatMap_cons, List.length_append, List.length_cons] at ih ⊢; omega
theorem numsB_take (l : List Nat) (k : Nat) (h : k < l.length) : numsB (l.take (k + 1)) = numsB (l.take k) ++ numB l[k] := by
  rw [List.take_succ_eq_append_getElem h, numsB, List.flatMap_append]; simp [numsB]

theorem numB_small (n : Nat) (h : n ≤ 247) : numB n = [UInt8.ofNat n] := by rw [numB, if_pos (by omega)]
theorem numB_large (n : Nat) (h : ¬ n ≤ 247) : numB n = UInt8.ofNat (247 + (be n).length) :: be n := by rw [numB, if_neg (by omega)]
/-- one step of taking bytes off a number: f more are left room for -/
theorem beF_step {n f m : Nat} {rest : List UInt8} (h : beF (f + 1) m ++ rest = be n) (h0 : 0 < m) : beF f (m / 256) ++ (UInt8.ofNat (m % 256) :: rest) = be n := by
  rw [beF_succ f m h0, List.append_assoc] at h; exact h
theorem beF_stop {n f : Nat} {rest : List UInt8} (h : beF f 0 ++ rest = be n) : rest = be n := by rw [beF_zero] at h; exact h

/-- the number that bytes are, the greatest first -/
def valF (a : Nat) (l : List UInt8) : Nat := l.foldl (fun v b => v * 256 + b.toNat) a
def val (l : List UInt8) : Nat := valF 0 l

theorem valF_snoc (a : Nat) (l : List UInt8) (b : UInt8) : valF a (l ++ [b]) = valF a l * 256 + b.toNat := by simp [valF]
theorem val_snoc (l : List UInt8) (b : UInt8) : val (l ++ [b]) = val l * 256 + b.toNat := valF_snoc 0 l b
theorem val_lt (l : List UInt8) : val l < 256 ^ l.length := by
  suffices h : ∀ (n : Nat) (l : List UInt8), l.length = n → val l < 256 ^ n from h _ _ rfl
  intro n
  induction n with
  | zero => intro l h; rw [List.eq_nil_of_length_eq_zero h]; simp [val, valF]
  | succ n ih =>
    intro l h
    obtain ⟨s, b, rfl⟩ : ∃ s b, l = s ++ [b] := ⟨l.dropLast, l.getLast (by intro e; rw [e] at h; simp at h), (List.dropLast_concat_getLast _).symm⟩
    rw [List.length_append, List.length_singleton] at h
    have := ih s (by omega)
    have hb := b.toNat_lt
    rw [val_snoc, Nat.pow_succ]
    omega
theorem val_take_succ (l : List UInt8) (i : Nat) (h : i < l.length) : val (l.take (i + 1)) = val (l.take i) * 256 + l[i].toNat := by
  rw [List.take_succ_eq_append_getElem h, val_snoc]
theorem val_take_lt (l : List UInt8) (i : Nat) : val (l.take i) < 256 ^ i := by
  refine Nat.lt_of_lt_of_le (val_lt _) (Nat.pow_le_pow_right (by omega) ?_)
  rw [List.length_take]; omega

theorem valF_eq (l : List UInt8) : ∀ a, valF a l = a * 256 ^ l.length + val l := by
  induction l with
  | nil => intro a; simp [valF, val]
  | cons c l ih =>
    intro a
    have h1 : valF a (c :: l) = valF (a * 256 + c.toNat) l := rfl
    have h2 : val (c :: l) = valF (0 * 256 + c.toNat) l := rfl
    rw [h1, h2, ih, ih (0 * 256 + c.toNat), List.length_cons, Nat.pow_succ, Nat.add_mul, Nat.zero_mul, Nat.zero_add, Nat.mul_assoc, Nat.mul_comm 256, Nat.add_assoc]
theorem val_cons (c : UInt8) (l : List UInt8) : val (c :: l) = c.toNat * 256 ^ l.length + val l := by
  have h : val (c :: l) = valF (0 * 256 + c.toNat) l := rfl
  rw [h, valF_eq]; simp

theorem beF_len_le : ∀ (f n j : Nat), n < 256 ^ j → (beF f n).length ≤ j
  | 0, _, _, _ => by simp [beF]
  | f + 1, n, j, h => by
    rw [beF]
    split
    · simp
    · rename_i h0
      cases j with
      | zero => simp at h; omega
      | succ j =>
        have := beF_len_le f (n / 256) j (Nat.div_lt_of_lt_mul (by rw [Nat.mul_comm, ← Nat.pow_succ]; exact h))
        simp; omega
theorem beF_len_ge : ∀ (f n j : Nat), 256 ^ j ≤ n → j < f → j < (beF f n).length
  | 0, _, _, _, h => by omega
  | f + 1, n, j, h, hj => by
    have hp : 0 < 256 ^ j := Nat.pow_pos (by omega)
    rw [beF, if_neg (by omega)]
    cases j with
    | zero => simp
    | succ j =>
      have := beF_len_ge f (n / 256) j ((Nat.le_div_iff_mul_le (by omega)).2 (by rw [← Nat.pow_succ]; exact h)) (by omega)
      simp; omega
/-- the shortest form is just that of the right length -/
theorem numB_len_iff (p : List UInt8) (h0 : 0 < p.length) (h8 : p.length ≤ 8) : (numB (val p)).length = p.length + 1 ↔ ¬ (val p ≤ 247 ∨ p.head? = some 0) := by
  obtain ⟨c, t, rfl⟩ : ∃ c t, p = c :: t := by cases p with
    | nil => simp at h0
    | cons c t => exact ⟨c, t, rfl⟩
  simp only [List.length_cons] at h0 h8 ⊢
  simp only [List.head?_cons, Option.some.injEq, not_or]
  have hv := val_cons c t
  have ht := val_lt t
  by_cases hs : val (c :: t) ≤ 247
  · rw [numB_small _ hs]; simp; omega
  · rw [numB_large _ hs]
    by_cases hc : c = 0
    · subst hc
      have : val (0 :: t) < 256 ^ t.length := by rw [hv]; simpa using ht
      have h1 := beF_len_le 8 _ _ this
      have h2 : (be (val (0 :: t))).length ≤ t.length := h1
      simp; omega
    · have hcpos : 0 < c.toNat := Nat.pos_of_ne_zero fun h => hc (UInt8.toNat_inj.1 h)
      have hge : 256 ^ t.length ≤ val (c :: t) := by
        rw [hv]
        exact Nat.le_trans (Nat.le_mul_of_pos_left _ hcpos) (Nat.le_add_right _ _)
      have hlt : val (c :: t) < 256 ^ (t.length + 1) := val_lt (c :: t)
      have h1 : t.length < (be (val (c :: t))).length := beF_len_ge 8 _ _ hge (by omega)
      have h2 : (be (val (c :: t))).length ≤ t.length + 1 := beF_len_le 8 _ _ hlt
      simp only [List.length_cons]
      exact ⟨fun _ => ⟨hs, hc⟩, fun _ => by omega⟩

theorem val_beF : ∀ (f n : Nat), n < 256 ^ f → val (beF f n) = n
  | 0, n, h => by simp at h; subst h; rfl
  | f + 1, n, h => by
    rw [beF]
    split
    · rename_i h0; subst h0; rfl
    · rw [val_snoc, val_beF f (n / 256) (Nat.div_lt_of_lt_mul (by rw [Nat.mul_comm, ← Nat.pow_succ]; exact h)), UInt8.toNat_ofNat']
      omega
theorem val_be {n : Nat} (h : n < 18446744073709551616) : val (be n) = n := val_beF 8 n (Nat.lt_of_lt_of_le h (Nat.le_of_eq (by decide)))

/-- the number at a place: itself, the place behind it, the error's number -/
def takeB (b : List UInt8) (at_ : Int) : Nat × Int × Int :=
  if at_ < 0 ∨ (b.length : Int) < at_ then (0, 0, 1) else
  match b.drop at_.toNat with
  | [] => (0, 0, 5)
  | f :: r =>
    if f.toNat ≤ 247 then (f.toNat, at_ + 1, 0)
    else if r.length < f.toNat - 247 then (0, 0, 5)
    else if val (r.take (f.toNat - 247)) ≤ 247 ∨ r.head? = some 0 then (0, 0, 3)
    else (val (r.take (f.toNat - 247)), at_ + 1 + ((f.toNat - 247 : Nat) : Int), 0)

theorem takeB_arg (b : List UInt8) (at_ : Int) (h : at_ < 0 ∨ (b.length : Int) < at_) : takeB b at_ = (0, 0, 1) := by rw [takeB, if_pos h]
theorem takeB_end (b : List UInt8) : takeB b b.length = (0, 0, 5) := by
  rw [takeB, if_neg (by omega), Int.toNat_natCast, List.drop_length]
theorem takeB_at (b : List UInt8) (a : Nat) (h : a < b.length) : takeB b a =
    if b[a].toNat ≤ 247 then (b[a].toNat, (a : Int) + 1, 0)
    else if (b.drop (a + 1)).length < b[a].toNat - 247 then (0, 0, 5)
    else if val ((b.drop (a + 1)).take (b[a].toNat - 247)) ≤ 247 ∨ (b.drop (a + 1)).head? = some 0 then (0, 0, 3)
    else (val ((b.drop (a + 1)).take (b[a].toNat - 247)), (a : Int) + 1 + ((b[a].toNat - 247 : Nat) : Int), 0) := by
  rw [takeB, if_neg (by omega), Int.toNat_natCast, List.drop_eq_getElem_cons h]
/-- what Number has written, Take takes -/
theorem takeB_numB {n : Nat} (h : n < 18446744073709551616) (pre post : List UInt8) : takeB (pre ++ numB n ++ post) (pre.length : Int) = (n, ((pre ++ numB n).length : Int), 0) := by
  by_cases h1 : n ≤ 247
  · have e : numB n = [UInt8.ofNat n] := numB_small n h1
    have hx : (UInt8.ofNat n).toNat = n := by rw [UInt8.toNat_ofNat']; omega
    rw [e, takeB_at _ _ (by simp)]
    have hb : (pre ++ [UInt8.ofNat n] ++ post)[pre.length]'(by simp) = UInt8.ofNat n := by simp
    rw [hb, hx, if_pos h1]
    simp
  · have e : numB n = UInt8.ofNat (247 + (be n).length) :: be n := numB_large n h1
    have hk := be_length n
    have hv := val_be h
    have hk0 : 0 < (be n).length := by
      rcases Nat.eq_zero_or_pos (be n).length with h0 | h0
      · rw [List.eq_nil_of_length_eq_zero h0] at hv
        have : val [] = 0 := rfl
        omega
      · exact h0
    have hx : (UInt8.ofNat (247 + (be n).length)).toNat = 247 + (be n).length := by rw [UInt8.toNat_ofNat']; omega
    have hf := (numB_len_iff (be n) hk0 hk).1 (by rw [hv, e]; simp)
    rw [hv] at hf
    rw [e, takeB_at _ _ (by simp)]
    have hb : (pre ++ (UInt8.ofNat (247 + (be n).length) :: be n) ++ post)[pre.length]'(by simp) = UInt8.ofNat (247 + (be n).length) := by simp
    have hd : (pre ++ (UInt8.ofNat (247 + (be n).length) :: be n) ++ post).drop (pre.length + 1) = be n ++ post := by
      rw [List.append_assoc, ← List.drop_drop, List.drop_left]; rfl
    have hkk : 247 + (be n).length - 247 = (be n).length := by omega
    have hh : (be n ++ post).head? = (be n).head? := by
      cases hbe : be n with
      | nil => rw [hbe] at hk0; simp at hk0
      | cons => rfl
    rw [hb, hx, hd, if_neg (by omega), hkk, if_neg (by simp), List.take_left, hv, hh, if_neg hf]
    simp only [List.length_append, List.length_cons, Prod.mk.injEq, true_and, and_true]
    omega
theorem takeB_numsB {l : List Nat} (hl : ∀ n ∈ l, n < 18446744073709551616) (k : Nat) (h : k < l.length) :
    takeB (numsB l) ((numsB (l.take k)).length : Int) = (l[k], ((numsB (l.take (k + 1))).length : Int), 0) := by
  have e : numsB l = numsB (l.take k) ++ numB l[k] ++ numsB (l.drop (k + 1)) := by
    rw [← numsB_take l k h]
    unfold numsB
    rw [← List.flatMap_append, List.take_append_drop]
  rw [numsB_take l k h, ← takeB_numB (hl _ (List.getElem_mem h)) (numsB (l.take k)) (numsB (l.drop (k + 1))), ← e]
end Go.Proofs.Ytpbgjldjipgfeaa
