/- What label.Match computes. Plain theorems, no walk. -/
namespace Go.Proofs.YtnoimmhdoaeeiaaDoor

def bat (l : List UInt8) (i : Nat) : UInt8 := (l[i]?).getD 0
/-- nothing but stars -/
def stars (l : List UInt8) : Bool := l.all (· == 42)
/-- the loop of Match; st: one more than the place of the last star that was met, or 0 -/
def matF (s p : List UInt8) : Nat → Nat → Nat → Nat → Nat → Bool
  | 0, _, _, _, _ => false
  | n + 1, i, k, st, fr =>
    if i < s.length then
      if k < p.length ∧ bat p k = 42 then matF s p n i (k + 1) (k + 1) i
      else if k < p.length ∧ (bat p k = 63 ∨ bat p k = bat s i) then matF s p n (i + 1) (k + 1) st fr
      else if 0 < st then matF s p n (fr + 1) st st (fr + 1)
      else false
    else stars (p.drop k)
section
variable {s p : List UInt8} {n i k st fr : Nat}
theorem matF_star (hi : i < s.length) (hk : k < p.length) (h : bat p k = 42) : matF s p (n + 1) i k st fr = matF s p n i (k + 1) (k + 1) i := by
  rw [matF, if_pos hi, if_pos ⟨hk, h⟩]
theorem matF_one (hi : i < s.length) (hk : k < p.length) (h : bat p k ≠ 42) (h2 : bat p k = 63 ∨ bat p k = bat s i) : matF s p (n + 1) i k st fr = matF s p n (i + 1) (k + 1) st fr := by
  rw [matF, if_pos hi, if_neg (fun x => h x.2), if_pos ⟨hk, h2⟩]
theorem matF_back (hi : i < s.length) (h : ¬ (k < p.length ∧ bat p k = 42)) (h2 : ¬ (k < p.length ∧ (bat p k = 63 ∨ bat p k = bat s i))) (hs : 0 < st) : matF s p (n + 1) i k st fr = matF s p n (fr + 1) st st (fr + 1) := by
  rw [matF, if_pos hi, if_neg h, if_neg h2, if_pos hs]
theorem matF_no (hi : i < s.length) (h : ¬ (k < p.length ∧ bat p k = 42)) (h2 : ¬ (k < p.length ∧ (bat p k = 63 ∨ bat p k = bat s i))) (hs : ¬ 0 < st) : matF s p (n + 1) i k st fr = false := by
  rw [matF, if_pos hi, if_neg h, if_neg h2, if_neg hs]
theorem matF_end (hi : ¬ i < s.length) : matF s p (n + 1) i k st fr = stars (p.drop k) := by rw [matF, if_neg hi]
end
/-- how far the loop is from its end -/
def matM (S P i st fr : Nat) : Nat := ((P + 1 - st) * (S + 2) + (S + 1 - fr)) * (S + 2) + (S + 1 - i)
theorem lex3 {B a b c a' b' c' : Nat} (hb : b' ≤ B) (hc : c' ≤ B) (h : a' < a) : (a' * (B + 1) + b') * (B + 1) + c' < (a * (B + 1) + b) * (B + 1) + c := by
  have h1 : (a' + 1) * (B + 1) ≤ a * (B + 1) := Nat.mul_le_mul_right _ h
  have h2 : a' * (B + 1) + b' + 1 ≤ a * (B + 1) + b := by rw [Nat.add_mul] at h1; omega
  have h3 : (a' * (B + 1) + b' + 1) * (B + 1) ≤ (a * (B + 1) + b) * (B + 1) := Nat.mul_le_mul_right _ h2
  rw [Nat.add_mul] at h3
  omega
theorem lex2 {B a b c b' c' : Nat} (hc : c' ≤ B) (h : b' < b) : (a * (B + 1) + b') * (B + 1) + c' < (a * (B + 1) + b) * (B + 1) + c := by
  have h3 : (a * (B + 1) + b' + 1) * (B + 1) ≤ (a * (B + 1) + b) * (B + 1) := Nat.mul_le_mul_right _ (by omega)
  rw [Nat.add_mul] at h3
  omega
theorem mat_star {S P i k st fr : Nat} (hst : st ≤ k) (hk : k < P) : matM S P i (k + 1) i < matM S P i st fr :=
  lex3 (B := S + 1) (by omega) (by omega) (by omega)
theorem mat_one {S P i st fr : Nat} (hi : i < S) : matM S P (i + 1) st fr < matM S P i st fr := by unfold matM; omega
theorem mat_back {S P i st fr : Nat} (hf : fr ≤ i) (hi : i < S) : matM S P (fr + 1) st (fr + 1) < matM S P i st fr :=
  lex2 (B := S + 1) (by omega) (by omega)
/-- does the text match? -/
def matS (s p : List UInt8) : Bool := matF s p (matM s.length p.length 0 0 0 + 1) 0 0 0 0
theorem mat_any (s : List UInt8) : ∀ n i, s.length - i < n → i ≤ s.length → matF s [42] n i 1 1 i = true
  | 0, _, h, _ => by omega
  | n + 1, i, h, hi => by
    rw [matF]
    by_cases h1 : i < s.length
    · rw [if_pos h1, if_neg (by simp), if_neg (by simp), if_pos (by omega)]
      exact mat_any s n (i + 1) (by omega) h1
    · rw [if_neg h1]; rfl
theorem matS_any (s : List UInt8) : matS s [42] = true := by
  rw [matS, matF]
  by_cases h1 : 0 < s.length
  · rw [if_pos h1, if_pos (by exact ⟨by simp, rfl⟩)]
    exact mat_any s _ 0 (by unfold matM; simp; omega) (by omega)
  · rw [if_neg h1]; rfl
end Go.Proofs.YtnoimmhdoaeeiaaDoor
