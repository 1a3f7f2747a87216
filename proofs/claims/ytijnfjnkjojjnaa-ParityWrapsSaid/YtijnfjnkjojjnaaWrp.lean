/- Bytes wrapped into records of one size, and back. Plain mathematics, no program in sight. -/
import Derived.Test.YtijnfjnkjojjnaaAll3
namespace Go.Proofs.Ytijnfjnkjojjnaa

def wrapF : Nat → List UInt8 → List UInt8
  | 0, b => sealB b
  | f + 1, b => if 4096 ≤ b.length then sealB (b.take 4096) ++ wrapF f (b.drop 4096) else sealB b
theorem wrapF_fuel : ∀ (f g : Nat) (b : List UInt8), b.length ≤ f → b.length ≤ g → wrapF f b = wrapF g b
  | 0, 0, _, _, _ => rfl
  | 0, g + 1, b, h, _ => by rw [wrapF, wrapF, if_neg (by omega)]
  | f + 1, 0, b, _, h => by rw [wrapF, wrapF, if_neg (by omega)]
  | f + 1, g + 1, b, hf, hg => by
    rw [wrapF, wrapF]
    split
    · rw [wrapF_fuel f g (b.drop 4096) (by simp; omega) (by simp; omega)]
    · rfl
def wrapB (b : List UInt8) : List UInt8 := wrapF b.length b
theorem wrapB_small {b : List UInt8} (h : ¬ 4096 ≤ b.length) : wrapB b = sealB b := by
  unfold wrapB
  cases b.length with
  | zero => rfl
  | succ n => rw [wrapF, if_neg h]
theorem wrapB_big {b : List UInt8} (h : 4096 ≤ b.length) : wrapB b = sealB (b.take 4096) ++ wrapB (b.drop 4096) := by
  obtain ⟨n, hn⟩ : ∃ n, b.length = n + 1 := ⟨b.length - 1, by omega⟩
  rw [wrapB, hn, wrapF, if_pos h, wrapB]
  congr 1
  exact wrapF_fuel _ _ _ (by simp; omega) (Nat.le_refl _)
theorem wrapB_len : ∀ (n : Nat) (b : List UInt8), b.length ≤ n → (wrapB b).length ≤ 2 * b.length + 16
  | n, b, h => by
    by_cases h1 : 4096 ≤ b.length
    · match n, h with
      | 0, h => omega
      | n + 1, h =>
        have h2 := wrapB_len n (b.drop 4096) (by simp; omega)
        rw [wrapB_big h1, List.length_append, sealB_length, List.length_take]
        rw [List.length_drop] at h2
        omega
    · rw [wrapB_small h1, sealB_length]; omega

/-- record by record: what is unwrapped, the error -/
def unwF : Nat → List UInt8 → List UInt8 → List UInt8 × Int
  | 0, _, _ => ([], 5)
  | f + 1, done, r =>
    if (openR r).2.2 ≠ 0 then ([], (openR r).2.2)
    else if (openR r).1.length < 4096 then (if 0 < (openR r).2.1.length then ([], 3) else (done ++ (openR r).1, 0))
    else unwF f (done ++ (openR r).1) (openR r).2.1
theorem unwF_fuel : ∀ (f g : Nat) (done r : List UInt8), r.length < f → r.length < g → unwF f done r = unwF g done r
  | 0, _, _, _, h, _ => by omega
  | _, 0, _, _, _, h => by omega
  | f + 1, g + 1, done, r, hf, hg => by
    rw [unwF, unwF]
    split
    · rfl
    · rename_i h
      have h0 : (openR r).2.2 = 0 := Decidable.not_not.1 h
      obtain ⟨k, e, h8, hk⟩ := openR_rest (r := r) (x := (openR r).1) (r' := (openR r).2.1) (by rw [← h0])
      rw [unwF_fuel f g _ _ (by rw [e, List.length_drop]; omega) (by rw [e, List.length_drop]; omega)]
def unwN (done r : List UInt8) : List UInt8 × Int := unwF (r.length + 1) done r
theorem unwN_bad {done r x y : List UInt8} {er : Int} (h : openR r = (x, y, er)) (he : er ≠ 0) : unwN done r = ([], er) := by
  rw [unwN, unwF, h, if_pos he]
theorem unwN_form {done r x y : List UInt8} (h : openR r = (x, y, 0)) (hx : x.length < 4096) (hy : 0 < y.length) : unwN done r = ([], 3) := by
  rw [unwN, unwF, h, if_neg (by simp), if_pos hx, if_pos hy]
theorem unwN_end {done r x y : List UInt8} (h : openR r = (x, y, 0)) (hx : x.length < 4096) (hy : ¬ 0 < y.length) : unwN done r = (done ++ x, 0) := by
  rw [unwN, unwF, h, if_neg (by simp), if_pos hx, if_neg hy]
theorem unwN_ok {done r x y : List UInt8} (h : openR r = (x, y, 0)) (hx : ¬ x.length < 4096) : unwN done r = unwN (done ++ x) y := by
  obtain ⟨k, e, h8, hk⟩ := openR_rest h
  rw [unwN, unwF, h, if_neg (by simp), if_neg hx, unwN]
  exact unwF_fuel _ _ _ _ (by show y.length < _; rw [e, List.length_drop]; omega) (by show y.length < _; omega)
theorem unwN_wrapB : ∀ (n : Nat) (b done : List UInt8), b.length ≤ n → unwN done (wrapB b) = (done ++ b, 0)
  | n, b, done, h => by
    by_cases h1 : 4096 ≤ b.length
    · match n, h with
      | 0, h => omega
      | n + 1, h =>
        have hl : (b.take 4096).length = 4096 := by rw [List.length_take]; omega
        rw [wrapB_big h1, unwN_ok (openR_sealB (by omega) _) (by omega), unwN_wrapB n _ _ (by simp; omega), List.append_assoc, List.take_append_drop]
    · have h2 := openR_sealB (b := b) (by omega) []
      rw [List.append_nil] at h2
      rw [wrapB_small h1, unwN_end h2 (by omega) (by simp)]
/-- what it holds is no longer than what it stood in -/
theorem opN_len : ∀ (m n : Nat) (done r x r' : List UInt8), n ≤ m → opN n done r = (x, r', 0) → x.length + r'.length ≤ done.length + r.length
  | m, n, done, r, x, r', hm, h => by
    rcases Nat.eq_zero_or_pos n with h0 | h0
    · subst h0
      rw [opN_zero] at h
      injection h with h1 h
      injection h with h _
      rw [h1, h]; omega
    · match m, hm with
      | 0, hm => omega
      | m + 1, hm =>
        by_cases ht : tkE r (min 251 n) = 0
        · have hl := tkE_len ht
          rw [opN_ok h0 ht] at h
          have := opN_len m _ _ _ _ _ (by omega) h
          rw [List.length_append, List.length_take, List.length_drop] at this
          omega
        · rw [opN_bad h0 ht] at h
          injection h with _ h
          injection h with _ h
          exact absurd h ht
theorem openR_len {r x r' : List UInt8} (h : openR r = (x, r', 0)) : x.length + r'.length ≤ r.length := by
  by_cases ht : tkE r 4 = 0
  · have hl := tkE_len ht
    by_cases hn : 1048576 < be4 (r.take 4)
    · rw [openR_size ht hn] at h
      injection h with _ h
      injection h with _ h
      exact absurd h (by decide)
    · rw [openR_ok ht hn] at h
      have := opN_len _ _ _ _ _ _ (Nat.le_refl _) h
      rw [List.length_drop] at this
      simp at this
      omega
  · rw [openR_bad ht] at h
    injection h with _ h
    injection h with _ h
    exact absurd h ht
end Go.Proofs.Ytijnfjnkjojjnaa
