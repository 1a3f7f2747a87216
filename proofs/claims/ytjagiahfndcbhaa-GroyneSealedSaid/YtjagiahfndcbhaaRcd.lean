/- Records: bytes in cells with check bytes, and back. Plain mathematics, no program in sight. -/
import Derived.Test.YtjagiahfndcbhaaPoly
namespace Go.Proofs.Ytjagiahfndcbhaa

def cellB (b : List UInt8) : List UInt8 := b ++ ql (chk b)
def lenB (n : Nat) : List UInt8 := [UInt8.ofNat (n / 16777216), UInt8.ofNat (n / 65536), UInt8.ofNat (n / 256), UInt8.ofNat n]
def cellsF : Nat → List UInt8 → List UInt8
  | 0, _ => []
  | f + 1, b => if b.length = 0 then [] else cellB (b.take 251) ++ cellsF f (b.drop 251)
def cellsB (b : List UInt8) : List UInt8 := cellsF b.length b
def sealB (b : List UInt8) : List UInt8 := cellB (lenB b.length) ++ cellsB b
theorem cellB_length (b : List UInt8) : (cellB b).length = b.length + 4 := by simp [cellB, ql]
theorem cellsF_fuel : ∀ (f g : Nat) (b : List UInt8), b.length ≤ f → b.length ≤ g → cellsF f b = cellsF g b
  | 0, 0, _, _, _ => rfl
  | 0, g + 1, b, h, _ => by rw [cellsF, cellsF, if_pos (by omega)]
  | f + 1, 0, b, _, h => by rw [cellsF, cellsF, if_pos (by omega)]
  | f + 1, g + 1, b, hf, hg => by
    rw [cellsF, cellsF]
    split
    · rfl
    · rw [cellsF_fuel f g (b.drop 251) (by simp; omega) (by simp; omega)]
theorem cellsB_nil {b : List UInt8} (h : b.length = 0) : cellsB b = [] := by rw [cellsB, h]; rfl
theorem cellsB_step {b : List UInt8} (h : 0 < b.length) : cellsB b = cellB (b.take 251) ++ cellsB (b.drop 251) := by
  obtain ⟨n, hn⟩ : ∃ n, b.length = n + 1 := ⟨b.length - 1, by omega⟩
  rw [cellsB, hn, cellsF, if_neg (by omega), cellsB]
  congr 1
  exact cellsF_fuel _ _ _ (by simp; omega) (Nat.le_refl _)
theorem cellsB_length : ∀ (n : Nat) (b : List UInt8), b.length ≤ n → (cellsB b).length = b.length + 4 * ((b.length + 250) / 251)
  | n, b, h => by
    rcases Nat.eq_zero_or_pos b.length with h0 | h0
    · rw [cellsB_nil h0, h0]; rfl
    · match n, h with
      | 0, h => omega
      | n + 1, h =>
        rw [cellsB_step h0, List.length_append, cellB_length, cellsB_length n (b.drop 251) (by simp; omega), List.length_take, List.length_drop]
        by_cases h1 : b.length ≤ 251
        · rw [Nat.min_eq_right h1]
          omega
        · rw [Nat.min_eq_left (by omega)]
          omega
theorem sealB_length (b : List UInt8) : (sealB b).length = 8 + b.length + 4 * ((b.length + 250) / 251) := by
  rw [sealB, List.length_append, cellB_length, cellsB_length _ b (Nat.le_refl _)]
  simp [lenB]; omega

/-! ### back -/
/-- the cell of n bytes at the head of r: its error -/
def tkE (r : List UInt8) (n : Nat) : Int := if r.length < n + 4 then 5 else if goodB (r.take (n + 4)) then 0 else 4
/-- the number that four bytes are -/
def be4 (l : List UInt8) : Nat := l.foldl (fun v b => v * 256 + b.toNat) 0
/-- n bytes more, at the head of r -/
def opF : Nat → Nat → List UInt8 → List UInt8 → List UInt8 × List UInt8 × Int
  | 0, _, done, r => (done, r, 0)
  | f + 1, n, done, r =>
    if n = 0 then (done, r, 0)
    else if tkE r (min 251 n) ≠ 0 then ([], [], tkE r (min 251 n))
    else opF f (n - min 251 n) (done ++ r.take (min 251 n)) (r.drop (min 251 n + 4))
/-- the record at the head of r: what it holds, what is behind it, the error -/
def openR (r : List UInt8) : List UInt8 × List UInt8 × Int :=
  if tkE r 4 ≠ 0 then ([], [], tkE r 4)
  else if 1048576 < be4 (r.take 4) then ([], [], 2)
  else opF (be4 (r.take 4)) (be4 (r.take 4)) [] (r.drop 8)
theorem opF_fuel : ∀ (f g n : Nat) (done r : List UInt8), n ≤ f → n ≤ g → opF f n done r = opF g n done r
  | 0, 0, _, _, _, _, _ => rfl
  | 0, g + 1, n, done, r, h, _ => by rw [opF, opF, if_pos (by omega)]
  | f + 1, 0, n, done, r, _, h => by rw [opF, opF, if_pos (by omega)]
  | f + 1, g + 1, n, done, r, hf, hg => by
    rw [opF, opF]
    split
    · rfl
    · split
      · rfl
      · exact opF_fuel f g _ _ _ (by omega) (by omega)
def opN (n : Nat) (done r : List UInt8) : List UInt8 × List UInt8 × Int := opF n n done r
theorem opN_zero (done r : List UInt8) : opN 0 done r = (done, r, 0) := rfl
theorem opN_bad {n : Nat} {done r : List UInt8} (hn : 0 < n) (h : tkE r (min 251 n) ≠ 0) : opN n done r = ([], [], tkE r (min 251 n)) := by
  obtain ⟨m, rfl⟩ : ∃ m, n = m + 1 := ⟨n - 1, by omega⟩
  rw [opN, opF, if_neg (by omega), if_pos h]
theorem opN_ok {n : Nat} {done r : List UInt8} (hn : 0 < n) (h : tkE r (min 251 n) = 0) : opN n done r = opN (n - min 251 n) (done ++ r.take (min 251 n)) (r.drop (min 251 n + 4)) := by
  obtain ⟨m, rfl⟩ : ∃ m, n = m + 1 := ⟨n - 1, by omega⟩
  rw [opN, opF, if_neg (by omega), if_neg (by simp [h]), opN]
  exact opF_fuel _ _ _ _ _ (by omega) (Nat.le_refl _)
theorem openR_bad {r : List UInt8} (h : tkE r 4 ≠ 0) : openR r = ([], [], tkE r 4) := by rw [openR, if_pos h]
theorem openR_size {r : List UInt8} (h : tkE r 4 = 0) (hn : 1048576 < be4 (r.take 4)) : openR r = ([], [], 2) := by rw [openR, if_neg (by simp [h]), if_pos hn]
theorem openR_ok {r : List UInt8} (h : tkE r 4 = 0) (hn : ¬ 1048576 < be4 (r.take 4)) : openR r = opN (be4 (r.take 4)) [] (r.drop 8) := by rw [openR, if_neg (by simp [h]), if_neg hn]; rfl

/-! ### what was sealed opens -/
theorem tkE_cell (b post : List UInt8) {n : Nat} (hn : b.length = n) : tkE (cellB b ++ post) n = 0 := by
  have hl := cellB_length b
  rw [tkE, if_neg (by rw [List.length_append]; omega), show n + 4 = (cellB b).length by omega, List.take_left, cellB, goodB_cell]
  rfl
theorem be4_lenB {n : Nat} (h : n ≤ 1048576) : be4 (lenB n) = n := by
  simp only [be4, lenB, List.foldl_cons, List.foldl_nil, UInt8.toNat_ofNat']
  omega
theorem opN_cells : ∀ (k : Nat) (b done post : List UInt8), b.length ≤ k → opN b.length done (cellsB b ++ post) = (done ++ b, post, 0)
  | k, b, done, post, h => by
    rcases Nat.eq_zero_or_pos b.length with h0 | h0
    · rw [cellsB_nil h0, h0, opN_zero, List.eq_nil_of_length_eq_zero h0]; simp
    · match k, h with
      | 0, h => omega
      | k + 1, h =>
        have hl : (b.take 251).length = min 251 b.length := by rw [List.length_take]
        have e : cellsB b ++ post = cellB (b.take 251) ++ (cellsB (b.drop 251) ++ post) := by rw [cellsB_step h0, List.append_assoc]
        have hc := cellB_length (b.take 251)
        rw [e, opN_ok h0 (tkE_cell _ _ hl), show min 251 b.length + 4 = (cellB (b.take 251)).length by omega, List.drop_left]
        rw [show b.length - min 251 b.length = (b.drop 251).length by rw [List.length_drop]; omega]
        rw [opN_cells k (b.drop 251) _ post (by rw [List.length_drop]; omega)]
        have ht : (cellB (b.take 251) ++ (cellsB (b.drop 251) ++ post)).take (min 251 b.length) = b.take 251 := by
          rw [cellB, List.append_assoc, ← hl, List.take_left]
        rw [ht, List.append_assoc, List.take_append_drop]
theorem openR_sealB {b : List UInt8} (h : b.length ≤ 1048576) (post : List UInt8) : openR (sealB b ++ post) = (b, post, 0) := by
  have e : sealB b ++ post = cellB (lenB b.length) ++ (cellsB b ++ post) := by rw [sealB, List.append_assoc]
  have hl : (lenB b.length).length = 4 := rfl
  have hc := cellB_length (lenB b.length)
  have ht : (cellB (lenB b.length) ++ (cellsB b ++ post)).take 4 = lenB b.length := by
    rw [cellB, List.append_assoc, ← hl, List.take_left]
  rw [e, openR_ok (tkE_cell _ _ hl) (by rw [ht, be4_lenB h]; omega), ht, be4_lenB h, show 8 = (cellB (lenB b.length)).length by omega, List.drop_left, opN_cells _ _ _ _ (Nat.le_refl _)]
  rfl

/-! ### a beginning of it does not -/
theorem opN_short : ∀ (k : Nat) (b done : List UInt8) (i : Nat), b.length ≤ k → i < (cellsB b).length → opN b.length done ((cellsB b).take i) = ([], [], 5)
  | k, b, done, i, h, hi => by
    rcases Nat.eq_zero_or_pos b.length with h0 | h0
    · rw [cellsB_nil h0] at hi; simp at hi
    · match k, h with
      | 0, h => omega
      | k + 1, h =>
        have hl : (b.take 251).length = min 251 b.length := by rw [List.length_take]
        have hc := cellB_length (b.take 251)
        rw [cellsB_step h0] at hi ⊢
        by_cases h1 : i < min 251 b.length + 4
        · have e5 : tkE ((cellB (b.take 251) ++ cellsB (b.drop 251)).take i) (min 251 b.length) = 5 := by
            rw [tkE, if_pos (by rw [List.length_take]; omega)]
          rw [opN_bad h0 (by rw [e5]; decide), e5]
        · have e : (cellB (b.take 251) ++ cellsB (b.drop 251)).take i = cellB (b.take 251) ++ (cellsB (b.drop 251)).take (i - (cellB (b.take 251)).length) := by
            rw [List.take_append, List.take_of_length_le (by omega)]
          rw [e, opN_ok h0 (tkE_cell _ _ hl), show min 251 b.length + 4 = (cellB (b.take 251)).length by omega, List.drop_left,
            show b.length - min 251 b.length = (b.drop 251).length by rw [List.length_drop]; omega]
          refine opN_short k (b.drop 251) _ _ (by rw [List.length_drop]; omega) ?_
          rw [List.length_append] at hi
          omega
theorem openR_short {b : List UInt8} (h : b.length ≤ 1048576) (i : Nat) (hi : i < (sealB b).length) : openR ((sealB b).take i) = ([], [], 5) := by
  have hl : (lenB b.length).length = 4 := rfl
  have hc := cellB_length (lenB b.length)
  rw [sealB] at hi ⊢
  by_cases h1 : i < 8
  · have e5 : tkE ((cellB (lenB b.length) ++ cellsB b).take i) 4 = 5 := by
      rw [tkE, if_pos (by rw [List.length_take]; omega)]
    rw [openR_bad (by rw [e5]; decide), e5]
  · have e : (cellB (lenB b.length) ++ cellsB b).take i = cellB (lenB b.length) ++ (cellsB b).take (i - 8) := by
      rw [List.take_append, List.take_of_length_le (by omega), hc, hl]
    have ht : (cellB (lenB b.length) ++ (cellsB b).take (i - 8)).take 4 = lenB b.length := by
      rw [cellB, List.append_assoc, ← hl, List.take_left]
    rw [e, openR_ok (tkE_cell _ _ hl) (by rw [ht, be4_lenB h]; omega), ht, be4_lenB h, show 8 = (cellB (lenB b.length)).length by omega, List.drop_left]
    refine opN_short _ b [] _ (Nat.le_refl _) ?_
    rw [List.length_append] at hi
    omega
end Go.Proofs.Ytjagiahfndcbhaa
