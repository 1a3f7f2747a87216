/- a seal of which up to four bytes were changed, and that was cut, is a seal only where it is the same. -/
import Derived.Test.YtncchbcoldgpbaaRvB
import Derived.Test.YtncchbcoldgpbaaPyM
namespace Go.Proofs.Ytncchbcoldgpbaa
open Go.RowKit
set_option linter.unusedVariables false
set_option linter.unusedSimpArgs false

theorem wt_app : ∀ (a b : List UInt8), wt (a ++ b) = wt a + wt b
  | [], b => by simp [wt, terms]
  | x :: a, b => by
    have h := wt_app a b
    simp only [wt] at h ⊢
    rw [List.cons_append, terms, terms]
    split
    · exact h
    · simp only [List.length_cons]; omega
theorem xorL_app (a b c d : List UInt8) (h : a.length = c.length) : xorL (a ++ b) (c ++ d) = xorL a c ++ xorL b d := List.zipWith_append h
/-- a good cell near a good cell is the same -/
theorem cell_near {b c : List UInt8} (hb : b.length ≤ 251) (hl : c.length = b.length) (hw : wt (xorL (cellB c) (cellB b)) ≤ 4) : c = b := by
  have h := tells (b := b) (cur := cellB c) hb (by simp only [cellB, List.length_append, ql, List.length_cons, List.length_nil, hl]) hw
  have hg : goodB (cellB c) = true := goodB_cell c
  rw [hg] at h
  have he := of_decide_eq_true h.symm
  exact (List.append_inj he hl).1
theorem cells_near : ∀ (n : Nat) (b c : List UInt8), b.length ≤ n → c.length = b.length → wt (xorL (cellsB c) (cellsB b)) ≤ 4 → c = b
  | 0, b, c, h, hl, _ => by
    have hb : b = [] := List.eq_nil_of_length_eq_zero (by omega)
    subst hb
    exact List.eq_nil_of_length_eq_zero (by simpa using hl)
  | n + 1, b, c, h, hl, hw => by
    by_cases h0 : b.length = 0
    · have hb : b = [] := List.eq_nil_of_length_eq_zero h0
      subst hb
      exact List.eq_nil_of_length_eq_zero (by simpa using hl)
    · rw [cellsB_step (b := c) (by omega), cellsB_step (b := b) (by omega), xorL_app _ _ _ _ (by rw [cellB_length, cellB_length, List.length_take, List.length_take, hl]), wt_app] at hw
      have h1 := cell_near (b := b.take 251) (c := c.take 251) (by rw [List.length_take]; omega) (by rw [List.length_take, List.length_take, hl]) (by omega)
      have h2 := cells_near n (b.drop 251) (c.drop 251) (by rw [List.length_drop]; omega) (by rw [List.length_drop, List.length_drop, hl]) (by omega)
      rw [← List.take_append_drop 251 c, h1, h2, List.take_append_drop]
/-- the whole -/
theorem seal_near {b c x : List UInt8} {k : Nat} (hb : b.length ≤ 1048576) (hc : c.length ≤ 1048576) (hx : x.length = (sealB b).length) (hw : wt (xorL x (sealB b)) ≤ 4) (he : x.take k = sealB c) : x.take k = sealB b := by
  have hlx : 8 ≤ x.length := by rw [hx, sealB_length]; omega
  have hk : 8 ≤ (x.take k).length := by rw [he, sealB_length]; omega
  rw [List.length_take] at hk
  have l4 : ∀ n, (lenB n).length = 4 := fun n => rfl
  have h8 : ∀ n, (cellB (lenB n)).length = 8 := fun n => by rw [cellB_length, l4]
  -- the head
  have e8 : x.take 8 = cellB (lenB c.length) := by
    have h1 : (x.take k).take 8 = x.take 8 := by rw [List.take_take, Nat.min_eq_left (by omega)]
    rw [← h1, he, sealB, List.take_append_of_le_length (by rw [h8]; omega), List.take_of_length_le (by rw [h8]; omega)]
  have ex : x = cellB (lenB c.length) ++ x.drop 8 := by rw [← e8, List.take_append_drop]
  rw [ex, sealB, xorL_app _ _ _ _ (by rw [h8, h8]), wt_app] at hw
  have hn := cell_near (b := lenB b.length) (c := lenB c.length) (by rw [l4]; omega) rfl (by omega)
  have hlen : c.length = b.length := by rw [← be4_lenB hc, hn, be4_lenB hb]
  have hsl : (sealB c).length = (sealB b).length := by rw [sealB_length, sealB_length, hlen]
  have hxk : x.take k = x := by
    have : (x.take k).length = x.length := by rw [he, hsl, hx]
    rw [List.length_take] at this
    exact List.take_of_length_le (by omega)
  rw [hxk] at he ⊢
  have hd : x.drop 8 = cellsB c := by
    rw [he, sealB, List.drop_append_of_le_length (by rw [h8]; omega), List.drop_of_length_le (by rw [h8]; omega), List.nil_append]
  rw [hd] at hw
  have hcb := cells_near b.length b c (Nat.le_refl _) hlen (by omega)
  rw [he, hcb]
end Go.Proofs.Ytncchbcoldgpbaa
