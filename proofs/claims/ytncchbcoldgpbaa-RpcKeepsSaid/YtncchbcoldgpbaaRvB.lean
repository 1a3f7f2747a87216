/- parity: what opens is a seal; and what Read answers, in plain Lean. -/
import Derived.Test.YtncchbcoldgpbaaRkM
import Derived.Test.YtncchbcoldgpbaaOpen3
namespace Go.Proofs.Ytncchbcoldgpbaa
open Go.RowKit
set_option linter.unusedVariables false
set_option linter.unusedSimpArgs false

theorem tkE_inv {r : List UInt8} {n : Nat} (h : tkE r n = 0) : r = cellB (r.take n) ++ r.drop (n + 4) := by
  have hl := tkE_len h
  rw [tkE, if_neg (by omega)] at h
  by_cases hg : goodB (r.take (n + 4)) = true
  · unfold goodB at hg
    rw [Bool.and_eq_true, decide_eq_true_iff, decide_eq_true_iff] at hg
    have h4 : (r.take (n + 4)).length = n + 4 := by rw [List.length_take]; omega
    rw [h4, Nat.add_sub_cancel, List.take_take, Nat.min_eq_left (by omega)] at hg
    have h5 : r.take (n + 4) = r.take n ++ (r.take (n + 4)).drop n := by
      conv => lhs; rw [← List.take_append_drop n (r.take (n + 4))]
      rw [List.take_take, Nat.min_eq_left (by omega)]
    rw [cellB, hg.2, ← h5, List.take_append_drop]
  · rw [if_neg hg] at h
    exact absurd h (by decide)
theorem u8_of {a : UInt8} {n : Nat} (h : n % 256 = a.toNat) : UInt8.ofNat n = a := by
  apply UInt8.toNat_inj.1
  rw [UInt8.toNat_ofNat']
  exact h
theorem lenB_be4 {l : List UInt8} (h : l.length = 4) (hb : be4 l ≤ 1048576) : lenB (be4 l) = l := by
  match l, h with
  | [a, b, c, d], _ =>
    have h1 := a.toNat_lt; have h2 := b.toNat_lt; have h3 := c.toNat_lt; have h4 := d.toNat_lt
    simp only [be4, List.foldl_cons, List.foldl_nil] at hb ⊢
    unfold lenB
    rw [u8_of (a := a) (by omega), u8_of (a := b) (by omega), u8_of (a := c) (by omega), u8_of (a := d) (by omega)]
theorem opN_inv : ∀ (k n : Nat) (done r x y : List UInt8), n ≤ k → opN n done r = (x, y, 0) → ∃ b, x = done ++ b ∧ b.length = n ∧ r = cellsB b ++ y
  | k, 0, done, r, x, y, _, h => by
    rw [opN_zero] at h
    injection h with h1 h2
    injection h2 with h2 _
    exact ⟨[], by rw [List.append_nil, h1], rfl, by rw [cellsB_nil rfl, List.nil_append, h2]⟩
  | 0, n + 1, done, r, x, y, hk, _ => by omega
  | k + 1, n + 1, done, r, x, y, hk, h => by
    by_cases ht : tkE r (min 251 (n + 1)) = 0
    · have hlen := tkE_len ht
      have hin := tkE_inv ht
      rw [opN_ok (by omega) ht] at h
      obtain ⟨m, hm⟩ : ∃ m, m = min 251 (n + 1) := ⟨_, rfl⟩
      rw [← hm] at h hlen hin
      obtain ⟨b, hx, hb, hr⟩ := opN_inv k (n + 1 - m) _ _ x y (by omega) h
      have htl : (r.take m).length = m := by rw [List.length_take]; omega
      refine ⟨r.take m ++ b, by rw [hx, List.append_assoc], by rw [List.length_append, htl]; omega, ?_⟩
      have hpos : 0 < (r.take m ++ b).length := by rw [List.length_append]; omega
      have h1 : (r.take m ++ b).take 251 = r.take m := by
        rw [List.take_append, htl]
        by_cases h2 : 251 ≤ n + 1
        · have : m = 251 := by omega
          subst this
          rw [Nat.sub_self, List.take_zero, List.append_nil, List.take_take, Nat.min_self]
        · have hb0 : b = [] := List.eq_nil_of_length_eq_zero (by omega)
          subst hb0
          rw [List.take_nil, List.append_nil, List.take_of_length_le (by omega)]
      have h2 : (r.take m ++ b).drop 251 = b := by
        have := List.take_append_drop 251 (r.take m ++ b)
        rw [h1] at this
        exact List.append_cancel_left this
      rw [cellsB_step hpos, h1, h2, List.append_assoc, ← hr]
      exact hin
    · rw [opN_bad (by omega) ht] at h
      injection h with _ h
      injection h with _ h
      exact absurd h ht
/-- what opens is a seal, and what is behind it -/
theorem openR_inv {r x y : List UInt8} (h : openR r = (x, y, 0)) : x.length ≤ 1048576 ∧ r = sealB x ++ y := by
  by_cases ht : tkE r 4 = 0
  · by_cases hn : 1048576 < be4 (r.take 4)
    · rw [openR_size ht hn] at h
      injection h with _ h
      injection h with _ h
      exact absurd h (by decide)
    · rw [openR_ok ht hn] at h
      obtain ⟨b, hx, hb, hr⟩ := opN_inv _ _ _ _ _ _ (Nat.le_refl _) h
      rw [List.nil_append] at hx
      subst hx
      have hlen := tkE_len ht
      refine ⟨by omega, ?_⟩
      rw [sealB, hb, lenB_be4 (by rw [List.length_take]; omega) (by omega), List.append_assoc, ← hr]
      exact tkE_inv ht
  · rw [openR_bad ht] at h
    injection h with _ h
    injection h with _ h
    exact absurd h ht

/-- these bytes are no packet's -/
def NoPkt (b : List UInt8) : Prop := ∀ v : PktT, DPkt v → (EPkt v).length ≤ 1048576 → b ≠ sealB (EPkt v)
theorem seal_open {l : List UInt8} (h : l.length ≤ 1048576) : openR (sealB l) = (l, [], 0) := by
  have := openR_sealB h []
  rw [List.append_nil] at this
  exact this
section
variable {b l x y : List UInt8} {a : Nat} {e er : Int} {v : PktT}
theorem read_bad (h : openR b = (x, y, er)) (he : er ≠ 0) : NoPkt b := by
  intro v hd hl e
  rw [e, seal_open hl] at h
  injection h with _ h
  injection h with _ h
  exact he h.symm
theorem read_more (h : openR b = (x, y, 0)) (hy : 0 < y.length) : NoPkt b := by
  intro v hd hl e
  rw [e, seal_open hl] at h
  injection h with _ h
  injection h with h _
  rw [← h] at hy
  exact absurd hy (by simp)
theorem open_is (h : openR b = (l, [], 0)) (hl : (EPkt v).length ≤ 1048576) (e : b = sealB (EPkt v)) : l = EPkt v := by
  rw [e, seal_open hl] at h
  injection h with h _
  exact h.symm
theorem read_fell (h : openR b = (l, [], 0)) (hf : Fell DPkt EPkt l 0 0) : NoPkt b := fun v hd hl e =>
  hf rfl v [] hd (by rw [List.append_nil]; exact open_is h hl e)
theorem read_close (h : openR b = (l, [], 0)) (ht : Took DPkt EPkt l 0 0 v a e) (hc : closeR l a e ≠ 0) : NoPkt b := by
  intro v0 hd hl e0
  obtain ⟨h1, h2, h3⟩ := ht.det rfl v0 [] hd (by rw [List.append_nil]; exact open_is h hl e0)
  refine hc ?_
  have h4 := congrArg List.length h3
  rw [List.length_drop, List.length_nil] at h4
  rw [closeR, if_neg (by omega), h1]
theorem read_ok (h : openR b = (l, [], 0)) (ht : Took DPkt EPkt l 0 0 v a e) (hc : closeR l a e = 0) : DPkt v ∧ b = sealB (EPkt v) ∧ (EPkt v).length ≤ 1048576 := by
  have he : e = 0 ∧ ¬ 0 < l.length - a := by
    rw [closeR] at hc
    by_cases hx : e = 0 ∧ 0 < l.length - a
    · rw [if_pos hx] at hc; exact absurd hc (by decide)
    · rw [if_neg hx] at hc; exact ⟨hc, fun h => hx ⟨hc, h⟩⟩
  obtain ⟨_, h1, h2⟩ := ht.ok he.1
  obtain ⟨h3, h4⟩ := openR_inv h
  have hl : l = EPkt v := by
    have h5 : l.drop a = [] := List.drop_of_length_le (by omega)
    rw [h5, List.append_nil] at h2
    exact h2
  rw [List.append_nil] at h4
  exact ⟨h1, by rw [← hl]; exact h4, by rw [← hl]; exact h3⟩
end
end Go.Proofs.Ytncchbcoldgpbaa
