/- Which records open of a beginning of some of which one byte was changed. Plain mathematics, no program in sight. -/
import Derived.Test.YtjagiahfndcbhaaAll3
namespace Go.Proofs.Ytjagiahfndcbhaa

theorem wt_one (c : List UInt8) (p : Nat) (y : UInt8) (hp : p < c.length) : wt (xorL (c.set p y) c) ≤ 4 := by
  rw [xorL_set c c p y hp]
  have h1 := wt_set (xorL c c) p (y ^^^ c[p])
  have h2 := xorL_self c
  omega
theorem set_ne {c : List UInt8} {p : Nat} {y : UInt8} (hp : p < c.length) (hy : y ≠ c[p]) : c.set p y ≠ c := fun e => by
  have h : (c.set p y)[p]'(by rw [List.length_set]; exact hp) = c[p] := by
    have := congrArg (fun l => l[p]?) e
    simp only [List.getElem?_set_self hp, List.getElem?_eq_getElem hp, Option.some.injEq] at this
    rw [List.getElem_set_self]
    exact this
  rw [List.getElem_set_self] at h
  exact hy h
theorem good_spoil {b : List UInt8} (hb : b.length ≤ 251) {p : Nat} {y : UInt8} (hp : p < (cellB b).length) (hy : y ≠ (cellB b)[p]) : goodB ((cellB b).set p y) = false := by
  have h := tells (b := b) (cur := (cellB b).set p y) hb (by rw [List.length_set]; rfl) (wt_one (cellB b) p y hp)
  rw [h]
  exact decide_eq_false (set_ne hp hy)
theorem take_set_comm (l : List UInt8) (p m : Nat) (y : UInt8) : (l.set p y).take m = (l.take m).set p y := List.take_set
theorem tkE_spoil {b post : List UInt8} {n m p : Nat} {y : UInt8} (hn : b.length = n) (hb : n ≤ 251) (hp : p < n + 4) (hm : p < m) (hy : ∀ h : p < (cellB b).length, y ≠ (cellB b)[p]) :
    tkE (((cellB b ++ post).take m).set p y) n ≠ 0 := by
  have hc := cellB_length b
  rw [tkE]
  split
  · decide
  · rename_i h
    rw [List.length_set, List.length_take] at h
    have hm4 : n + 4 ≤ m := by omega
    have e : (((cellB b ++ post).take m).set p y).take (n + 4) = (cellB b).set p y := by
      rw [take_set_comm, List.take_take, Nat.min_eq_left hm4, List.take_append_of_le_length (by omega), List.take_of_length_le (by omega)]
    rw [e, good_spoil (by omega) (by omega) (hy (by omega))]
    decide
theorem set_app_right {c t : List UInt8} {p : Nat} {y : UInt8} (h : c.length ≤ p) : (c ++ t).set p y = c ++ t.set (p - c.length) y := by
  rw [List.set_append_right _ _ h]
theorem opN_spoil : ∀ (k : Nat) (b done post : List UInt8) (m p : Nat) (y : UInt8), b.length ≤ k → p < (cellsB b).length → p < m → (∀ h : p < (cellsB b).length, y ≠ (cellsB b)[p]) →
    (opN b.length done (((cellsB b ++ post).take m).set p y)).2.2 ≠ 0
  | k, b, done, post, m, p, y, hk, hp, hm, hy => by
    rcases Nat.eq_zero_or_pos b.length with h0 | h0
    · rw [cellsB_nil h0] at hp; simp at hp
    · match k, hk with
      | 0, hk => omega
      | k + 1, hk =>
        have hl : (b.take 251).length = min 251 b.length := by rw [List.length_take]
        have hc := cellB_length (b.take 251)
        have hy' := hy hp
        rw [show (cellsB b)[p] = ((cellsB b)[p]?).getD 0 by rw [List.getElem?_eq_getElem hp]; rfl] at hy'
        rw [cellsB_step h0] at hp hy' ⊢
        by_cases h1 : p < min 251 b.length + 4
        · have ht := tkE_spoil (b := b.take 251) (post := cellsB (b.drop 251) ++ post) (n := min 251 b.length) (m := m) (p := p) (y := y) hl (by omega) h1 hm (fun h => by
            rw [List.getElem?_append_left h, List.getElem?_eq_getElem h] at hy'
            exact hy')
          rw [← List.append_assoc] at ht
          rw [opN_bad h0 ht]
          exact ht
        · have hcp : (cellB (b.take 251)).length ≤ p := by omega
          have e : ((cellB (b.take 251) ++ cellsB (b.drop 251) ++ post).take m).set p y = cellB (b.take 251) ++ ((cellsB (b.drop 251) ++ post).take (m - (cellB (b.take 251)).length)).set (p - (cellB (b.take 251)).length) y := by
            rw [List.append_assoc, List.take_append, List.take_of_length_le (by omega), set_app_right hcp]
          rw [e, opN_ok h0 (tkE_cell _ _ hl), show min 251 b.length + 4 = (cellB (b.take 251)).length by omega, List.drop_left,
            show b.length - min 251 b.length = (b.drop 251).length by rw [List.length_drop]; omega]
          rw [List.length_append] at hp
          refine opN_spoil k (b.drop 251) _ post _ _ y (by rw [List.length_drop]; omega) (by omega) (by omega) fun h => ?_
          rw [List.getElem?_append_right hcp, List.getElem?_eq_getElem h] at hy'
          exact hy'
theorem openR_spoil {b post : List UInt8} (hb : b.length ≤ 1048576) {m p : Nat} {y : UInt8} (hp : p < (sealB b).length) (hm : p < m) (hy : ∀ h : p < (sealB b).length, y ≠ (sealB b)[p]) :
    ∃ x r e, openR (((sealB b ++ post).take m).set p y) = (x, r, e) ∧ e ≠ 0 := by
  have hl : (lenB b.length).length = 4 := rfl
  have hc := cellB_length (lenB b.length)
  have hy' := hy hp
  rw [show (sealB b)[p] = ((sealB b)[p]?).getD 0 by rw [List.getElem?_eq_getElem hp]; rfl] at hy'
  rw [sealB] at hp hy' ⊢
  by_cases h1 : p < 8
  · have ht := tkE_spoil (b := lenB b.length) (post := cellsB b ++ post) (n := 4) (m := m) (p := p) (y := y) hl (by omega) h1 hm (fun h => by
      rw [List.getElem?_append_left h, List.getElem?_eq_getElem h] at hy'
      exact hy')
    rw [← List.append_assoc] at ht
    exact ⟨_, _, _, openR_bad ht, ht⟩
  · have hcp : (cellB (lenB b.length)).length ≤ p := by omega
    have e : ((cellB (lenB b.length) ++ cellsB b ++ post).take m).set p y = cellB (lenB b.length) ++ ((cellsB b ++ post).take (m - (cellB (lenB b.length)).length)).set (p - (cellB (lenB b.length)).length) y := by
      rw [List.append_assoc, List.take_append, List.take_of_length_le (by omega), set_app_right hcp]
    have h4 : (cellB (lenB b.length) ++ ((cellsB b ++ post).take (m - (cellB (lenB b.length)).length)).set (p - (cellB (lenB b.length)).length) y).take 4 = lenB b.length := by
      rw [cellB, List.append_assoc, ← hl, List.take_left]
    have h8 : (cellB (lenB b.length) ++ ((cellsB b ++ post).take (m - (cellB (lenB b.length)).length)).set (p - (cellB (lenB b.length)).length) y).drop 8 = ((cellsB b ++ post).take (m - (cellB (lenB b.length)).length)).set (p - (cellB (lenB b.length)).length) y := by
      rw [show 8 = (cellB (lenB b.length)).length by omega, List.drop_left]
    rw [List.length_append] at hp
    have hbad := opN_spoil b.length b [] post (m - (cellB (lenB b.length)).length) (p - (cellB (lenB b.length)).length) y (Nat.le_refl _) (by omega) (by omega) fun h => by
      rw [List.getElem?_append_right hcp, List.getElem?_eq_getElem h] at hy'
      exact hy'
    have hbe := be4_lenB hb
    rw [e, openR_ok (tkE_cell _ _ hl) (by rw [h4, hbe]; omega), h4, hbe, h8]
    exact ⟨_, _, _, rfl, hbad⟩
/-- what opens of the first m bytes, of which the one at p was changed -/
theorem allN_spoil : ∀ (ll : List (List UInt8)) (done : List (List UInt8)) (m p : Nat) (y : UInt8), (∀ l ∈ ll, l.length ≤ 1048576) → p < m → p < (sealsB ll).length → (∀ h : p < (sealsB ll).length, y ≠ (sealsB ll)[p]) →
    ∃ j r, j < ll.length ∧ allN done (((sealsB ll).take m).set p y) = (done ++ ll.take j, r) ∧ (sealsB (ll.take j)).length ≤ p ∧ p < (sealsB (ll.take (j + 1))).length
  | [], done, m, p, y, _, _, hp, _ => by simp [sealsB] at hp
  | l :: ll, done, m, p, y, hl, hm, hp, hy => by
    have hl0 := hl l (by simp)
    have hy' := hy hp
    rw [show (sealsB (l :: ll))[p] = ((sealsB (l :: ll))[p]?).getD 0 by rw [List.getElem?_eq_getElem hp]; rfl] at hy'
    rw [sealsB_cons] at hp hy' ⊢
    by_cases h1 : p < (sealB l).length
    · obtain ⟨x, r, e, ho, he⟩ := openR_spoil (post := sealsB ll) hl0 h1 hm fun h => by
        rw [List.getElem?_append_left h, List.getElem?_eq_getElem h] at hy'
        exact hy'
      exact ⟨0, _, by simp, by rw [allN_bad ho he]; simp; rfl, by simp [sealsB], by simp [sealsB]; exact h1⟩
    · have hcp : (sealB l).length ≤ p := by omega
      have e : ((sealB l ++ sealsB ll).take m).set p y = sealB l ++ ((sealsB ll).take (m - (sealB l).length)).set (p - (sealB l).length) y := by
        rw [List.take_append, List.take_of_length_le (by omega), set_app_right hcp]
      rw [List.length_append] at hp
      obtain ⟨j, r, h2, h3, h4, h5⟩ := allN_spoil ll (done ++ [l]) (m - (sealB l).length) (p - (sealB l).length) y (fun x hx => hl x (by simp [hx])) (by omega) (by omega) (fun h => by
        rw [List.getElem?_append_right hcp, List.getElem?_eq_getElem h] at hy'
        exact hy')
      refine ⟨j + 1, r, by simp; omega, by rw [e, allN_ok (openR_sealB hl0 _), h3]; simp, ?_, ?_⟩
      · rw [List.take_succ_cons, sealsB_cons, List.length_append]; omega
      · rw [List.take_succ_cons, sealsB_cons, List.length_append]; omega
end Go.Proofs.Ytjagiahfndcbhaa
