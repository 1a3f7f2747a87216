/- What GroyneSealed says of its records. Plain theorems, no walk. -/
import Derived.Test.YtjagiahfndcbhaaSpl
import Derived.Test.YtjagiahfndcbhaaPkSplit
import Derived.Test.YtjagiahfndcbhaaInts
import Derived.Test.YtjagiahfndcbhaaDrvB
namespace Go.Proofs.Ytjagiahfndcbhaa
open Go.RowKit

def shortL (ll : List (List UInt8)) : List (List UInt8) := (ll.take 8).map (·.take 400)
theorem shortL_len (ll : List (List UInt8)) : (shortL ll).length ≤ 8 := by simp [shortL]; omega
theorem shortL_400 (ll : List (List UInt8)) : ∀ l ∈ shortL ll, l.length ≤ 400 := by
  intro l hl
  obtain ⟨x, _, rfl⟩ := List.mem_map.1 hl
  rw [List.length_take]; omega
/-- a record and its number, as one text -/
def recB (x : List UInt8) (i : Nat) : List UInt8 := joinB [x, [UInt8.ofNat i]]
def recsB (rl : List (List UInt8)) : List (List UInt8) := rl.mapIdx fun i x => recB x i
theorem recsB_length (rl : List (List UInt8)) : (recsB rl).length = rl.length := by simp [recsB]
theorem recsB_get (rl : List (List UInt8)) (i : Nat) (h : i < rl.length) : (recsB rl)[i]'(by rw [recsB_length]; exact h) = recB rl[i] i := by simp [recsB]
theorem recB_len (x : List UInt8) (i : Nat) (h : x.length ≤ 400) : (recB x i).length ≤ 440 := by
  have h1 := numB_length 2
  have h2 := numB_length x.length
  have h3 := numB_length 1
  have e : recB x i = numB 2 ++ (numB x.length ++ x ++ (numB 1 ++ [UInt8.ofNat i] ++ [])) := rfl
  rw [e]
  simp only [List.length_append, List.length_cons, List.length_nil]
  omega
theorem recB_split (x : List UInt8) (i : Nat) (h : x.length ≤ 400) : splitB (recB x i) = ([x, [UInt8.ofNat i]], 0) := by
  refine splitB_join _ ⟨by simp, fun l hl => ?_⟩
  simp only [List.mem_cons, List.not_mem_nil, or_false] at hl
  rcases hl with rfl | rfl
  · omega
  · simp
theorem recsB_small (rl : List (List UInt8)) (h : ∀ l ∈ rl, l.length ≤ 400) : ∀ l ∈ recsB rl, l.length ≤ 440 := by
  intro l hl
  obtain ⟨i, hi, rfl⟩ := List.getElem_of_mem hl
  rw [recsB_length] at hi
  rw [recsB_get rl i hi]
  exact recB_len _ _ (h _ (List.getElem_mem _))
theorem seals_440 : ∀ (ll : List (List UInt8)), (∀ l ∈ ll, l.length ≤ 440) → (sealsB ll).length ≤ 500 * ll.length
  | [], _ => by simp [sealsB]
  | a :: ll, h => by
    have h1 := h a (by simp)
    have h2 := seals_440 ll fun l hl => h l (by simp [hl])
    rw [sealsB_cons, List.length_append, sealB_length, List.length_cons]; omega
/-- where the records end -/
def endsC (C : List (List UInt8)) (k : Nat) : List Int := (List.range k).map fun i => ((sealsB (C.take (i + 1))).length : Int)
theorem endsC_succ (C : List (List UInt8)) (k : Nat) : endsC C (k + 1) = endsC C k ++ [((sealsB (C.take (k + 1))).length : Int)] := by
  rw [endsC, List.range_succ, List.map_append]; rfl
theorem endsC_len (C : List (List UInt8)) (k : Nat) : (endsC C k).length = k := by simp [endsC]
theorem endsC_get (C : List (List UInt8)) (k i : Nat) (h : i < (endsC C k).length) : (endsC C k)[i] = ((sealsB (C.take (i + 1))).length : Int) := by simp [endsC]
/-- just those records end at p or ahead of it -/
theorem ends_iff {C : List (List UInt8)} {j p i : Nat} (h1 : (sealsB (C.take j)).length ≤ p) (h2 : j < C.length → p < (sealsB (C.take (j + 1))).length) (hj : j ≤ C.length) (hi : i < C.length) :
    (sealsB (C.take (i + 1))).length ≤ p ↔ i < j := by
  constructor
  · intro h
    by_cases hij : i < j
    · exact hij
    · have h3 := h2 (by omega)
      have h4 := sealsB_mono C (i := j + 1) (j := i + 1) (by omega)
      omega
  · intro h
    have h4 := sealsB_mono C (i := i + 1) (j := j) (by omega)
    omega
/-- what is left of a file behind a crash -/
theorem kept_take (a q : List UInt8) (m : Nat) : a ++ q.take m = (a ++ q).take (a.length + m) := by rw [List.take_length_add_append]
theorem take_min (l : List UInt8) (m : Nat) : l.take m = l.take (min m l.length) := by
  by_cases h : m ≤ l.length
  · rw [Nat.min_eq_left h]
  · rw [Nat.min_eq_right (by omega), List.take_of_length_le (by omega), List.take_of_length_le (Nat.le_refl _)]
theorem xor_ne {a y : UInt8} (h : y ≠ 0) : a ^^^ y ≠ a := fun e => h (by
  have h2 : a ^^^ (a ^^^ y) = a ^^^ a := by rw [e]
  rw [xor_self3, UInt8.xor_self] at h2
  exact h2)
/-- of what is read: how many records open, and where the first that does not was changed (or the end) -/
theorem opens {C : List (List UInt8)} {M S : Nat} {l' : List UInt8} (hC : ∀ l ∈ C, l.length ≤ 1048576) (hM : M ≤ (sealsB C).length) (hS : S ≤ C.length) (hSM : (sealsB (C.take S)).length ≤ M)
    (p : Nat) (hp : (l' = (sealsB C).take M ∧ p = M) ∨ (p < M ∧ ∃ y, (∀ h : p < (sealsB C).length, y ≠ (sealsB C)[p]) ∧ l' = ((sealsB C).take M).set p y)) :
    ∃ j, j ≤ C.length ∧ (allN [] l').1 = C.take j ∧ (sealsB (C.take j)).length ≤ p ∧ (j < C.length → p < (sealsB (C.take (j + 1))).length) ∧ (p = M → S ≤ j) := by
  rcases hp with ⟨rfl, rfl⟩ | ⟨hpM, y, hy, rfl⟩
  · obtain ⟨j, r, h1, h2, h3, h4, _, _⟩ := allN_take C [] p hC hM
    refine ⟨j, h1, by rw [h2, List.nil_append], by omega, h4, fun _ => ?_⟩
    by_cases hj : S ≤ j
    · exact hj
    · have h5 := h4 (by omega)
      have h6 := sealsB_mono C (i := j + 1) (j := S) (by omega)
      omega
  · obtain ⟨j, r, h1, h2, h3, h4⟩ := allN_spoil C [] M p y hC hpM (by omega) hy
    exact ⟨j, by omega, by rw [h2, List.nil_append], h3, fun _ => h4, fun e => by omega⟩
theorem opens2 {C : List (List UInt8)} {M S p : Nat} {T0 l' : List UInt8} (hC : ∀ l ∈ C, l.length ≤ 1048576) (hM : M ≤ (sealsB C).length) (hS : S ≤ C.length) (hSM : (sealsB (C.take S)).length ≤ M) (hT : T0 = (sealsB C).take M)
    (hp : (l' = T0 ∧ p = M) ∨ (p < M ∧ ∃ y, (∀ h : p < T0.length, y ≠ T0[p]) ∧ l' = T0.set p y)) :
    ∃ j, j ≤ C.length ∧ (allN [] l').1 = C.take j ∧ (sealsB (C.take j)).length ≤ p ∧ (j < C.length → p < (sealsB (C.take (j + 1))).length) ∧ (p = M → S ≤ j) ∧ p ≤ M := by
  subst hT
  have h2 : p ≤ M := by rcases hp with ⟨_, h⟩ | ⟨h, _⟩ <;> omega
  obtain ⟨j, h3, h4, h5, h6, h7⟩ := opens (l' := l') hC hM hS hSM p (by
    rcases hp with h | ⟨h, y, hy, e⟩
    · exact .inl h
    · refine .inr ⟨h, y, fun h8 => ?_, e⟩
      have := hy (by rw [List.length_take]; omega)
      rw [List.getElem_take] at this
      exact this)
  exact ⟨j, h3, h4, h5, h6, h7, h2⟩
theorem and255 (z : Int) : ∃ n : Nat, n ≤ 255 ∧ bits .and .i64 z 255 = (n : Int) := by
  have h : (BitVec.ofInt 64 z &&& BitVec.ofInt 64 255).toNat ≤ 255 := by
    rw [BitVec.toNat_and]
    exact Nat.le_trans Nat.and_le_right (by decide)
  refine ⟨(BitVec.ofInt 64 z &&& BitVec.ofInt 64 255).toNat, h, ?_⟩
  show IntKind.i64.wrap ((BitVec.ofInt 64 z &&& BitVec.ofInt 64 255).toNat : Int) = _
  exact IntWalk.i64_in _ (by omega)
theorem RdBB.pair {w : World} {F : Nat → Prop} {v u : Value} {l m : List UInt8} (h : RdB w F v l) (h' : RdB w F u m) (t : TypeId) :
    RdBB (w.alloc (.cells #[v, u] t)) (fun k => F k ∨ k = w.heap.size) (.slice (some ⟨w.heap.size, 0, Option.none⟩) 2 2) [l, m] := by
  refine ⟨[v, u], rfl, ⟨rfl, some ⟨w.heap.size, 0, Option.none⟩, 2, rfl, Nat.le_refl _, by simp [maxLen], fun _ => ⟨_, rfl, .inr rfl, fun j x hu => ?_⟩⟩, fun k x l' hx hl => ?_⟩
  · rw [add_none, Nat.zero_add, (Blk.new w t #[v, u]).cell]
    simpa using hu
  · match k, hx, hl with
    | 0, hx, hl =>
      simp at hx hl
      subst hx; subst hl
      exact (h.al _).mono fun k hk => .inl hk
    | 1, hx, hl =>
      simp at hx hl
      subst hx; subst hl
      exact (h'.al _).mono fun k hk => .inl hk
    | k + 2, hx, hl => simp at hx
end Go.Proofs.Ytjagiahfndcbhaa
