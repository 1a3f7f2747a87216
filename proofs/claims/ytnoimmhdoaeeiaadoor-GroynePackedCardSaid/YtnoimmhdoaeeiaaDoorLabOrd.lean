/- The order of label.Compare, as a list of keys; lists sorted by it and made single. Plain theorems, no walk. -/
import Derived.Sort.Statements
import Derived.Lib.Bytealg
import Derived.Lib.SlicesCompact
import Std
namespace Go.Proofs.YtnoimmhdoaeeiaaDoor
open Std

def ordI : Ordering → Int
  | .lt => -1
  | .eq => 0
  | .gt => 1
def isD (b : UInt8) : Bool := decide (48 ≤ b) && decide (b ≤ 57)
def trim0 (l : List UInt8) : List UInt8 := l.dropWhile (· == 48)
def nums (l : List UInt8) : List Nat := l.map UInt8.toNat
/-- the key of a piece -/
def pkey : List UInt8 → List Nat
  | [] => []
  | c :: r => if isD c then 48 :: (trim0 (c :: r)).length :: nums (trim0 (c :: r)) else [c.toNat]
/-- how long the first piece is -/
def pieceN (l : List UInt8) : Nat := max (l.takeWhile isD).length 1
def keysF : Nat → List UInt8 → List (List Nat)
  | 0, _ => []
  | _ + 1, [] => []
  | n + 1, c :: r => pkey ((c :: r).take (pieceN (c :: r))) :: keysF n ((c :: r).drop (pieceN (c :: r)))
def keysL (l : List UInt8) : List (List Nat) := keysF l.length l
theorem pieceN_pos (l : List UInt8) : 1 ≤ pieceN l := Nat.le_max_right _ _
theorem keysF_big : ∀ (n m : Nat) (l : List UInt8), l.length ≤ n → l.length ≤ m → keysF n l = keysF m l
  | 0, 0, _, _, _ => rfl
  | 0, m + 1, [], _, _ => rfl
  | n + 1, 0, [], _, _ => rfl
  | n + 1, m + 1, [], _, _ => rfl
  | 0, m + 1, c :: r, h, _ => by simp at h
  | n + 1, 0, c :: r, _, h => by simp at h
  | n + 1, m + 1, c :: r, h, h' => by
    have hp := pieceN_pos (c :: r)
    have hl : ((c :: r).drop (pieceN (c :: r))).length = r.length + 1 - pieceN (c :: r) := by rw [List.length_drop, List.length_cons]
    rw [keysF, keysF, keysF_big n m _ (by rw [hl]; simp at h; omega) (by rw [hl]; simp at h'; omega)]
theorem keysL_nil : keysL [] = [] := rfl
theorem keysL_cons (c : UInt8) (r : List UInt8) : keysL (c :: r) = pkey ((c :: r).take (pieceN (c :: r))) :: keysL ((c :: r).drop (pieceN (c :: r))) := by
  have hp := pieceN_pos (c :: r)
  rw [keysL, List.length_cons, keysF, keysL]
  congr 1
  exact keysF_big _ _ _ (by rw [List.length_drop, List.length_cons]; omega) (Nat.le_refl _)
def ordL (a b : List UInt8) : Ordering := compareLex (compareOn keysL) (compareOn nums) a b
def cmpL (a b : List UInt8) : Int := ordI (ordL a b)
instance : TransCmp ordL := inferInstanceAs (TransCmp (compareLex (compareOn keysL) (compareOn nums)))

theorem ordL_def (a b : List UInt8) : ordL a b = (compare (keysL a) (keysL b)).then (compare (nums a) (nums b)) := rfl
theorem compare_cons {α : Type} [Ord α] (x y : α) (xs ys : List α) : compare (x :: xs) (y :: ys) = (compare x y).then (compare xs ys) := by
  rw [List.compare_eq_compareLex, List.compareLex_cons_cons]
theorem ordL_step (c d : UInt8) (r q : List UInt8) :
    compare (keysL (c :: r)) (keysL (d :: q)) = (compare (pkey ((c :: r).take (pieceN (c :: r)))) (pkey ((d :: q).take (pieceN (d :: q))))).then (compare (keysL ((c :: r).drop (pieceN (c :: r)))) (keysL ((d :: q).drop (pieceN (d :: q))))) := by
  rw [keysL_cons, keysL_cons, compare_cons]
theorem keys_end1 (c : UInt8) (r : List UInt8) : compare (keysL []) (keysL (c :: r)) = .lt := by
  rw [keysL_nil, keysL_cons, List.compare_eq_compareLex]; rfl
theorem keys_end2 (c : UInt8) (r : List UInt8) : compare (keysL (c :: r)) (keysL []) = .gt := by
  rw [keysL_nil, keysL_cons, List.compare_eq_compareLex]; rfl
theorem keys_end0 : compare (keysL []) (keysL []) = .eq := by decide
theorem compareBytes_ord : ∀ a b : List UInt8, Lib.compareBytes a b = ordI (compare (nums a) (nums b))
  | [], [] => by decide
  | [], b :: bs => by
    show _ = ordI (compare [] (b.toNat :: nums bs))
    rw [List.compare_eq_compareLex]; rfl
  | a :: as, [] => by
    show _ = ordI (compare (a.toNat :: nums as) [])
    rw [List.compare_eq_compareLex]; rfl
  | a :: as, b :: bs => by
    show _ = ordI (compare (a.toNat :: nums as) (b.toNat :: nums bs))
    rw [compare_cons, Lib.compareBytes, Nat.compare_eq_ite_lt]
    have h1 : (a < b) ↔ a.toNat < b.toNat := Iff.rfl
    have h2 : (b < a) ↔ b.toNat < a.toNat := Iff.rfl
    by_cases h : a.toNat < b.toNat
    · rw [if_pos (h1.2 h), if_pos h]; rfl
    · rw [if_neg (fun x => h (h1.1 x)), if_neg h]
      by_cases h' : b.toNat < a.toNat
      · rw [if_pos (h2.2 h'), if_pos h']; rfl
      · rw [if_neg (fun x => h' (h2.1 x)), if_neg h', compareBytes_ord as bs]; rfl
theorem ordI_then (a b : Ordering) : ordI (a.then b) = if ordI a ≠ 0 then ordI a else ordI b := by cases a <;> rfl
theorem ordI_zero (a : Ordering) : ordI a = 0 ↔ a = .eq := by cases a <;> decide
theorem ordI_lt (a : Ordering) : ordI a < 0 ↔ a = .lt := by cases a <;> decide
/-- how the program compares two pieces -/
def pcmp (p q : List UInt8) : Int :=
  match p, q with
  | c :: r, d :: s => if isD c = false ∨ isD d = false then ordI (compare c.toNat d.toNat) else
      ordI ((compare (trim0 (c :: r)).length (trim0 (d :: s)).length).then (compare (nums (trim0 (c :: r))) (nums (trim0 (d :: s)))))
  | _, _ => 0
theorem isD_range (c : UInt8) : isD c = true ↔ 48 ≤ c.toNat ∧ c.toNat ≤ 57 := by
  unfold isD
  rw [Bool.and_eq_true, decide_eq_true_eq, decide_eq_true_eq]
  exact Iff.rfl
theorem pcmp_cons (c d : UInt8) (r s : List UInt8) : pcmp (c :: r) (d :: s) = if isD c = false ∨ isD d = false then ordI (compare c.toNat d.toNat) else
      ordI ((compare (trim0 (c :: r)).length (trim0 (d :: s)).length).then (compare (nums (trim0 (c :: r))) (nums (trim0 (d :: s))))) := rfl
theorem pkey_cons (c : UInt8) (r : List UInt8) : pkey (c :: r) = if isD c = true then 48 :: (trim0 (c :: r)).length :: nums (trim0 (c :: r)) else [c.toNat] := rfl
theorem pcmp_key (c d : UInt8) (r s : List UInt8) : pcmp (c :: r) (d :: s) = ordI (compare (pkey (c :: r)) (pkey (d :: s))) := by
  rw [pcmp_cons, pkey_cons, pkey_cons]
  cases hc : isD c <;> cases hd : isD d
  · rw [if_pos (.inl rfl), if_neg (by decide), if_neg (by decide), compare_cons]
    cases compare c.toNat d.toNat <;> rfl
  · rw [if_pos (.inl rfl), if_neg (by decide), if_pos rfl, compare_cons]
    have h1 := (isD_range d).1 hd
    have h2 : ¬ (48 ≤ c.toNat ∧ c.toNat ≤ 57) := fun h => by rw [(isD_range c).2 h] at hc; cases hc
    rw [Nat.compare_eq_ite_lt, Nat.compare_eq_ite_lt]
    by_cases h : c.toNat < 48
    · rw [if_pos (by omega), if_pos h]; rfl
    · rw [if_neg (by omega), if_pos (by omega), if_neg h, if_pos (by omega)]; rfl
  · rw [if_pos (.inr rfl), if_pos rfl, if_neg (by decide), compare_cons]
    have h1 := (isD_range c).1 hc
    have h2 : ¬ (48 ≤ d.toNat ∧ d.toNat ≤ 57) := fun h => by rw [(isD_range d).2 h] at hd; cases hd
    rw [Nat.compare_eq_ite_lt, Nat.compare_eq_ite_lt]
    by_cases h : d.toNat < 48
    · rw [if_neg (by omega), if_pos (by omega), if_neg (by omega), if_pos h]; rfl
    · rw [if_pos (by omega), if_pos (by omega)]; rfl
  · rw [if_neg (by simp), if_pos rfl, if_pos rfl, compare_cons, compare_cons]
    have e : compare 48 48 = Ordering.eq := by decide
    rw [e]; rfl

/-- texts by their order -/
def cmpS (a b : List UInt8) : Int := cmpL a b
theorem ltOf_S (a b : List UInt8) : decide (cmpS a b < 0) = true ↔ ordL a b = .lt := by
  rw [decide_eq_true_eq, cmpS, cmpL, ordI_lt]
theorem nums_inj : ∀ a b : List UInt8, nums a = nums b → a = b
  | [], [], _ => rfl
  | [], b :: bs, h => by simp [nums] at h
  | a :: as, [], h => by simp [nums] at h
  | a :: as, b :: bs, h => by
    simp only [nums, List.map_cons, List.cons.injEq] at h
    have h1 : a = b := by
      have := h.1
      exact UInt8.toNat_inj.1 this
    rw [h1, nums_inj as bs h.2]
theorem ordL_eq {a b : List UInt8} (h : ordL a b = .eq) : a = b := by
  rw [ordL_def] at h
  have h2 : compare (nums a) (nums b) = .eq := by
    cases hk : compare (keysL a) (keysL b) <;> rw [hk] at h <;> first | exact h | cases h
  exact nums_inj a b (compare_eq_iff_eq.1 h2)
theorem ordL_refl (a : List UInt8) : ordL a a = .eq := ReflCmp.compare_self
theorem nlt_le {a b : List UInt8} (h : ordL a b ≠ .lt) : (ordL b a).isLE = true := by
  have e : ordL b a = (ordL a b).swap := OrientedCmp.eq_swap
  rw [e]
  cases hx : ordL a b
  · exact absurd hx h
  · rfl
  · rfl
def ltS (x y : (List UInt8)) : Bool := decide (cmpS x y < 0)
theorem swoS : Sort.SWO ltS where
  irrefl x := by
    unfold ltS
    rw [Bool.eq_false_iff]
    intro h
    rw [ltOf_S, ordL_refl] at h
    cases h
  trans x y z h1 h2 := by
    unfold ltS at *
    rw [ltOf_S] at *
    exact TransCmp.lt_trans h1 h2
  ntrans x y z h1 h2 := by
    unfold ltS at *
    rw [Bool.eq_false_iff] at *
    intro h
    rw [ltOf_S] at h
    have a := nlt_le (fun e => h1 (by rw [ltOf_S]; exact e))
    have b := nlt_le (fun e => h2 (by rw [ltOf_S]; exact e))
    have c := TransCmp.isLE_trans b a
    have e : ordL z x = (ordL x z).swap := OrientedCmp.eq_swap
    rw [e, h] at c
    cases c
theorem totS (x y : (List UInt8)) (h1 : ltS x y = false) (h2 : ltS y x = false) : x = y := by
  unfold ltS at *
  rw [Bool.eq_false_iff] at *
  have e : ordL x y = .eq := by
    cases hx : ordL x y
    · exact absurd ((ltOf_S x y).2 hx) h1
    · rfl
    · refine absurd ((ltOf_S y x).2 ?_) h2
      have e : ordL y x = (ordL x y).swap := OrientedCmp.eq_swap
      rw [e, hx]; rfl
  exact ordL_eq e
def leS (x y : (List UInt8)) : Bool := !ltS y x
theorem leS_trans (x y z : (List UInt8)) (h1 : leS x y = true) (h2 : leS y z = true) : leS x z = true := by
  unfold leS at *
  rw [Bool.not_eq_true'] at *
  exact swoS.ntrans z y x h2 h1
theorem ltS_asymm (x y : (List UInt8)) (h : ltS x y = true) : ltS y x = false := by
  cases h' : ltS y x
  · rfl
  · have := swoS.trans x y x h h'
    rw [swoS.irrefl] at this
    cases this
theorem leS_total (x y : (List UInt8)) : (leS x y || leS y x) = true := by
  unfold leS
  cases h : ltS y x
  · rfl
  · rw [ltS_asymm y x h]; rfl
theorem leS_antisymm {x y : (List UInt8)} (h1 : leS x y = true) (h2 : leS y x = true) : x = y := by
  unfold leS at *
  rw [Bool.not_eq_true'] at *
  exact totS x y h2 h1
theorem ms_sorted (l : List (List UInt8)) : (l.mergeSort leS).Pairwise fun x y => leS x y = true := List.pairwise_mergeSort leS_trans leS_total l
/-- adjacent equals once -/
def dd : List (List UInt8) → List (List UInt8)
  | [] => []
  | [x] => [x]
  | x :: y :: r => if x = y then dd (y :: r) else x :: dd (y :: r)
theorem mem_dd : ∀ (l : List (List UInt8)) (z : (List UInt8)), z ∈ dd l ↔ z ∈ l
  | [], z => Iff.rfl
  | [x], z => Iff.rfl
  | x :: y :: r, z => by
    rw [dd]
    have ih := mem_dd (y :: r) z
    split
    · rename_i h
      rw [ih, h]
      simp
    · rw [List.mem_cons, ih, List.mem_cons]
      simp
theorem dd_strict : ∀ l : List (List UInt8), l.Pairwise (fun x y => leS x y = true) → (dd l).Pairwise fun x y => ltS x y = true
  | [], _ => .nil
  | [x], _ => by rw [dd]; exact List.pairwise_singleton _ _
  | x :: y :: r, h => by
    rw [dd]
    have h2 := List.pairwise_cons.1 h
    have ih := dd_strict (y :: r) h2.2
    split
    · exact ih
    · rename_i hne
      refine List.pairwise_cons.2 ⟨fun z hz => ?_, ih⟩
      rw [mem_dd] at hz
      have hxz := h2.1 z hz
      cases hlt : ltS x z
      · exfalso
        have e : x = z := leS_antisymm hxz (by unfold leS; rw [hlt]; rfl)
        subst e
        have hxy := h2.1 y (by simp)
        rcases List.mem_cons.1 hz with h | h
        · exact hne h
        · have hyx := (List.pairwise_cons.1 h2.2).1 x h
          exact hne (leS_antisymm hxy hyx)
      · rfl
theorem strict_ext : ∀ l m : List (List UInt8), l.Pairwise (fun x y => ltS x y = true) → m.Pairwise (fun x y => ltS x y = true) → (∀ z, z ∈ l ↔ z ∈ m) → l = m
  | [], [], _, _, _ => rfl
  | [], y :: m, _, _, h => by have := (h y).2 (by simp); cases this
  | x :: l, [], _, _, h => by have := (h x).1 (by simp); cases this
  | x :: l, y :: m, hl, hm, h => by
    have hl2 := List.pairwise_cons.1 hl
    have hm2 := List.pairwise_cons.1 hm
    have e : x = y := by
      rcases List.mem_cons.1 ((h x).1 (by simp)) with h1 | h1
      · exact h1
      · rcases List.mem_cons.1 ((h y).2 (by simp)) with h3 | h3
        · exact h3.symm
        · have a := hm2.1 x h1
          have b := hl2.1 y h3
          rw [ltS_asymm y x a] at b
          cases b
    subst e
    rw [strict_ext l m hl2.2 hm2.2 fun z => ⟨fun hz => ?_, fun hz => ?_⟩]
    · rcases List.mem_cons.1 ((h z).1 (List.mem_cons_of_mem _ hz)) with h1 | h1
      · subst h1
        have := hl2.1 z hz
        rw [swoS.irrefl] at this
        cases this
      · exact h1
    · rcases List.mem_cons.1 ((h z).2 (List.mem_cons_of_mem _ hz)) with h1 | h1
      · subst h1
        have := hm2.1 z hz
        rw [swoS.irrefl] at this
        cases this
      · exact h1
theorem dd_snoc : ∀ (l : List (List UInt8)) (x : (List UInt8)), dd (l ++ [x]) = if l.getLast? = some x then dd l else dd l ++ [x]
  | [], x => rfl
  | [a], x => by
    have e0 : dd ([a] ++ [x]) = if a = x then [x] else [a, x] := rfl
    have e1 : dd [a] = [a] := rfl
    have e2 : [a].getLast? = some a := rfl
    rw [e0, e1, e2]
    by_cases h : a = x
    · subst h; rw [if_pos rfl, if_pos rfl]
    · rw [if_neg h, if_neg (fun e => h (Option.some.inj e))]; rfl
  | a :: b :: r, x => by
    have ih := dd_snoc (b :: r) x
    have e : (a :: b :: r).getLast? = (b :: r).getLast? := by simp
    have e2 : (a :: b :: r) ++ [x] = a :: b :: (r ++ [x]) := rfl
    have e3 : (b :: r) ++ [x] = b :: (r ++ [x]) := rfl
    rw [e3] at ih
    rw [e, e2, dd, dd, ih]
    by_cases h1 : a = b
    · rw [if_pos h1, if_pos h1]
    · rw [if_neg h1, if_neg h1]
      split <;> rfl
theorem compact_dd (l : List (List UInt8)) : ∀ m, m ≤ l.length → Lib.compactUpTo l.toArray m = dd (l.take m)
  | 0, _ => rfl
  | m + 1, h => by
    have ih := compact_dd l m (by omega)
    have hg : l.toArray[m]! = l[m] := by simp [getElem!_pos, show m < l.length from by omega]
    rw [Lib.compactUpTo_succ, ih, List.take_succ_eq_append_getElem (by omega), dd_snoc, hg]
    by_cases h0 : m = 0
    · subst h0
      simp [Lib.keeps]
    · have hg1 : l.toArray[m - 1]! = l[m - 1] := by simp [getElem!_pos, show m - 1 < l.length from by omega]
      have hl : (l.take m).getLast? = some l[m - 1] := by
        rw [List.getLast?_eq_getElem?, List.length_take, Nat.min_eq_left (by omega), List.getElem?_take_of_lt (by omega), List.getElem?_eq_getElem (by omega)]
      rw [hl]
      by_cases he : l[m] = l[m - 1]
      · rw [Lib.keeps_neg (by omega) (by rw [hg, hg1, he]), if_neg Bool.false_ne_true, if_pos (congrArg some he.symm), List.append_nil]
      · rw [Lib.keeps_pos (by rw [hg, hg1]; exact he), if_pos rfl, if_neg (fun e => he (Option.some.inj e).symm)]
/-- what is picked of a list of texts that match: sorted, each once -/
def srt (l : List (List UInt8)) : List (List UInt8) := dd (l.mergeSort leS)
theorem srt_compact (l : List (List UInt8)) : Lib.compactUpTo (l.mergeSort leS).toArray l.length = srt l := by
  have h := compact_dd (l.mergeSort leS) l.length (by rw [List.length_mergeSort]; exact Nat.le_refl _)
  rw [h, srt]
  congr 1
  exact List.take_of_length_le (by rw [List.length_mergeSort]; exact Nat.le_refl _)
theorem mem_srt (l : List (List UInt8)) (z : (List UInt8)) : z ∈ srt l ↔ z ∈ l := by
  rw [srt, mem_dd, (List.mergeSort_perm l leS).mem_iff]
theorem srt_ext (l m : List (List UInt8)) (h : ∀ z, z ∈ l ↔ z ∈ m) : srt l = srt m :=
  strict_ext _ _ (dd_strict _ (ms_sorted l)) (dd_strict _ (ms_sorted m)) fun z => by rw [mem_srt, mem_srt, h]
end Go.Proofs.YtnoimmhdoaeeiaaDoor
