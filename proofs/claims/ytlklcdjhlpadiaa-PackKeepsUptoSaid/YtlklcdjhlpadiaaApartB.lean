/- Lists that stand in another list's cells, each in a block of its own; and lists that were grown out of them. Plain theorems. -/
import Derived.Test.YtlklcdjhlpadiaaApartA
namespace Go.Proofs.Ytlklcdjhlpadiaa
open Go.RowKit

/-- the lists vs stand in v0's cells, apart from one another; the j-th holds 'con j' -/
def RowsC (w : World) (base : Nat) (v0 : Value) (vs : List Value) (con : Nat → List UInt8) : Prop :=
  w.ownsRow base 22 1 v0 vs.length vs ∧ SepV v0 vs ∧ ∀ j x, vs[j]? = some x → OwnB w base x (con j)
theorem ownsRow_chg {w w' : World} {S : Nat → Prop} {base sz n : Nat} {e : TypeId} {v : Value} {xs : List Value} (h : w.ownsRow base e sz v n xs) (hc : Chg S w w') (hn : ∀ b, v.ownBlock = some b → ¬ S b) : w'.ownsRow base e sz v n xs := by
  refine ⟨h.1, ?_⟩
  rcases h.2 with hn' | ⟨g, cap, cur, rfl, hb, hg, rest⟩
  · exact .inl hn'
  · exact .inr ⟨g, cap, cur, rfl, hb, hc.heap hg (hn g rfl), rest⟩
section
variable {w w' : World} {S : Nat → Prop} {base : Nat} {v0 : Value} {vs : List Value} {con con' : Nat → List UInt8}
theorem RowsC.of {ll : List (List UInt8)} (h : OwnsBB w base v0 ll) : ∃ vs, vs.length = ll.length ∧ RowsC w base v0 vs (fun j => (ll[j]?).getD []) := by
  obtain ⟨vs, h1, h2, h3, h4⟩ := h
  refine ⟨vs, h1, by rw [h1]; exact h2, h3, fun j x hx => ?_⟩
  have hj : j < ll.length := by rw [← h1]; exact (List.getElem?_eq_some_iff.1 hx).1
  show OwnB w base x ((ll[j]?).getD [])
  rw [List.getElem?_eq_getElem hj]
  exact h4 j x _ hx (List.getElem?_eq_getElem hj)
theorem RowsC.con_eq (h : RowsC w base v0 vs con) (he : ∀ j, j < vs.length → con j = con' j) : RowsC w base v0 vs con' :=
  ⟨h.1, h.2.1, fun j x hx => by rw [← he j (List.getElem?_eq_some_iff.1 hx).1]; exact h.2.2 j x hx⟩
theorem RowsC.head (h : RowsC w base v0 vs con) (hn : 0 < vs.length) : ∃ g c, v0 = .slice (some ⟨g, 0, none⟩) vs.length c ∧ base ≤ g ∧ g < w.heap.size := by
  obtain ⟨g, c, e, h1, h2⟩ := World.ownsRow.form h.1 hn
  exact ⟨g, c, e, h1, h2⟩
theorem RowsC.shape (h : RowsC w base v0 vs con) : ∃ A c, v0 = .slice A vs.length c ∧ vs.length ≤ c ∧ c ≤ maxLen := (RdV.of_own h.1).shape
theorem RowsC.cell {g c : Nat} (h : RowsC w base (.slice (some ⟨g, 0, none⟩) vs.length c) vs con) {j : Nat} {x : Value} (hx : vs[j]? = some x) : w.cell? ⟨g, j, none⟩ = some x := by
  have hj := (List.getElem?_eq_some_iff.1 hx).1
  rw [World.ownsRow.cellAt h.1 j (by omega), hx]
theorem RowsC.chg (h : RowsC w base v0 vs con) (hc : Chg S w w') (hS : ∀ b, S b → v0.ownBlock ≠ some b ∧ ∀ (j : Nat) (x : Value), vs[j]? = some x → x.ownBlock ≠ some b) : RowsC w' base v0 vs con :=
  ⟨ownsRow_chg h.1 hc fun b hb hs => (hS b hs).1 hb, h.2.1, fun j x hx => (h.2.2 j x hx).chg hc fun b hb hs => (hS b hs).2 j x hx hb⟩
theorem RowsC.c0 (h : RowsC w base v0 vs con) (hc : Chg Non w w') : RowsC w' base v0 vs con := h.chg hc fun _ h => h.elim
theorem RowsC.store (h : RowsC w base v0 vs con) {i B n c : Nat} (hx : vs[i]? = some (.slice (some ⟨B, 0, none⟩) n c)) (k : Nat) (b : UInt8) :
    RowsC (w.setCell ⟨B, k, none⟩ (.int .u8 (b.toNat : Int))) base v0 vs (fun j => if j = i then (con i).set k b else con j) := by
  have hc : Chg (fun x => x = B) w (w.setCell ⟨B, k, none⟩ (.int .u8 (b.toNat : Int))) := (Chg.refl (fun x => x = B) w).setCell (p := ⟨B, k, none⟩) (fun _ => rfl) _
  refine ⟨ownsRow_chg h.1 hc fun b hb hs => h.2.1.2 i _ b hx (by rw [hs]; rfl) hb, h.2.1, fun j x hxj => ?_⟩
  by_cases hji : j = i
  · subst hji
    rw [hx] at hxj
    injection hxj with hxj
    subst hxj
    show OwnB _ base _ (if j = j then (con j).set k b else con j)
    rw [if_pos rfl]
    exact (h.2.2 j _ hx).stored k b
  · show OwnB _ base _ (if j = i then (con i).set k b else con j)
    rw [if_neg hji]
    refine (h.2.2 j x hxj).chg hc fun b hb hs => ?_
    subst hs
    rcases Nat.lt_or_gt_of_ne hji with hlt | hgt
    · exact h.2.1.1 j i x _ b hlt hxj hx hb rfl
    · exact h.2.1.1 i j _ x b hgt hx hxj rfl hb
theorem RowsC.lt (h : RowsC w base v0 vs con) {j : Nat} {x : Value} (hx : vs[j]? = some x) : ∀ b, x.ownBlock = some b → base ≤ b ∧ b < w.heap.size := (h.2.2 j x hx).lt
theorem RowsC.sep (h : RowsC w base v0 vs con) {i j : Nat} {x y : Value} {b : Nat} (hx : vs[i]? = some x) (hy : vs[j]? = some y) (hb : x.ownBlock = some b) (hb' : y.ownBlock = some b) : i = j := by
  rcases Nat.lt_trichotomy i j with hlt | he | hgt
  · exact absurd hb' (h.2.1.1 i j x y b hlt hx hy hb)
  · exact he
  · exact absurd hb (h.2.1.1 j i y x b hgt hy hx hb')
theorem RowsC.ap {len : Nat → Nat} {i : Nat} {v : Value} (h : RowsC w base v0 vs (fun j => stL j (len j))) (ha : Ap i v w w') (hv : ∀ b, v.ownBlock = some b → v0.ownBlock ≠ some b ∧ ∀ (j : Nat) (x : Value), vs[j]? = some x → x.ownBlock = some b → j = i) : RowsC w' base v0 vs (fun j => stL j (len j)) :=
  ⟨ownsRow_chg h.1 ha.chg fun b hb hs => (hv b hs).1 hb, h.2.1, fun j x hx => (h.2.2 j x hx).ap ha fun b hb hvb => (hv b hvb).2 j x hx hb⟩
end

/-! ### grown lists -/
/-- xs stand in lv's cells: the i-th holds stamps, and lies in the block of its list among vs or from H on -/
def LongsC (w : World) (H : Nat) (vs : List Value) (Ls : Nat → Nat) (lv : Value) (xs : List Value) : Prop :=
  w.ownsRow H 22 1 lv xs.length xs ∧ ∀ i x, xs[i]? = some x → OwnB w 0 x (stL (i % vs.length) (Ls i)) ∧
    ∀ b, x.ownBlock = some b → lv.ownBlock ≠ some b ∧ ((∃ y, vs[i % vs.length]? = some y ∧ y.ownBlock = some b) ∨ H ≤ b)
section
variable {w w' : World} {S : Nat → Prop} {H : Nat} {vs xs : List Value} {Ls : Nat → Nat} {lv : Value}
theorem LongsC.nil_ (w : World) (H : Nat) (vs : List Value) (Ls : Nat → Nat) : LongsC w H vs Ls (.slice none 0 0) [] := ⟨World.ownsRow_nil w H _ 1, fun i x hx => by simp at hx⟩
theorem LongsC.chg (h : LongsC w H vs Ls lv xs) (hc : Chg S w w') (hS : ∀ b, S b → lv.ownBlock ≠ some b ∧ ∀ (i : Nat) (x : Value), xs[i]? = some x → x.ownBlock ≠ some b) : LongsC w' H vs Ls lv xs :=
  ⟨ownsRow_chg h.1 hc fun b hb hs => (hS b hs).1 hb, fun i x hx => ⟨(h.2 i x hx).1.chg hc fun b hb hs => (hS b hs).2 i x hx hb, (h.2 i x hx).2⟩⟩
theorem LongsC.c0 (h : LongsC w H vs Ls lv xs) (hc : Chg Non w w') : LongsC w' H vs Ls lv xs := h.chg hc fun _ h => h.elim
theorem LongsC.lt (h : LongsC w H vs Ls lv xs) : ∀ b, lv.ownBlock = some b → H ≤ b ∧ b < w.heap.size := World.ownsRow.lt h.1
theorem LongsC.ltx (h : LongsC w H vs Ls lv xs) {i : Nat} {x : Value} (hx : xs[i]? = some x) : ∀ b, x.ownBlock = some b → b < w.heap.size := fun b hb => ((h.2 i x hx).1.lt b hb).2
theorem LongsC.shape (h : LongsC w H vs Ls lv xs) : ∃ A c, lv = .slice A xs.length c ∧ xs.length ≤ c ∧ c ≤ maxLen := (RdV.of_own h.1).shape
theorem LongsC.head (h : LongsC w H vs Ls lv xs) (hn : 0 < xs.length) : ∃ g c, lv = .slice (some ⟨g, 0, none⟩) xs.length c ∧ H ≤ g ∧ g < w.heap.size := World.ownsRow.form h.1 hn
theorem LongsC.cell {g c : Nat} (h : LongsC w H vs Ls (.slice (some ⟨g, 0, none⟩) xs.length c) xs) {j : Nat} {x : Value} (hx : xs[j]? = some x) : w.cell? ⟨g, j, none⟩ = some x := by
  have hj := (List.getElem?_eq_some_iff.1 hx).1
  rw [World.ownsRow.cellAt h.1 j (by omega), hx]
/-- an append of stamps onto the i-th of vs -/
theorem LongsC.ap {i : Nat} {y : Value} (h : LongsC w H vs Ls lv xs) (ha : Ap i y w w') (hlt : ∀ b, y.ownBlock = some b → b < H) (hsep : ∀ (j : Nat) (x : Value) (b : Nat), vs[j]? = some x → x.ownBlock = some b → y.ownBlock = some b → j = i) : LongsC w' H vs Ls lv xs :=
  ⟨ownsRow_chg h.1 ha.chg fun b hb hs => by have := hlt b hs; have := (h.lt b hb).1; omega, fun k x hx => ⟨(h.2 k x hx).1.ap ha fun b hb hvb => by
    rcases ((h.2 k x hx).2 b hb).2 with ⟨z, hz, hzb⟩ | hH
    · exact hsep _ z b hz hzb hvb
    · have := hlt b hvb; omega, (h.2 k x hx).2⟩⟩
end

theorem append_long {w : World} {ops : Array Oper} {rest : List Oper} {o : Oper} {a : Act} {Q : Exit → Act → World → Prop} (hgd : o.guard = none) (s x : Operand)
    (ho : o.op = .call { callee := .builtin .append, args := #[s, x], argTypes := #[48, 48] })
    {H : Nat} {vs xs : List Value} {Ls : Nat → Nat} {lv : Value} (hL : LongsC w H vs Ls lv xs) (hv : a.eval s = lv)
    {u : Value} (hu : OwnB w 0 u (stL (xs.length % vs.length) (Ls xs.length))) (hub : ∀ b, u.ownBlock = some b → lv.ownBlock ≠ some b ∧ ((∃ y, vs[xs.length % vs.length]? = some y ∧ y.ownBlock = some b) ∨ H ≤ b))
    {g : Nat} (hg : Blk w g 22 #[u]) (hy : a.eval x = .slice (some ⟨g, 0, none⟩) 1 1)
    (hb : xs.length + 1 ≤ 1000000000000) (hbase : H ≤ w.heap.size)
    (h : ∀ v' w', LongsC w' H vs Ls v' (xs ++ [u]) → w.grownBy w' lv.ownBlock → (v'.ownBlock = lv.ownBlock ∨ v'.ownBlock = some w.heap.size) → wpList Try.prog ops Q rest (a.put o.dst v') w') : wpList Try.prog ops Q (o :: rest) a w := by
  obtain ⟨i, hi, hz, h1, h2⟩ := info_parts info_bb
  have hr : RdV w (fun _ => True) 1 (.slice (some ⟨g, 0, none⟩) 1 1) 1 [u] := ⟨rfl, _, 1, rfl, Nat.le_refl _, by simp [maxLen], fun _ => ⟨_, rfl, trivial, fun j y hyj => by
    rw [add_none, hg.cell]
    match j, hyj with
    | 0, hyj => simpa using hyj
    | j + 1, hyj => simp at hyj⟩⟩
  have h1c : ∀ y ∈ [u], y.oneCell' = true := fun y hy => by
    obtain ⟨A, c, rfl, _, _⟩ := hu.shape
    simp at hy; subst hy; rfl
  refine wpList_append_rd w hgd s x _ ho H 22 i _ 1 24 Try.underlying48 hi hz h1 h2 rfl (by omega) lv hv _ _ hL.1 _ _ hy _ _ hr h1c (by simp only [maxLen]; omega) (by omega) hbase ?_
  intro v' w' hown' hgr _ hat
  refine h v' w' ⟨by rw [List.length_append]; exact hown', fun k y hy => ?_⟩ hgr hat
  have hnew : ∀ (z : Value) (b : Nat), z.ownBlock = some b → b < w.heap.size → lv.ownBlock ≠ some b → v'.ownBlock ≠ some b := fun z b hz hlt hne e => by
    rcases hat with e' | e'
    · exact hne (e' ▸ e)
    · rw [e'] at e; injection e with e; omega
  rw [List.getElem?_append] at hy
  split at hy
  · have hk := hL.2 k y hy
    exact ⟨hk.1.chg (Chg.of_grown hgr) fun b hb e => (hk.2 b hb).1 e.symm, fun b hb => ⟨hnew y b hb (hk.1.lt b hb).2 (hk.2 b hb).1, (hk.2 b hb).2⟩⟩
  · rename_i hlt
    have e : k - xs.length = 0 := by
      have := (List.getElem?_eq_some_iff.1 hy).1
      simp at this; omega
    rw [e] at hy
    simp at hy
    subst hy
    obtain rfl : k = xs.length := by omega
    exact ⟨hu.chg (Chg.of_grown hgr) fun b hb e => (hub b hb).1 e.symm, fun b hb => ⟨hnew _ b hb (hu.lt b hb).2 (hub b hb).1, (hub b hb).2⟩⟩
end Go.Proofs.Ytlklcdjhlpadiaa
