/- Memory laws for the walk of groyneref01.Apart: appends of stamps onto lists that share blocks. Plain theorems. -/
import Derived.Test.YtnedinbgibjjoaaBB
import Derived.Test.YtnedinbgibjjoaaSlc
namespace Go.Proofs.Ytnedinbgibjjoaa
open Go.RowKit

def stampB (i k : Nat) : UInt8 := UInt8.ofNat (3 * i + 11 * k + 1)
def stL (i n : Nat) : List UInt8 := (List.range n).map (stampB i)
def stT (i n m : Nat) : List UInt8 := (List.range m).map fun k => stampB i (n + k)
theorem stL_len (i n : Nat) : (stL i n).length = n := by simp [stL]
theorem stT_len (i n m : Nat) : (stT i n m).length = m := by simp [stT]
theorem stL_get (i n k : Nat) (h : k < (stL i n).length) : (stL i n)[k] = stampB i k := by simp [stL]
theorem stT_get (i n m k : Nat) (h : k < m) : (stT i n m)[k]? = some (stampB i (n + k)) := by simp [stT, h]
theorem stL_succ (i n : Nat) : stL i (n + 1) = stL i n ++ [stampB i n] := by simp [stL, List.range_succ]
theorem stT_succ (i n m : Nat) : stT i n (m + 1) = stT i n m ++ [stampB i (n + m)] := by simp [stT, List.range_succ]
theorem stT_one (i n : Nat) : stT i n 1 = [stampB i n] := by simp [stT, List.range_succ]
theorem stL_add (i n : Nat) : ∀ m, stL i (n + m) = stL i n ++ stT i n m
  | 0 => by simp [stT]
  | m + 1 => by rw [← Nat.add_assoc, stL_succ, stL_add i n m, stT_succ, List.append_assoc]
theorem bvs_stL (i n k : Nat) (h : k < n) : (bvs (stL i n))[k]? = some (bv (stampB i k)) := by simp [bvs, stL, h]

/-- how w' came of w by an append of stamps in block b -/
def SC (j b : Nat) (w w' : World) : Prop :=
  Chg (fun k => k = b) w w' ∧ ∃ cur cur' : Array Value, w.heap[b]? = some (.cells cur 5 (0, 0)) ∧ w'.heap[b]? = some (.cells cur' 5 (0, 0)) ∧ cur'.size = cur.size ∧
    ∀ k, cur[k]? = some (bv (stampB j k)) → cur'[k]? = some (bv (stampB j k))
/-- an append of stamps onto v: in its own block, or in new memory -/
def Ap (i : Nat) (v : Value) (w w' : World) : Prop := (∃ b, v.ownBlock = some b ∧ SC i b w w') ∨ Chg Non w w'
theorem Ap.chg {i : Nat} {v : Value} {w w' : World} (h : Ap i v w w') : Chg (fun k => v.ownBlock = some k) w w' := by
  rcases h with ⟨b, hb, h, _⟩ | h
  · exact h.mono fun k _ e => e ▸ hb
  · exact h.mono fun _ _ h => h.elim
theorem OwnB.ap {w w' : World} {base i j L : Nat} {v x : Value} (h : OwnB w base x (stL j L)) (ha : Ap i v w w') (hij : ∀ b, x.ownBlock = some b → v.ownBlock = some b → j = i) : OwnB w' base x (stL j L) := by
  rcases ha with ⟨b, hb, hc, cur, cur', h1, h2, h3, h4⟩ | hc
  · by_cases hx : x.ownBlock = some b
    · obtain rfl := hij b hx hb
      refine ⟨h.1, ?_⟩
      rcases h.2 with ⟨rfl, _⟩ | ⟨g, cap, cu, rfl, hbase, hg, hn, hm, hcs, ht⟩
      · simp [Value.ownBlock] at hx
      · have e : g = b := by simpa [Value.ownBlock] using hx
        subst e
        rw [h1] at hg
        injection hg with hg
        injection hg with hg _ _
        subst hg
        refine .inr ⟨g, cap, cur', rfl, hbase, h2, hn, hm, by rw [h3, hcs], ?_⟩
        apply List.ext_getElem?
        intro k
        rw [List.getElem?_take]
        have hk := congrArg (fun l : List Value => l[k]?) ht
        simp only [List.getElem?_take] at hk
        rw [stL_len, Nat.mul_one] at hk ⊢
        by_cases hkn : k < L
        · rw [if_pos hkn] at hk ⊢
          rw [bvs_stL _ _ _ hkn] at hk ⊢
          rw [Array.getElem?_toList] at hk ⊢
          exact h4 k hk
        · rw [if_neg hkn] at hk ⊢
          exact hk
    · exact h.chg hc fun k hk e => hx (e ▸ hk)
  · exact h.chg hc fun _ _ h => h

theorem run_append_st {w : World} {base i n m : Nat} {v : Value} (ty : TypeId) (hown : OwnB w base v (stL i n)) {F : Nat → Prop} {y : Value} (hr : RdB w F y (stT i n m)) (hm : 0 < m)
    (hb : n + m ≤ 140737488355328) (hbase : base ≤ w.heap.size) :
    ∃ v' w', (Builtin.append_ #[28, 28] ty #[v, y]).run Try.prog w = .ok v' w' ∧ OwnB w' base v' (stL i (n + m)) ∧ Ap i v w w' ∧ (v'.ownBlock = v.ownBlock ∨ v'.ownBlock = some w.heap.size) := by
  obtain ⟨ti, hi, hz, h1, h2⟩ := info_parts info_u8
  have ht := Try.underlying28
  obtain ⟨hl, A, c, rfl, hmc, hcm, hcells⟩ := hr
  rw [stT_len] at hl hmc hcells ⊢
  obtain ⟨ad, rfl, hf, hnews⟩ := hcells hm
  have hone := bvs_one (stT i n m)
  have hlen : (bvs (stL i (n + m))).length = (stL i (n + m)).length * 1 := by rw [bvs_length]; omega
  have hll : (stL i n).length = n := stL_len i n
  have hll2 : (stL i (n + m)).length = n + m := stL_len i (n + m)
  have hbb : bvs (stL i (n + m)) = bvs (stL i n) ++ bvs (stT i n m) := by rw [stL_add, bvs_append]
  have hnl : (bvs (stT i n m)).length = m * 1 := hl
  rcases hown.2 with ⟨rfl, h0⟩ | ⟨g, cap, cur, rfl, hbg, hg, hnc, hcmx, hcs, htake⟩
  · rw [hll] at h0
    subst h0
    have hr := run_append_nil (P := Try.prog) w 28 ty 5 ti _ ht hi hz ad m c (bvs (stT i 0 m)) (by rw [h1]; exact hnl) hnews (by omega) (by omega) (by rw [h2]; omega)
    have hge := grownCap_ge w m 0 5
    have hle : grownCap w m 0 5 ≤ maxLen := grownCap_le_maxLen w m 0 5 (by simp only [maxLen]; omega)
    refine ⟨_, _, hr, ⟨hlen, .inr ⟨w.heap.size, _, _, by rw [hll2, Nat.zero_add], hbase, heap_alloc_new w.drew _, by rw [hll2]; omega, hle, ?_, ?_⟩⟩, .inr ((Chg.refl Non w).drew.alloc _), .inr rfl⟩
    · rw [Array.size_append, size_zeroCells, List.size_toArray, hnl]
      show m * 1 + (grownCap w m 0 5 - m) * 1 = _
      omega
    · rw [hbb, hll2]
      simp only [Array.toList_append, Nat.zero_add]
      rw [← hnl, List.take_left]
      rfl
  · rw [hll] at hnc htake ⊢
    by_cases hroom : n + m ≤ cap
    · have hfit : n * ti.size + (bvs (stT i n m)).length ≤ cur.size := by rw [h1, hnl, hcs]; omega
      have hr := run_append_room (P := Try.prog) w 28 ty 5 ti ht hi g n cap cur hg ad m c (bvs (stT i n m)) (by rw [h1]; exact hnl) hnews hone hroom hfit
      rw [h1] at hr
      have hsz : (cur.toList.take (n * 1) ++ bvs (stT i n m) ++ cur.toList.drop (n * 1 + (bvs (stT i n m)).length)).length = cur.size := by
        simp only [List.length_append, List.length_take, List.length_drop, Array.length_toList]
        omega
      have hlt : (cur.toList.take (n * 1)).length = n := by rw [List.length_take, Array.length_toList]; omega
      refine ⟨_, _, hr, ⟨hlen, .inr ⟨g, cap, _, by rw [hll2], hbg, setRow_heap w g cur _ 5 _ hg, by rw [hll2]; exact hroom, hcmx, ?_, ?_⟩⟩, .inl ⟨g, rfl, ⟨rfl, rfl, rfl, by simp, fun k _ hk => setRow_other w g k _ hk⟩, cur, _, hg, setRow_heap w g cur _ 5 _ hg, ?_, ?_⟩, .inl rfl⟩
      · rw [List.size_toArray, hsz, hcs]
      · rw [htake, hbb, hll2]
        have e : (n + m) * 1 = (bvs (stL i n) ++ bvs (stT i n m)).length := by rw [List.length_append, bvs_length, bvs_length, hll, stT_len]; omega
        rw [e]
        exact List.take_left
      · rw [List.size_toArray, hsz]
      · intro k hk
        have hklt : k < cur.size := (Array.getElem?_eq_some_iff.1 hk).1
        rw [List.getElem?_toArray]
        by_cases h5 : k < n
        · rw [List.append_assoc, List.getElem?_append_left (by omega), List.getElem?_take, if_pos (by omega), Array.getElem?_toList]
          exact hk
        · by_cases h6 : k < n + m
          · rw [List.append_assoc, List.getElem?_append_right (by omega), hlt, List.getElem?_append_left (by rw [hnl]; omega)]
            rw [bvs_get, stT_get _ _ _ _ (by omega), show n + (k - n) = k by omega]
            rfl
          · rw [List.getElem?_append_right (by rw [List.length_append, hlt, hnl]; omega), List.length_append, hlt, hnl, List.getElem?_drop, Array.getElem?_toList]
            rw [show n * 1 + m * 1 + (k - (n + m * 1)) = k by omega]
            exact hk
    · have holds : ∀ j u, (bvs (stL i n))[j]? = some u → w.cell? ((⟨g, 0, none⟩ : Addr).add j) = some u := World.ownsRow.cells hown (g := g) rfl
      have hr := run_append_grow (P := Try.prog) w 28 ty 5 ti _ ht hi hz ⟨g, 0, none⟩ n cap (bvs (stL i n)) (by rw [h1, bvs_length, hll]; omega) holds ad m c (bvs (stT i n m)) (by rw [h1]; exact hnl) hnews (by omega) (by omega) (by rw [h2]; exact growslice_fits (by omega) (by omega))
      have hge := grownCap_ge w (n + m) cap 5
      have hle : grownCap w (n + m) cap 5 ≤ maxLen := grownCap_le_maxLen w (n + m) cap 5 (by simp only [maxLen]; omega)
      have hbl : (bvs (stL i n)).length = n := by rw [bvs_length, hll]
      refine ⟨_, _, hr, ⟨hlen, .inr ⟨w.heap.size, _, _, by rw [hll2], hbase, heap_alloc_new w.drew _, by rw [hll2]; omega, hle, ?_, ?_⟩⟩, .inr ((Chg.refl Non w).drew.alloc _), .inr rfl⟩
      · rw [Array.size_append, Array.size_append, size_zeroCells, List.size_toArray, List.size_toArray, hnl, hbl]
        show n + m * 1 + (grownCap w (n + m) cap 5 - (n + m)) * 1 = _
        omega
      · rw [hbb, hll2]
        simp only [Array.toList_append]
        rw [show (n + m) * 1 = (bvs (stL i n) ++ bvs (stT i n m)).length by rw [List.length_append, hbl, hnl]; omega]
        exact List.take_left

theorem append_st {w : World} {ops : Array Oper} {rest : List Oper} {o : Oper} {a : Act} {Q : Exit → Act → World → Prop} (hgd : o.guard = none) (s x : Operand)
    (ho : o.op = .call { callee := .builtin .append, args := #[s, x], argTypes := #[28, 28] })
    {base i n m : Nat} {v : Value} (hown : OwnB w base v (stL i n)) (hv : a.eval s = v)
    {y : Value} {F : Nat → Prop} (hr : RdB w F y (stT i n m)) (hy : a.eval x = y) (hm : 0 < m)
    (hb : n + m ≤ 140737488355328) (hbase : base ≤ w.heap.size)
    (h : ∀ v' w', OwnB w' base v' (stL i (n + m)) → Ap i v w w' → (v'.ownBlock = v.ownBlock ∨ v'.ownBlock = some w.heap.size) → wpList Try.prog ops Q rest (a.put o.dst v') w') : wpList Try.prog ops Q (o :: rest) a w := by
  subst hv; subst hy
  refine wpList_plain hgd fun K hK => ?_
  obtain ⟨v', w', hrun, h2, h3, h4⟩ := run_append_st o.type hown hr hm hb hbase
  unfold Oper.wp execOp
  simp only [ho, resolve, invoke, builtin, Sem.run_bind, Sem.run_pure, Result.andThen_ok, List.map_toArray, List.map_cons, List.map_nil, hrun]
  exact hK _ _ (h v' w' h2 h3 h4)
end Go.Proofs.Ytnedinbgibjjoaa

namespace Go.Proofs.Ytnedinbgibjjoaa
open Go.RowKit

/-- the lists vs stand in v0's cells, apart from one another; the j-th holds 'con j' -/
def RowsC (w : World) (base : Nat) (v0 : Value) (vs : List Value) (con : Nat → List UInt8) : Prop :=
  w.ownsRow base 28 1 v0 vs.length vs ∧ SepV v0 vs ∧ ∀ j x, vs[j]? = some x → OwnB w base x (con j)
theorem ownsRow_chg {w w' : World} {S : Nat → Prop} {base sz n : Nat} {e : TypeId} {v : Value} {xs : List Value} (h : w.ownsRow base e sz v n xs) (hc : Chg S w w') (hn : ∀ b, v.ownBlock = some b → ¬ S b) : w'.ownsRow base e sz v n xs := by
  refine ⟨h.1, ?_⟩
  rcases h.2 with hn' | ⟨g, cap, cur, rfl, hb, hg, rest⟩
  · exact .inl hn'
  · exact .inr ⟨g, cap, cur, rfl, hb, hc.heap hg (hn g rfl), rest⟩
section
variable {w w' : World} {S : Nat → Prop} {base : Nat} {v0 : Value} {vs : List Value} {con con' : Nat → List UInt8}
theorem RowsC.of {ll : List (List UInt8)} (h : OwnsBB w base v0 ll) : ∃ vs, vs.length = ll.length ∧ RowsC w base v0 vs (fun j => (ll[j]?).getD []) := by
  obtain ⟨vs, h1, h2, h3, h4⟩ := h
  refine ⟨vs, h1, by rw [h1]; exact h2, h3, fun j x hx => ?_⟩
  have hj : j < ll.length := by rw [← h1]; exact (List.getElem?_eq_some_iff.1 hx).1
  show OwnB w base x ((ll[j]?).getD [])
  rw [List.getElem?_eq_getElem hj]
  exact h4 j x _ hx (List.getElem?_eq_getElem hj)
theorem RowsC.con_eq (h : RowsC w base v0 vs con) (he : ∀ j, j < vs.length → con j = con' j) : RowsC w base v0 vs con' :=
  ⟨h.1, h.2.1, fun j x hx => by rw [← he j (List.getElem?_eq_some_iff.1 hx).1]; exact h.2.2 j x hx⟩
theorem RowsC.head (h : RowsC w base v0 vs con) (hn : 0 < vs.length) : ∃ g c, v0 = .slice (some ⟨g, 0, none⟩) vs.length c ∧ base ≤ g ∧ g < w.heap.size := by
  obtain ⟨g, c, e, h1, h2⟩ := World.ownsRow.form h.1 hn
  exact ⟨g, c, e, h1, h2⟩
theorem RowsC.shape (h : RowsC w base v0 vs con) : ∃ A c, v0 = .slice A vs.length c ∧ vs.length ≤ c ∧ c ≤ maxLen := (RdV.of_own h.1).shape
theorem RowsC.cell {g c : Nat} (h : RowsC w base (.slice (some ⟨g, 0, none⟩) vs.length c) vs con) {j : Nat} {x : Value} (hx : vs[j]? = some x) : w.cell? ⟨g, j, none⟩ = some x := by
  have hj := (List.getElem?_eq_some_iff.1 hx).1
  rw [World.ownsRow.cellAt h.1 j (by omega), hx]
theorem RowsC.chg (h : RowsC w base v0 vs con) (hc : Chg S w w') (hS : ∀ b, S b → v0.ownBlock ≠ some b ∧ ∀ (j : Nat) (x : Value), vs[j]? = some x → x.ownBlock ≠ some b) : RowsC w' base v0 vs con :=
  ⟨ownsRow_chg h.1 hc fun b hb hs => (hS b hs).1 hb, h.2.1, fun j x hx => (h.2.2 j x hx).chg hc fun b hb hs => (hS b hs).2 j x hx hb⟩
theorem RowsC.c0 (h : RowsC w base v0 vs con) (hc : Chg Non w w') : RowsC w' base v0 vs con := h.chg hc fun _ h => h.elim
theorem RowsC.store (h : RowsC w base v0 vs con) {i B n c : Nat} (hx : vs[i]? = some (.slice (some ⟨B, 0, none⟩) n c)) (k : Nat) (b : UInt8) :
    RowsC (w.setCell ⟨B, k, none⟩ (.int .u8 (b.toNat : Int))) base v0 vs (fun j => if j = i then (con i).set k b else con j) := by
  have hc : Chg (fun x => x = B) w (w.setCell ⟨B, k, none⟩ (.int .u8 (b.toNat : Int))) := (Chg.refl (fun x => x = B) w).setCell (p := ⟨B, k, none⟩) (fun _ => rfl) _
  refine ⟨ownsRow_chg h.1 hc fun b hb hs => h.2.1.2 i _ b hx (by rw [hs]; rfl) hb, h.2.1, fun j x hxj => ?_⟩
  by_cases hji : j = i
  · subst hji
    rw [hx] at hxj
    injection hxj with hxj
    subst hxj
    show OwnB _ base _ (if j = j then (con j).set k b else con j)
    rw [if_pos rfl]
    exact (h.2.2 j _ hx).stored k b
  · show OwnB _ base _ (if j = i then (con i).set k b else con j)
    rw [if_neg hji]
    refine (h.2.2 j x hxj).chg hc fun b hb hs => ?_
    subst hs
    rcases Nat.lt_or_gt_of_ne hji with hlt | hgt
    · exact h.2.1.1 j i x _ b hlt hxj hx hb rfl
    · exact h.2.1.1 i j _ x b hgt hx hxj rfl hb
theorem RowsC.lt (h : RowsC w base v0 vs con) {j : Nat} {x : Value} (hx : vs[j]? = some x) : ∀ b, x.ownBlock = some b → base ≤ b ∧ b < w.heap.size := (h.2.2 j x hx).lt
theorem RowsC.sep (h : RowsC w base v0 vs con) {i j : Nat} {x y : Value} {b : Nat} (hx : vs[i]? = some x) (hy : vs[j]? = some y) (hb : x.ownBlock = some b) (hb' : y.ownBlock = some b) : i = j := by
  rcases Nat.lt_trichotomy i j with hlt | he | hgt
  · exact absurd hb' (h.2.1.1 i j x y b hlt hx hy hb)
  · exact he
  · exact absurd hb (h.2.1.1 j i y x b hgt hy hx hb')
theorem RowsC.ap {len : Nat → Nat} {i : Nat} {v : Value} (h : RowsC w base v0 vs (fun j => stL j (len j))) (ha : Ap i v w w') (hv : ∀ b, v.ownBlock = some b → v0.ownBlock ≠ some b ∧ ∀ (j : Nat) (x : Value), vs[j]? = some x → x.ownBlock = some b → j = i) : RowsC w' base v0 vs (fun j => stL j (len j)) :=
  ⟨ownsRow_chg h.1 ha.chg fun b hb hs => (hv b hs).1 hb, h.2.1, fun j x hx => (h.2.2 j x hx).ap ha fun b hb hvb => (hv b hvb).2 j x hx hb⟩
end

/-! ### grown lists -/
/-- xs stand in lv's cells: the i-th holds stamps, and lies in the block of its list among vs or from H on -/
def LongsC (w : World) (H : Nat) (vs : List Value) (Ls : Nat → Nat) (lv : Value) (xs : List Value) : Prop :=
  w.ownsRow H 28 1 lv xs.length xs ∧ ∀ i x, xs[i]? = some x → OwnB w 0 x (stL (i % vs.length) (Ls i)) ∧
    ∀ b, x.ownBlock = some b → lv.ownBlock ≠ some b ∧ ((∃ y, vs[i % vs.length]? = some y ∧ y.ownBlock = some b) ∨ H ≤ b)
section
variable {w w' : World} {S : Nat → Prop} {H : Nat} {vs xs : List Value} {Ls : Nat → Nat} {lv : Value}
theorem LongsC.nil_ (w : World) (H : Nat) (vs : List Value) (Ls : Nat → Nat) : LongsC w H vs Ls (.slice none 0 0) [] := ⟨World.ownsRow_nil w H _ 1, fun i x hx => by simp at hx⟩
theorem LongsC.chg (h : LongsC w H vs Ls lv xs) (hc : Chg S w w') (hS : ∀ b, S b → lv.ownBlock ≠ some b ∧ ∀ (i : Nat) (x : Value), xs[i]? = some x → x.ownBlock ≠ some b) : LongsC w' H vs Ls lv xs :=
  ⟨ownsRow_chg h.1 hc fun b hb hs => (hS b hs).1 hb, fun i x hx => ⟨(h.2 i x hx).1.chg hc fun b hb hs => (hS b hs).2 i x hx hb, (h.2 i x hx).2⟩⟩
theorem LongsC.c0 (h : LongsC w H vs Ls lv xs) (hc : Chg Non w w') : LongsC w' H vs Ls lv xs := h.chg hc fun _ h => h.elim
theorem LongsC.lt (h : LongsC w H vs Ls lv xs) : ∀ b, lv.ownBlock = some b → H ≤ b ∧ b < w.heap.size := World.ownsRow.lt h.1
theorem LongsC.ltx (h : LongsC w H vs Ls lv xs) {i : Nat} {x : Value} (hx : xs[i]? = some x) : ∀ b, x.ownBlock = some b → b < w.heap.size := fun b hb => ((h.2 i x hx).1.lt b hb).2
theorem LongsC.shape (h : LongsC w H vs Ls lv xs) : ∃ A c, lv = .slice A xs.length c ∧ xs.length ≤ c ∧ c ≤ maxLen := (RdV.of_own h.1).shape
theorem LongsC.head (h : LongsC w H vs Ls lv xs) (hn : 0 < xs.length) : ∃ g c, lv = .slice (some ⟨g, 0, none⟩) xs.length c ∧ H ≤ g ∧ g < w.heap.size := World.ownsRow.form h.1 hn
theorem LongsC.cell {g c : Nat} (h : LongsC w H vs Ls (.slice (some ⟨g, 0, none⟩) xs.length c) xs) {j : Nat} {x : Value} (hx : xs[j]? = some x) : w.cell? ⟨g, j, none⟩ = some x := by
  have hj := (List.getElem?_eq_some_iff.1 hx).1
  rw [World.ownsRow.cellAt h.1 j (by omega), hx]
/-- an append of stamps onto the i-th of vs -/
theorem LongsC.ap {i : Nat} {y : Value} (h : LongsC w H vs Ls lv xs) (ha : Ap i y w w') (hlt : ∀ b, y.ownBlock = some b → b < H) (hsep : ∀ (j : Nat) (x : Value) (b : Nat), vs[j]? = some x → x.ownBlock = some b → y.ownBlock = some b → j = i) : LongsC w' H vs Ls lv xs :=
  ⟨ownsRow_chg h.1 ha.chg fun b hb hs => by have := hlt b hs; have := (h.lt b hb).1; omega, fun k x hx => ⟨(h.2 k x hx).1.ap ha fun b hb hvb => by
    rcases ((h.2 k x hx).2 b hb).2 with ⟨z, hz, hzb⟩ | hH
    · exact hsep _ z b hz hzb hvb
    · have := hlt b hvb; omega, (h.2 k x hx).2⟩⟩
end

theorem append_long {w : World} {ops : Array Oper} {rest : List Oper} {o : Oper} {a : Act} {Q : Exit → Act → World → Prop} (hgd : o.guard = none) (s x : Operand)
    (ho : o.op = .call { callee := .builtin .append, args := #[s, x], argTypes := #[52, 52] })
    {H : Nat} {vs xs : List Value} {Ls : Nat → Nat} {lv : Value} (hL : LongsC w H vs Ls lv xs) (hv : a.eval s = lv)
    {u : Value} (hu : OwnB w 0 u (stL (xs.length % vs.length) (Ls xs.length))) (hub : ∀ b, u.ownBlock = some b → lv.ownBlock ≠ some b ∧ ((∃ y, vs[xs.length % vs.length]? = some y ∧ y.ownBlock = some b) ∨ H ≤ b))
    {g : Nat} (hg : Blk w g 28 #[u]) (hy : a.eval x = .slice (some ⟨g, 0, none⟩) 1 1)
    (hb : xs.length + 1 ≤ 1000000000000) (hbase : H ≤ w.heap.size)
    (h : ∀ v' w', LongsC w' H vs Ls v' (xs ++ [u]) → w.grownBy w' lv.ownBlock → (v'.ownBlock = lv.ownBlock ∨ v'.ownBlock = some w.heap.size) → wpList Try.prog ops Q rest (a.put o.dst v') w') : wpList Try.prog ops Q (o :: rest) a w := by
  obtain ⟨i, hi, hz, h1, h2⟩ := info_parts info_bb
  have hr : RdV w (fun _ => True) 1 (.slice (some ⟨g, 0, none⟩) 1 1) 1 [u] := ⟨rfl, _, 1, rfl, Nat.le_refl _, by simp [maxLen], fun _ => ⟨_, rfl, trivial, fun j y hyj => by
    rw [add_none, hg.cell]
    match j, hyj with
    | 0, hyj => simpa using hyj
    | j + 1, hyj => simp at hyj⟩⟩
  have h1c : ∀ y ∈ [u], y.oneCell' = true := fun y hy => by
    obtain ⟨A, c, rfl, _, _⟩ := hu.shape
    simp at hy; subst hy; rfl
  refine wpList_append_rd w hgd s x _ ho H 28 i _ 1 24 Try.underlying52 hi hz h1 h2 rfl (by omega) lv hv _ _ hL.1 _ _ hy _ _ hr h1c (by simp only [maxLen]; omega) (by omega) hbase ?_
  intro v' w' hown' hgr _ hat
  refine h v' w' ⟨by rw [List.length_append]; exact hown', fun k y hy => ?_⟩ hgr hat
  have hnew : ∀ (z : Value) (b : Nat), z.ownBlock = some b → b < w.heap.size → lv.ownBlock ≠ some b → v'.ownBlock ≠ some b := fun z b hz hlt hne e => by
    rcases hat with e' | e'
    · exact hne (e' ▸ e)
    · rw [e'] at e; injection e with e; omega
  rw [List.getElem?_append] at hy
  split at hy
  · have hk := hL.2 k y hy
    exact ⟨hk.1.chg (Chg.of_grown hgr) fun b hb e => (hk.2 b hb).1 e.symm, fun b hb => ⟨hnew y b hb (hk.1.lt b hb).2 (hk.2 b hb).1, (hk.2 b hb).2⟩⟩
  · rename_i hlt
    have e : k - xs.length = 0 := by
      have := (List.getElem?_eq_some_iff.1 hy).1
      simp at this; omega
    rw [e] at hy
    simp at hy
    subst hy
    obtain rfl : k = xs.length := by omega
    exact ⟨hu.chg (Chg.of_grown hgr) fun b hb e => (hub b hb).1 e.symm, fun b hb => ⟨hnew _ b hb (hu.lt b hb).2 (hub b hb).1, (hub b hb).2⟩⟩
end Go.Proofs.Ytnedinbgibjjoaa

namespace Go.Proofs.Ytnedinbgibjjoaa
open Go.RowKit

/-- the values own their bytes, no two of them in one block -/
def OwnCh (w : World) (lo : Nat) : List (Value × List UInt8) → Prop
  | [] => True
  | (x, l) :: r => OwnB w lo x l ∧ (∀ p ∈ r, ∀ b, x.ownBlock = some b → p.1.ownBlock ≠ some b) ∧ OwnCh w lo r
theorem OwnCh.nil_ (w : World) (lo : Nat) : OwnCh w lo [] := trivial
theorem OwnCh.own {w : World} {lo : Nat} : ∀ {r : List (Value × List UInt8)}, OwnCh w lo r → ∀ (k : Nat) (x : Value) (l : List UInt8), r[k]? = some (x, l) → OwnB w lo x l
  | [], _, k, x, l, h => by simp at h
  | (x0, l0) :: r, ⟨h0, _, hr⟩, 0, x, l, h => by
    simp at h
    obtain ⟨rfl, rfl⟩ := h
    exact h0
  | (x0, l0) :: r, ⟨h0, _, hr⟩, k + 1, x, l, h => hr.own k x l (by simpa using h)
theorem OwnCh.mem {w : World} {lo : Nat} {r : List (Value × List UInt8)} (h : OwnCh w lo r) {p : Value × List UInt8} (hp : p ∈ r) : OwnB w lo p.1 p.2 := by
  obtain ⟨k, hk, e⟩ := List.mem_iff_getElem.1 hp
  exact h.own k p.1 p.2 (by rw [List.getElem?_eq_getElem hk, e])
theorem OwnCh.low {w : World} {lo lo' : Nat} (hl : lo ≤ lo') : ∀ {r : List (Value × List UInt8)}, OwnCh w lo' r → OwnCh w lo r
  | [], _ => trivial
  | (x, l) :: r, ⟨h0, h1, hr⟩ => ⟨h0.low hl, h1, hr.low hl⟩
/-- the rest lies behind -/
theorem OwnCh.cons_ {w : World} {lo mid : Nat} {x : Value} {l : List UInt8} {r : List (Value × List UInt8)} (h : OwnB w lo x l) (hm : lo ≤ mid) (hx : ∀ b, x.ownBlock = some b → b < mid) (hr : OwnCh w mid r) : OwnCh w lo ((x, l) :: r) :=
  ⟨h, fun p hp b hb e => by have h1 := hx b hb; have h2 := ((hr.mem hp).lt b e).1; omega, hr.low hm⟩
/-- two that lie apart, the rest behind them -/
theorem OwnCh.cons2_ {w : World} {lo mid : Nat} {x y : Value} {l m : List UInt8} {r : List (Value × List UInt8)} (h : OwnB w lo x l) (h' : OwnB w lo y m) (hm : lo ≤ mid) (hx : ∀ b, x.ownBlock = some b → b < mid) (hy : ∀ b, y.ownBlock = some b → b < mid)
    (hxy : ∀ b, x.ownBlock = some b → y.ownBlock ≠ some b) (hr : OwnCh w mid r) : OwnCh w lo ((x, l) :: (y, m) :: r) :=
  ⟨h, fun p hp b hb e => by
    rcases List.mem_cons.1 hp with rfl | hp
    · exact hxy b hb e
    · have h1 := hx b hb; have h2 := ((hr.mem hp).lt b e).1; omega, OwnCh.cons_ h' hm hy hr⟩
theorem OwnCh.sep {w : World} {lo : Nat} : ∀ {r : List (Value × List UInt8)}, OwnCh w lo r → ∀ (i j : Nat) (x y : Value) (l m : List UInt8) (b : Nat), i < j → r[i]? = some (x, l) → r[j]? = some (y, m) → x.ownBlock = some b → y.ownBlock ≠ some b
  | [], _, i, j, x, y, l, m, b, _, h, _, _ => by simp at h
  | (x0, l0) :: r, ⟨h0, h1, hr⟩, 0, j + 1, x, y, l, m, b, _, hx, hy, hb => by
    simp at hx
    obtain ⟨rfl, rfl⟩ := hx
    exact h1 (y, m) (List.mem_of_getElem? (by simpa using hy)) b hb
  | (x0, l0) :: r, ⟨h0, h1, hr⟩, i + 1, j + 1, x, y, l, m, b, hij, hx, hy, hb =>
    hr.sep i j x y l m b (by omega) (by simpa using hx) (by simpa using hy) hb
theorem OwnsBB.lit {w : World} {base n : Nat} {r : List (Value × List UInt8)} (h : OwnCh w base r) (hbase : base ≤ w.heap.size) (hn : n = r.length) (hm : n ≤ maxLen) {cs : Array Value} (hcs : cs = (r.map (·.1)).toArray) {lls : List (List UInt8)} (hl : lls = r.map (·.2)) :
    OwnsBB (w.alloc (.cells cs 28)) base (.slice (some ⟨w.heap.size, 0, none⟩) n n) lls := by
  subst hcs; subst hl; subst hn
  have hget : ∀ (k : Nat) (x : Value), (r.map (·.1))[k]? = some x → ∃ l, r[k]? = some (x, l) := fun k x hx => by
    rw [List.getElem?_map] at hx
    obtain ⟨⟨x', l⟩, he, rfl⟩ := Option.map_eq_some_iff.1 hx
    exact ⟨l, he⟩
  refine ⟨r.map (·.1), by simp, ?_, ⟨fun i j x y b hij hx hy hb => ?_, fun i x b hx hb e => ?_⟩, fun k x l hx hl => ?_⟩
  · have h1 := World.ownsRow_lit (base := base) (e := 28) (size := 1) w (r.map (·.1)).toArray r.length hbase hm (by simp)
    simpa using h1
  · obtain ⟨l, hx⟩ := hget i x hx
    obtain ⟨m, hy⟩ := hget j y hy
    exact h.sep i j x y l m b hij hx hy hb
  · obtain ⟨l, hx⟩ := hget i x hx
    have h1 := ((h.own i x l hx).lt b hb).2
    injection e with e
    simp at e
    omega
  · obtain ⟨l', hx⟩ := hget k x hx
    rw [List.getElem?_map, hx] at hl
    simp at hl
    subst hl
    exact (h.own k x l' hx).al _
theorem RowsC.lit {w : World} {base n : Nat} {r : List (Value × List UInt8)} (h : OwnCh w base r) (hbase : base ≤ w.heap.size) (hn : n = r.length) (hm : n ≤ maxLen) {cs : Array Value} (hcs : cs = (r.map (·.1)).toArray) :
    RowsC (w.alloc (.cells cs 28)) base (.slice (some ⟨w.heap.size, 0, none⟩) n n) (r.map (·.1)) (fun j => ((r.map (·.2))[j]?).getD []) ∧ True := by
  subst hcs; subst hn
  have hget : ∀ (k : Nat) (x : Value), (r.map (·.1))[k]? = some x → ∃ l, r[k]? = some (x, l) := fun k x hx => by
    rw [List.getElem?_map] at hx
    obtain ⟨⟨x', l⟩, he, rfl⟩ := Option.map_eq_some_iff.1 hx
    exact ⟨l, he⟩
  refine ⟨⟨?_, ⟨fun i j x y b hij hx hy hb => ?_, fun i x b hx hb e => ?_⟩, fun k x hx => ?_⟩, trivial⟩
  · have h1 := World.ownsRow_lit (base := base) (e := 28) (size := 1) w (r.map (·.1)).toArray r.length hbase hm (by simp)
    simpa using h1
  · obtain ⟨l, hx⟩ := hget i x hx
    obtain ⟨m, hy⟩ := hget j y hy
    exact h.sep i j x y l m b hij hx hy hb
  · obtain ⟨l, hx⟩ := hget i x hx
    have h1 := ((h.own i x l hx).lt b hb).2
    injection e with e
    simp at e
    omega
  · obtain ⟨l', hx⟩ := hget k x hx
    show OwnB _ base x (((r.map (·.2))[k]?).getD [])
    rw [List.getElem?_map, hx]
    exact (h.own k x l' hx).al _
end Go.Proofs.Ytnedinbgibjjoaa
