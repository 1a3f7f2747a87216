/- Memory laws for the walk of groyneref01.Apart: appends of stamps onto lists that share blocks. Plain theorems. -/
import Derived.Test.YtncchbcoldgpbaaBB
import Derived.Test.YtncchbcoldgpbaaBaM
import Derived.StillTailTactics
namespace Go.Proofs.Ytncchbcoldgpbaa
open Go.RowKit

def stampB (i k : Nat) : UInt8 := UInt8.ofNat (3 * i + 11 * k + 1)
def stL (i n : Nat) : List UInt8 := (List.range n).map (stampB i)
def stT (i n m : Nat) : List UInt8 := (List.range m).map fun k => stampB i (n + k)
theorem stL_len (i n : Nat) : (stL i n).length = n := by simp [stL]
theorem stT_len (i n m : Nat) : (stT i n m).length = m := by simp [stT]
theorem stL_get (i n k : Nat) (h : k < (stL i n).length) : (stL i n)[k] = stampB i k := by simp [stL]
theorem stT_get (i n m k : Nat) (h : k < m) : (stT i n m)[k]? = some (stampB i (n + k)) := by simp [stT, h]
theorem stL_succ (i n : Nat) : stL i (n + 1) = stL i n ++ [stampB i n] := by simp [stL, List.range_succ]
theorem stT_succ (i n m : Nat) : stT i n (m + 1) = stT i n m ++ [stampB i (n + m)] := by simp [stT, List.range_succ]
theorem stT_one (i n : Nat) : stT i n 1 = [stampB i n] := by simp [stT, List.range_succ]
theorem stL_add (i n : Nat) : ∀ m, stL i (n + m) = stL i n ++ stT i n m
  | 0 => by simp [stT]
  | m + 1 => by rw [← Nat.add_assoc, stL_succ, stL_add i n m, stT_succ, List.append_assoc]
theorem bvs_stL (i n k : Nat) (h : k < n) : (bvs (stL i n))[k]? = some (bv (stampB i k)) := by simp [bvs, stL, h]

/-- how w' came of w by an append of stamps in block b -/
def SC (j b : Nat) (w w' : World) : Prop :=
  Chg (fun k => k = b) w w' ∧ ∃ cur cur' : Array Value, w.heap[b]? = some (.cells cur 5 (0, 0)) ∧ w'.heap[b]? = some (.cells cur' 5 (0, 0)) ∧ cur'.size = cur.size ∧
    ∀ k, cur[k]? = some (bv (stampB j k)) → cur'[k]? = some (bv (stampB j k))
/-- an append of stamps onto v: in its own block, or in new memory -/
def Ap (i : Nat) (v : Value) (w w' : World) : Prop := (∃ b, v.ownBlock = some b ∧ SC i b w w') ∨ Chg Non w w'
theorem Ap.chg {i : Nat} {v : Value} {w w' : World} (h : Ap i v w w') : Chg (fun k => v.ownBlock = some k) w w' := by
  rcases h with ⟨b, hb, h, _⟩ | h
  · exact h.mono fun k _ e => e ▸ hb
  · exact h.mono fun _ _ h => h.elim
theorem OwnB.ap {w w' : World} {base i j L : Nat} {v x : Value} (h : OwnB w base x (stL j L)) (ha : Ap i v w w') (hij : ∀ b, x.ownBlock = some b → v.ownBlock = some b → j = i) : OwnB w' base x (stL j L) := by
  rcases ha with ⟨b, hb, hc, cur, cur', h1, h2, h3, h4⟩ | hc
  · by_cases hx : x.ownBlock = some b
    · obtain rfl := hij b hx hb
      refine ⟨h.1, ?_⟩
      rcases h.2 with ⟨rfl, _⟩ | ⟨g, cap, cu, rfl, hbase, hg, hn, hm, hcs, ht⟩
      · simp [Value.ownBlock] at hx
      · have e : g = b := by simpa [Value.ownBlock] using hx
        subst e
        rw [h1] at hg
        injection hg with hg
        injection hg with hg _ _
        subst hg
        refine .inr ⟨g, cap, cur', rfl, hbase, h2, hn, hm, by rw [h3, hcs], ?_⟩
        apply List.ext_getElem?
        intro k
        rw [List.getElem?_take]
        have hk := congrArg (fun l : List Value => l[k]?) ht
        simp only [List.getElem?_take] at hk
        rw [stL_len, Nat.mul_one] at hk ⊢
        by_cases hkn : k < L
        · rw [if_pos hkn] at hk ⊢
          rw [bvs_stL _ _ _ hkn] at hk ⊢
          rw [Array.getElem?_toList] at hk ⊢
          exact h4 k hk
        · rw [if_neg hkn] at hk ⊢
          exact hk
    · exact h.chg hc fun k hk e => hx (e ▸ hk)
  · exact h.chg hc fun _ _ h => h

theorem run_append_st {w : World} {base i n m : Nat} {v : Value} (ty : TypeId) (hown : OwnB w base v (stL i n)) {F : Nat → Prop} {y : Value} (hr : RdB w F y (stT i n m)) (hm : 0 < m)
    (hb : n + m ≤ 140737488355328) (hbase : base ≤ w.heap.size) :
    ∃ v' w', (Builtin.append_ #[26, 26] ty #[v, y]).run Try.prog w = .ok v' w' ∧ OwnB w' base v' (stL i (n + m)) ∧ Ap i v w w' ∧ (v'.ownBlock = v.ownBlock ∨ v'.ownBlock = some w.heap.size) := by
  obtain ⟨ti, hi, hz, h1, h2⟩ := info_parts info_u8
  have ht := Try.underlying26
  obtain ⟨hl, A, c, rfl, hmc, hcm, hcells⟩ := hr
  rw [stT_len] at hl hmc hcells ⊢
  obtain ⟨ad, rfl, hf, hnews⟩ := hcells hm
  have hone := bvs_one (stT i n m)
  have hlen : (bvs (stL i (n + m))).length = (stL i (n + m)).length * 1 := by rw [bvs_length]; omega
  have hll : (stL i n).length = n := stL_len i n
  have hll2 : (stL i (n + m)).length = n + m := stL_len i (n + m)
  have hbb : bvs (stL i (n + m)) = bvs (stL i n) ++ bvs (stT i n m) := by rw [stL_add, bvs_append]
  have hnl : (bvs (stT i n m)).length = m * 1 := hl
  rcases hown.2 with ⟨rfl, h0⟩ | ⟨g, cap, cur, rfl, hbg, hg, hnc, hcmx, hcs, htake⟩
  · rw [hll] at h0
    subst h0
    have hr := run_append_nil (P := Try.prog) w 26 ty 5 ti _ ht hi hz ad m c (bvs (stT i 0 m)) (by rw [h1]; exact hnl) hnews (by omega) (by omega) (by rw [h2]; omega)
    have hge := grownCap_ge w m 0 5
    have hle : grownCap w m 0 5 ≤ maxLen := grownCap_le_maxLen w m 0 5 (by simp only [maxLen]; omega)
    refine ⟨_, _, hr, ⟨hlen, .inr ⟨w.heap.size, _, _, by rw [hll2, Nat.zero_add], hbase, heap_alloc_new w.drew _, by rw [hll2]; omega, hle, ?_, ?_⟩⟩, .inr ((Chg.refl Non w).drew.alloc _), .inr rfl⟩
    · rw [Array.size_append, size_zeroCells, List.size_toArray, hnl]
      show m * 1 + (grownCap w m 0 5 - m) * 1 = _
      omega
    · rw [hbb, hll2]
      simp only [Array.toList_append, Nat.zero_add]
      rw [← hnl, List.take_left]
      rfl
  · rw [hll] at hnc htake ⊢
    by_cases hroom : n + m ≤ cap
    · have hfit : n * ti.size + (bvs (stT i n m)).length ≤ cur.size := by rw [h1, hnl, hcs]; omega
      have hr := run_append_room (P := Try.prog) w 26 ty 5 ti ht hi g n cap cur hg ad m c (bvs (stT i n m)) (by rw [h1]; exact hnl) hnews hone hroom hfit
      rw [h1] at hr
      have hsz : (cur.toList.take (n * 1) ++ bvs (stT i n m) ++ cur.toList.drop (n * 1 + (bvs (stT i n m)).length)).length = cur.size := by
        simp only [List.length_append, List.length_take, List.length_drop, Array.length_toList]
        omega
      have hlt : (cur.toList.take (n * 1)).length = n := by rw [List.length_take, Array.length_toList]; omega
      refine ⟨_, _, hr, ⟨hlen, .inr ⟨g, cap, _, by rw [hll2], hbg, setRow_heap w g cur _ 5 _ hg, by rw [hll2]; exact hroom, hcmx, ?_, ?_⟩⟩, .inl ⟨g, rfl, ⟨rfl, rfl, rfl, by simp, fun k _ hk => setRow_other w g k _ hk⟩, cur, _, hg, setRow_heap w g cur _ 5 _ hg, ?_, ?_⟩, .inl rfl⟩
      · rw [List.size_toArray, hsz, hcs]
      · rw [htake, hbb, hll2]
        have e : (n + m) * 1 = (bvs (stL i n) ++ bvs (stT i n m)).length := by rw [List.length_append, bvs_length, bvs_length, hll, stT_len]; omega
        rw [e]
        exact List.take_left
      · rw [List.size_toArray, hsz]
      · intro k hk
        have hklt : k < cur.size := (Array.getElem?_eq_some_iff.1 hk).1
        rw [List.getElem?_toArray]
        by_cases h5 : k < n
        · rw [List.append_assoc, List.getElem?_append_left (by omega), List.getElem?_take, if_pos (by omega), Array.getElem?_toList]
          exact hk
        · by_cases h6 : k < n + m
          · rw [List.append_assoc, List.getElem?_append_right (by omega), hlt, List.getElem?_append_left (by rw [hnl]; omega)]
            rw [bvs_get, stT_get _ _ _ _ (by omega), show n + (k - n) = k by omega]
            rfl
          · rw [List.getElem?_append_right (by rw [List.length_append, hlt, hnl]; omega), List.length_append, hlt, hnl, List.getElem?_drop, Array.getElem?_toList]
            rw [show n * 1 + m * 1 + (k - (n + m * 1)) = k by omega]
            exact hk
    · have holds : ∀ j u, (bvs (stL i n))[j]? = some u → w.cell? ((⟨g, 0, none⟩ : Addr).add j) = some u := World.ownsRow.cells hown (g := g) rfl
      have hr := run_append_grow (P := Try.prog) w 26 ty 5 ti _ ht hi hz ⟨g, 0, none⟩ n cap (bvs (stL i n)) (by rw [h1, bvs_length, hll]; omega) holds ad m c (bvs (stT i n m)) (by rw [h1]; exact hnl) hnews (by omega) (by omega) (by rw [h2]; exact growslice_fits (by omega) (by omega))
      have hge := grownCap_ge w (n + m) cap 5
      have hle : grownCap w (n + m) cap 5 ≤ maxLen := grownCap_le_maxLen w (n + m) cap 5 (by simp only [maxLen]; omega)
      have hbl : (bvs (stL i n)).length = n := by rw [bvs_length, hll]
      refine ⟨_, _, hr, ⟨hlen, .inr ⟨w.heap.size, _, _, by rw [hll2], hbase, heap_alloc_new w.drew _, by rw [hll2]; omega, hle, ?_, ?_⟩⟩, .inr ((Chg.refl Non w).drew.alloc _), .inr rfl⟩
      · rw [Array.size_append, Array.size_append, size_zeroCells, List.size_toArray, List.size_toArray, hnl, hbl]
        show n + m * 1 + (grownCap w (n + m) cap 5 - (n + m)) * 1 = _
        omega
      · rw [hbb, hll2]
        simp only [Array.toList_append]
        rw [show (n + m) * 1 = (bvs (stL i n) ++ bvs (stT i n m)).length by rw [List.length_append, hbl, hnl]; omega]
        exact List.take_left

theorem append_st {w : World} {ops : Array Oper} {rest : List Oper} {o : Oper} {a : Act} {Q : Exit → Act → World → Prop} (hgd : o.guard = none) (s x : Operand)
    (ho : o.op = .call { callee := .builtin .append, args := #[s, x], argTypes := #[26, 26] })
    {base i n m : Nat} {v : Value} (hown : OwnB w base v (stL i n)) (hv : a.eval s = v)
    {y : Value} {F : Nat → Prop} (hr : RdB w F y (stT i n m)) (hy : a.eval x = y) (hm : 0 < m)
    (hb : n + m ≤ 140737488355328) (hbase : base ≤ w.heap.size)
    (h : ∀ v' w', OwnB w' base v' (stL i (n + m)) → Ap i v w w' → (v'.ownBlock = v.ownBlock ∨ v'.ownBlock = some w.heap.size) → wpList Try.prog ops Q rest (a.put o.dst v') w') : wpList Try.prog ops Q (o :: rest) a w := by
  subst hv; subst hy
  refine wpList_plain hgd fun K hK => ?_
  obtain ⟨v', w', hrun, h2, h3, h4⟩ := run_append_st o.type hown hr hm hb hbase
  unfold Oper.wp execOp
  simp only [ho, resolve, invoke, builtin, Sem.run_bind, Sem.run_pure, Result.andThen_ok, List.map_toArray, List.map_cons, List.map_nil, hrun]
  exact hK _ _ (h v' w' h2 h3 h4)
end Go.Proofs.Ytncchbcoldgpbaa

namespace Go.Proofs.Ytncchbcoldgpbaa
open Go.RowKit

/-- the lists vs stand in v0's cells, apart from one another; the j-th holds 'con j' -/
def RowsC (w : World) (base : Nat) (v0 : Value) (vs : List Value) (con : Nat → List UInt8) : Prop :=
  w.ownsRow base 26 1 v0 vs.length vs ∧ SepV v0 vs ∧ ∀ j x, vs[j]? = some x → OwnB w base x (con j)
theorem ownsRow_chg {w w' : World} {S : Nat → Prop} {base sz n : Nat} {e : TypeId} {v : Value} {xs : List Value} (h : w.ownsRow base e sz v n xs) (hc : Chg S w w') (hn : ∀ b, v.ownBlock = some b → ¬ S b) : w'.ownsRow base e sz v n xs := by
  refine ⟨h.1, ?_⟩
  rcases h.2 with hn' | ⟨g, cap, cur, rfl, hb, hg, rest⟩
  · exact .inl hn'
  · exact .inr ⟨g, cap, cur, rfl, hb, hc.heap hg (hn g rfl), rest⟩
section
variable {w w' : World} {S : Nat → Prop} {base : Nat} {v0 : Value} {vs : List Value} {con con' : Nat → List UInt8}
theorem RowsC.of {ll : List (List UInt8)} (h : OwnsBB w base v0 ll) : ∃ vs, vs.length = ll.length ∧ RowsC w base v0 vs (fun j => (ll[j]?).getD []) := by
  obtain ⟨vs, h1, h2, h3, h4⟩ := h
  refine ⟨vs, h1, by rw [h1]; exact h2, h3, fun j x hx => ?_⟩
  have hj : j < ll.length := by rw [← h1]; exact (List.getElem?_eq_some_iff.1 hx).1
  show OwnB w base x ((ll[j]?).getD [])
  rw [List.getElem?_eq_getElem hj]
  exact h4 j x _ hx (List.getElem?_eq_getElem hj)
theorem RowsC.con_eq (h : RowsC w base v0 vs con) (he : ∀ j, j < vs.length → con j = con' j) : RowsC w base v0 vs con' :=
  ⟨h.1, h.2.1, fun j x hx => by rw [← he j (List.getElem?_eq_some_iff.1 hx).1]; exact h.2.2 j x hx⟩
theorem RowsC.head (h : RowsC w base v0 vs con) (hn : 0 < vs.length) : ∃ g c, v0 = .slice (some ⟨g, 0, none⟩) vs.length c ∧ base ≤ g ∧ g < w.heap.size := by
  obtain ⟨g, c, e, h1, h2⟩ := World.ownsRow.form h.1 hn
  exact ⟨g, c, e, h1, h2⟩
theorem RowsC.shape (h : RowsC w base v0 vs con) : ∃ A c, v0 = .slice A vs.length c ∧ vs.length ≤ c ∧ c ≤ maxLen := (RdV.of_own h.1).shape
theorem RowsC.cell {g c : Nat} (h : RowsC w base (.slice (some ⟨g, 0, none⟩) vs.length c) vs con) {j : Nat} {x : Value} (hx : vs[j]? = some x) : w.cell? ⟨g, j, none⟩ = some x := by
  have hj := (List.getElem?_eq_some_iff.1 hx).1
  rw [World.ownsRow.cellAt h.1 j (by omega), hx]
theorem RowsC.chg (h : RowsC w base v0 vs con) (hc : Chg S w w') (hS : ∀ b, S b → v0.ownBlock ≠ some b ∧ ∀ (j : Nat) (x : Value), vs[j]? = some x → x.ownBlock ≠ some b) : RowsC w' base v0 vs con :=
  ⟨ownsRow_chg h.1 hc fun b hb hs => (hS b hs).1 hb, h.2.1, fun j x hx => (h.2.2 j x hx).chg hc fun b hb hs => (hS b hs).2 j x hx hb⟩
theorem RowsC.c0 (h : RowsC w base v0 vs con) (hc : Chg Non w w') : RowsC w' base v0 vs con := h.chg hc fun _ h => h.elim
theorem RowsC.store (h : RowsC w base v0 vs con) {i B n c : Nat} (hx : vs[i]? = some (.slice (some ⟨B, 0, none⟩) n c)) (k : Nat) (b : UInt8) :
    RowsC (w.setCell ⟨B, k, none⟩ (.int .u8 (b.toNat : Int))) base v0 vs (fun j => if j = i then (con i).set k b else con j) := by
  have hc : Chg (fun x => x = B) w (w.setCell ⟨B, k, none⟩ (.int .u8 (b.toNat : Int))) := (Chg.refl (fun x => x = B) w).setCell (p := ⟨B, k, none⟩) (fun _ => rfl) _
  refine ⟨ownsRow_chg h.1 hc fun b hb hs => h.2.1.2 i _ b hx (by rw [hs]; rfl) hb, h.2.1, fun j x hxj => ?_⟩
  by_cases hji : j = i
  · subst hji
    rw [hx] at hxj
    injection hxj with hxj
    subst hxj
    show OwnB _ base _ (if j = j then (con j).set k b else con j)
    rw [if_pos rfl]
    exact (h.2.2 j _ hx).stored k b
  · show OwnB _ base _ (if j = i then (con i).set k b else con j)
    rw [if_neg hji]
    refine (h.2.2 j x hxj).chg hc fun b hb hs => ?_
    subst hs
    rcases Nat.lt_or_gt_of_ne hji with hlt | hgt
    · exact h.2.1.1 j i x _ b hlt hxj hx hb rfl
    · exact h.2.1.1 i j _ x b hgt hx hxj rfl hb
theorem RowsC.lt (h : RowsC w base v0 vs con) {j : Nat} {x : Value} (hx : vs[j]? = some x) : ∀ b, x.ownBlock = some b → base ≤ b ∧ b < w.heap.size := (h.2.2 j x hx).lt
theorem RowsC.sep (h : RowsC w base v0 vs con) {i j : Nat} {x y : Value} {b : Nat} (hx : vs[i]? = some x) (hy : vs[j]? = some y) (hb : x.ownBlock = some b) (hb' : y.ownBlock = some b) : i = j := by
  rcases Nat.lt_trichotomy i j with hlt | he | hgt
  · exact absurd hb' (h.2.1.1 i j x y b hlt hx hy hb)
  · exact he
  · exact absurd hb (h.2.1.1 j i y x b hgt hy hx hb')
theorem RowsC.ap {len : Nat → Nat} {i : Nat} {v : Value} (h : RowsC w base v0 vs (fun j => stL j (len j))) (ha : Ap i v w w') (hv : ∀ b, v.ownBlock = some b → v0.ownBlock ≠ some b ∧ ∀ (j : Nat) (x : Value), vs[j]? = some x → x.ownBlock = some b → j = i) : RowsC w' base v0 vs (fun j => stL j (len j)) :=
  ⟨ownsRow_chg h.1 ha.chg fun b hb hs => (hv b hs).1 hb, h.2.1, fun j x hx => (h.2.2 j x hx).ap ha fun b hb hvb => (hv b hvb).2 j x hx hb⟩
end

/-! ### grown lists -/
/-- xs stand in lv's cells: the i-th holds stamps, and lies in the block of its list among vs or from H on -/
def LongsC (w : World) (H : Nat) (vs : List Value) (Ls : Nat → Nat) (lv : Value) (xs : List Value) : Prop :=
  w.ownsRow H 26 1 lv xs.length xs ∧ ∀ i x, xs[i]? = some x → OwnB w 0 x (stL (i % vs.length) (Ls i)) ∧
    ∀ b, x.ownBlock = some b → lv.ownBlock ≠ some b ∧ ((∃ y, vs[i % vs.length]? = some y ∧ y.ownBlock = some b) ∨ H ≤ b)
section
variable {w w' : World} {S : Nat → Prop} {H : Nat} {vs xs : List Value} {Ls : Nat → Nat} {lv : Value}
theorem LongsC.nil_ (w : World) (H : Nat) (vs : List Value) (Ls : Nat → Nat) : LongsC w H vs Ls (.slice none 0 0) [] := ⟨World.ownsRow_nil w H _ 1, fun i x hx => by simp at hx⟩
theorem LongsC.chg (h : LongsC w H vs Ls lv xs) (hc : Chg S w w') (hS : ∀ b, S b → lv.ownBlock ≠ some b ∧ ∀ (i : Nat) (x : Value), xs[i]? = some x → x.ownBlock ≠ some b) : LongsC w' H vs Ls lv xs :=
  ⟨ownsRow_chg h.1 hc fun b hb hs => (hS b hs).1 hb, fun i x hx => ⟨(h.2 i x hx).1.chg hc fun b hb hs => (hS b hs).2 i x hx hb, (h.2 i x hx).2⟩⟩
theorem LongsC.c0 (h : LongsC w H vs Ls lv xs) (hc : Chg Non w w') : LongsC w' H vs Ls lv xs := h.chg hc fun _ h => h.elim
theorem LongsC.lt (h : LongsC w H vs Ls lv xs) : ∀ b, lv.ownBlock = some b → H ≤ b ∧ b < w.heap.size := World.ownsRow.lt h.1
theorem LongsC.ltx (h : LongsC w H vs Ls lv xs) {i : Nat} {x : Value} (hx : xs[i]? = some x) : ∀ b, x.ownBlock = some b → b < w.heap.size := fun b hb => ((h.2 i x hx).1.lt b hb).2
theorem LongsC.shape (h : LongsC w H vs Ls lv xs) : ∃ A c, lv = .slice A xs.length c ∧ xs.length ≤ c ∧ c ≤ maxLen := (RdV.of_own h.1).shape
theorem LongsC.head (h : LongsC w H vs Ls lv xs) (hn : 0 < xs.length) : ∃ g c, lv = .slice (some ⟨g, 0, none⟩) xs.length c ∧ H ≤ g ∧ g < w.heap.size := World.ownsRow.form h.1 hn
theorem LongsC.cell {g c : Nat} (h : LongsC w H vs Ls (.slice (some ⟨g, 0, none⟩) xs.length c) xs) {j : Nat} {x : Value} (hx : xs[j]? = some x) : w.cell? ⟨g, j, none⟩ = some x := by
  have hj := (List.getElem?_eq_some_iff.1 hx).1
  rw [World.ownsRow.cellAt h.1 j (by omega), hx]
/-- an append of stamps onto the i-th of vs -/
theorem LongsC.ap {i : Nat} {y : Value} (h : LongsC w H vs Ls lv xs) (ha : Ap i y w w') (hlt : ∀ b, y.ownBlock = some b → b < H) (hsep : ∀ (j : Nat) (x : Value) (b : Nat), vs[j]? = some x → x.ownBlock = some b → y.ownBlock = some b → j = i) : LongsC w' H vs Ls lv xs :=
  ⟨ownsRow_chg h.1 ha.chg fun b hb hs => by have := hlt b hs; have := (h.lt b hb).1; omega, fun k x hx => ⟨(h.2 k x hx).1.ap ha fun b hb hvb => by
    rcases ((h.2 k x hx).2 b hb).2 with ⟨z, hz, hzb⟩ | hH
    · exact hsep _ z b hz hzb hvb
    · have := hlt b hvb; omega, (h.2 k x hx).2⟩⟩
end

theorem append_long {w : World} {ops : Array Oper} {rest : List Oper} {o : Oper} {a : Act} {Q : Exit → Act → World → Prop} (hgd : o.guard = none) (s x : Operand)
    (ho : o.op = .call { callee := .builtin .append, args := #[s, x], argTypes := #[92, 92] })
    {H : Nat} {vs xs : List Value} {Ls : Nat → Nat} {lv : Value} (hL : LongsC w H vs Ls lv xs) (hv : a.eval s = lv)
    {u : Value} (hu : OwnB w 0 u (stL (xs.length % vs.length) (Ls xs.length))) (hub : ∀ b, u.ownBlock = some b → lv.ownBlock ≠ some b ∧ ((∃ y, vs[xs.length % vs.length]? = some y ∧ y.ownBlock = some b) ∨ H ≤ b))
    {g : Nat} (hg : Blk w g 26 #[u]) (hy : a.eval x = .slice (some ⟨g, 0, none⟩) 1 1)
    (hb : xs.length + 1 ≤ 1000000000000) (hbase : H ≤ w.heap.size)
    (h : ∀ v' w', LongsC w' H vs Ls v' (xs ++ [u]) → w.grownBy w' lv.ownBlock → (v'.ownBlock = lv.ownBlock ∨ v'.ownBlock = some w.heap.size) → wpList Try.prog ops Q rest (a.put o.dst v') w') : wpList Try.prog ops Q (o :: rest) a w := by
  obtain ⟨i, hi, hz, h1, h2⟩ := info_parts info_bb
  have hr : RdV w (fun _ => True) 1 (.slice (some ⟨g, 0, none⟩) 1 1) 1 [u] := ⟨rfl, _, 1, rfl, Nat.le_refl _, by simp [maxLen], fun _ => ⟨_, rfl, trivial, fun j y hyj => by
    rw [add_none, hg.cell]
    match j, hyj with
    | 0, hyj => simpa using hyj
    | j + 1, hyj => simp at hyj⟩⟩
  have h1c : ∀ y ∈ [u], y.oneCell' = true := fun y hy => by
    obtain ⟨A, c, rfl, _, _⟩ := hu.shape
    simp at hy; subst hy; rfl
  refine wpList_append_rd w hgd s x _ ho H 26 i _ 1 24 Try.underlying92 hi hz h1 h2 rfl (by omega) lv hv _ _ hL.1 _ _ hy _ _ hr h1c (by simp only [maxLen]; omega) (by omega) hbase ?_
  intro v' w' hown' hgr _ hat
  refine h v' w' ⟨by rw [List.length_append]; exact hown', fun k y hy => ?_⟩ hgr hat
  have hnew : ∀ (z : Value) (b : Nat), z.ownBlock = some b → b < w.heap.size → lv.ownBlock ≠ some b → v'.ownBlock ≠ some b := fun z b hz hlt hne e => by
    rcases hat with e' | e'
    · exact hne (e' ▸ e)
    · rw [e'] at e; injection e with e; omega
  rw [List.getElem?_append] at hy
  split at hy
  · have hk := hL.2 k y hy
    exact ⟨hk.1.chg (Chg.of_grown hgr) fun b hb e => (hk.2 b hb).1 e.symm, fun b hb => ⟨hnew y b hb (hk.1.lt b hb).2 (hk.2 b hb).1, (hk.2 b hb).2⟩⟩
  · rename_i hlt
    have e : k - xs.length = 0 := by
      have := (List.getElem?_eq_some_iff.1 hy).1
      simp at this; omega
    rw [e] at hy
    simp at hy
    subst hy
    obtain rfl : k = xs.length := by omega
    exact ⟨hu.chg (Chg.of_grown hgr) fun b hb e => (hub b hb).1 e.symm, fun b hb => ⟨hnew _ b hb (hu.lt b hb).2 (hub b hb).1, (hub b hb).2⟩⟩
end Go.Proofs.Ytncchbcoldgpbaa

namespace Go.Proofs.Ytncchbcoldgpbaa
open Go.RowKit

/-- the values own their bytes, no two of them in one block -/
def OwnCh (w : World) (lo : Nat) : List (Value × List UInt8) → Prop
  | [] => True
  | (x, l) :: r => OwnB w lo x l ∧ (∀ p ∈ r, ∀ b, x.ownBlock = some b → p.1.ownBlock ≠ some b) ∧ OwnCh w lo r
theorem OwnCh.nil_ (w : World) (lo : Nat) : OwnCh w lo [] := trivial
theorem OwnCh.own {w : World} {lo : Nat} : ∀ {r : List (Value × List UInt8)}, OwnCh w lo r → ∀ (k : Nat) (x : Value) (l : List UInt8), r[k]? = some (x, l) → OwnB w lo x l
  | [], _, k, x, l, h => by simp at h
  | (x0, l0) :: r, ⟨h0, _, hr⟩, 0, x, l, h => by
    simp at h
    obtain ⟨rfl, rfl⟩ := h
    exact h0
  | (x0, l0) :: r, ⟨h0, _, hr⟩, k + 1, x, l, h => hr.own k x l (by simpa using h)
theorem OwnCh.mem {w : World} {lo : Nat} {r : List (Value × List UInt8)} (h : OwnCh w lo r) {p : Value × List UInt8} (hp : p ∈ r) : OwnB w lo p.1 p.2 := by
  obtain ⟨k, hk, e⟩ := List.mem_iff_getElem.1 hp
  exact h.own k p.1 p.2 (by rw [List.getElem?_eq_getElem hk, e])
theorem OwnCh.low {w : World} {lo lo' : Nat} (hl : lo ≤ lo') : ∀ {r : List (Value × List UInt8)}, OwnCh w lo' r → OwnCh w lo r
  | [], _ => trivial
  | (x, l) :: r, ⟨h0, h1, hr⟩ => ⟨h0.low hl, h1, hr.low hl⟩
/-- the rest lies behind -/
theorem OwnCh.cons_ {w : World} {lo mid : Nat} {x : Value} {l : List UInt8} {r : List (Value × List UInt8)} (h : OwnB w lo x l) (hm : lo ≤ mid) (hx : ∀ b, x.ownBlock = some b → b < mid) (hr : OwnCh w mid r) : OwnCh w lo ((x, l) :: r) :=
  ⟨h, fun p hp b hb e => by have h1 := hx b hb; have h2 := ((hr.mem hp).lt b e).1; omega, hr.low hm⟩
/-- two that lie apart, the rest behind them -/
theorem OwnCh.cons2_ {w : World} {lo mid : Nat} {x y : Value} {l m : List UInt8} {r : List (Value × List UInt8)} (h : OwnB w lo x l) (h' : OwnB w lo y m) (hm : lo ≤ mid) (hx : ∀ b, x.ownBlock = some b → b < mid) (hy : ∀ b, y.ownBlock = some b → b < mid)
    (hxy : ∀ b, x.ownBlock = some b → y.ownBlock ≠ some b) (hr : OwnCh w mid r) : OwnCh w lo ((x, l) :: (y, m) :: r) :=
  ⟨h, fun p hp b hb e => by
    rcases List.mem_cons.1 hp with rfl | hp
    · exact hxy b hb e
    · have h1 := hx b hb; have h2 := ((hr.mem hp).lt b e).1; omega, OwnCh.cons_ h' hm hy hr⟩
theorem OwnCh.sep {w : World} {lo : Nat} : ∀ {r : List (Value × List UInt8)}, OwnCh w lo r → ∀ (i j : Nat) (x y : Value) (l m : List UInt8) (b : Nat), i < j → r[i]? = some (x, l) → r[j]? = some (y, m) → x.ownBlock = some b → y.ownBlock ≠ some b
  | [], _, i, j, x, y, l, m, b, _, h, _, _ => by simp at h
  | (x0, l0) :: r, ⟨h0, h1, hr⟩, 0, j + 1, x, y, l, m, b, _, hx, hy, hb => by
    simp at hx
    obtain ⟨rfl, rfl⟩ := hx
    exact h1 (y, m) (List.mem_of_getElem? (by simpa using hy)) b hb
  | (x0, l0) :: r, ⟨h0, h1, hr⟩, i + 1, j + 1, x, y, l, m, b, hij, hx, hy, hb =>
    hr.sep i j x y l m b (by omega) (by simpa using hx) (by simpa using hy) hb
theorem OwnsBB.lit {w : World} {base n : Nat} {r : List (Value × List UInt8)} (h : OwnCh w base r) (hbase : base ≤ w.heap.size) (hn : n = r.length) (hm : n ≤ maxLen) {cs : Array Value} (hcs : cs = (r.map (·.1)).toArray) {lls : List (List UInt8)} (hl : lls = r.map (·.2)) :
    OwnsBB (w.alloc (.cells cs 26)) base (.slice (some ⟨w.heap.size, 0, none⟩) n n) lls := by
  subst hcs; subst hl; subst hn
  have hget : ∀ (k : Nat) (x : Value), (r.map (·.1))[k]? = some x → ∃ l, r[k]? = some (x, l) := fun k x hx => by
    rw [List.getElem?_map] at hx
    obtain ⟨⟨x', l⟩, he, rfl⟩ := Option.map_eq_some_iff.1 hx
    exact ⟨l, he⟩
  refine ⟨r.map (·.1), by simp, ?_, ⟨fun i j x y b hij hx hy hb => ?_, fun i x b hx hb e => ?_⟩, fun k x l hx hl => ?_⟩
  · have h1 := World.ownsRow_lit (base := base) (e := 26) (size := 1) w (r.map (·.1)).toArray r.length hbase hm (by simp)
    simpa using h1
  · obtain ⟨l, hx⟩ := hget i x hx
    obtain ⟨m, hy⟩ := hget j y hy
    exact h.sep i j x y l m b hij hx hy hb
  · obtain ⟨l, hx⟩ := hget i x hx
    have h1 := ((h.own i x l hx).lt b hb).2
    injection e with e
    simp at e
    omega
  · obtain ⟨l', hx⟩ := hget k x hx
    rw [List.getElem?_map, hx] at hl
    simp at hl
    subst hl
    exact (h.own k x l' hx).al _
theorem RowsC.lit {w : World} {base n : Nat} {r : List (Value × List UInt8)} (h : OwnCh w base r) (hbase : base ≤ w.heap.size) (hn : n = r.length) (hm : n ≤ maxLen) {cs : Array Value} (hcs : cs = (r.map (·.1)).toArray) :
    RowsC (w.alloc (.cells cs 26)) base (.slice (some ⟨w.heap.size, 0, none⟩) n n) (r.map (·.1)) (fun j => ((r.map (·.2))[j]?).getD []) ∧ True := by
  subst hcs; subst hn
  have hget : ∀ (k : Nat) (x : Value), (r.map (·.1))[k]? = some x → ∃ l, r[k]? = some (x, l) := fun k x hx => by
    rw [List.getElem?_map] at hx
    obtain ⟨⟨x', l⟩, he, rfl⟩ := Option.map_eq_some_iff.1 hx
    exact ⟨l, he⟩
  refine ⟨⟨?_, ⟨fun i j x y b hij hx hy hb => ?_, fun i x b hx hb e => ?_⟩, fun k x hx => ?_⟩, trivial⟩
  · have h1 := World.ownsRow_lit (base := base) (e := 26) (size := 1) w (r.map (·.1)).toArray r.length hbase hm (by simp)
    simpa using h1
  · obtain ⟨l, hx⟩ := hget i x hx
    obtain ⟨m, hy⟩ := hget j y hy
    exact h.sep i j x y l m b hij hx hy hb
  · obtain ⟨l, hx⟩ := hget i x hx
    have h1 := ((h.own i x l hx).lt b hb).2
    injection e with e
    simp at e
    omega
  · obtain ⟨l', hx⟩ := hget k x hx
    show OwnB _ base x (((r.map (·.2))[k]?).getD [])
    rw [List.getElem?_map, hx]
    exact (h.own k x l' hx).al _
end Go.Proofs.Ytncchbcoldgpbaa

namespace Go.Proofs.Ytncchbcoldgpbaa
open Go.RowKit

def tintB (i : Nat) : UInt8 := UInt8.ofNat (81 + 7 * (i % 31))
def spareL (b : List UInt8) : List UInt8 := b ++ (List.range 33).map fun k => tintB (b.length + k)
theorem spareL_len (b : List UInt8) : (spareL b).length = b.length + 33 := by simp [spareL]
theorem spareL_tint (b : List UInt8) (k : Nat) (h : k < (spareL b).length) (hk : ¬ k < b.length) : (spareL b)[k] = tintB k := by
  have h2 := spareL_len b
  simp only [spareL]
  rw [List.getElem_append_right (by omega)]
  simp
  congr 1
  omega
theorem spareL_head (b : List UInt8) (k : Nat) (h : k < (spareL b).length) (hk : k < b.length) : (spareL b)[k] = b[k] := by
  simp only [spareL]
  rw [List.getElem_append_left hk]

theorem refTint {i : Nat} {w : World} (hi : i ≤ 2000000000000) :
    Calls Try.prog 38 #[.int .i64 (i : Int)] w fun e w' => e = .returned (.int .u8 ((tintB i).toNat : Int)) ∧ w' = w := by
  have HT := hide (show ((tintB i).toNat : Int) = (81 + 7 * ((i : Int) % 31)) % 256 by rw [tintB, UInt8.toNat_ofNat']; omega)
  go_enter Try.func38, Try.ntmps38
  go_wp2_with fail
  go_ret
  refine ⟨ret_int ?_, rfl⟩
  first
    | (rw [HT.out]; done)
    | (rw [HT.out]; omega)
theorem refStamp {i k : Nat} {w : World} (hi : i ≤ 2000000000000) (hk : k ≤ 2000000000000) :
    Calls Try.prog 51 #[.int .i64 (i : Int), .int .i64 (k : Int)] w fun e w' => e = .returned (.int .u8 ((stampB i k).toNat : Int)) ∧ w' = w := by
  have HT := hide (show ((stampB i k).toNat : Int) = (3 * (i : Int) + 11 * (k : Int) + 1) % 256 by rw [stampB, UInt8.toNat_ofNat']; omega)
  have hw1 : IntKind.i64.wrap (3 * (i : Int)) = 3 * (i : Int) := IntWalk.i64_in _ (by omega)
  have hw2 : IntKind.i64.wrap (11 * (k : Int)) = 11 * (k : Int) := IntWalk.i64_in _ (by omega)
  have hw3 : IntKind.i64.wrap (3 * (i : Int) + 11 * (k : Int)) = 3 * (i : Int) + 11 * (k : Int) := IntWalk.i64_in _ (by omega)
  have hw4 : IntKind.i64.wrap (3 * (i : Int) + 11 * (k : Int) + 1) = 3 * (i : Int) + 11 * (k : Int) + 1 := IntWalk.i64_in _ (by omega)
  go_enter Try.func51, Try.ntmps51
  go_wp2_with fail
  go_ret
  refine ⟨ret_int ?_, rfl⟩
  first
    | (rw [HT.out]; done)
    | (rw [HT.out]; omega)

theorem run_mkall (w : World) (n : Nat) (h : n ≤ 100000000000000) : (Instr.makeSlice 26 (.int .i64 (n : Int)) (.int .i64 (n : Int))).run Try.prog w = .ok (.slice (some ⟨w.heap.size, 0, none⟩) n n) (w.alloc (.cells (madeCells #[.int .u8 0] n) 5)) := by
  obtain ⟨i, hi, hz, h1, h2⟩ := info_parts info_u8
  have h := run_make (P := Try.prog) w 26 5 i _ Try.underlying26 hi hz .i64 .i64 n n (by omega) (Int.le_refl _) (by rw [h2]; omega) (by omega)
  rw [h1, Int.toNat_natCast, Nat.mul_one] at h
  exact h
theorem own_mkall (w : World) (n : Nat) (h : n ≤ 100000000000000) : OwnB (w.alloc (.cells (madeCells #[.int .u8 0] n) 5)) w.heap.size (.slice (some ⟨w.heap.size, 0, none⟩) n n) (List.replicate n 0) := by
  have h1 := World.ownsRow_lit (base := w.heap.size) (e := 5) (size := 1) w (madeCells #[.int .u8 0] n) n (Nat.le_refl _) (by simp only [maxLen]; omega) (by rw [size_madeCells]; omega)
  unfold OwnB
  rw [List.length_replicate]
  have e : (madeCells #[Value.int .u8 0] n).toList = bvs (List.replicate n 0) := by
    rw [toList_madeCells_one]
    simp [bvs, bv]
  rw [e] at h1
  exact h1
theorem take_set_succ {l m : List UInt8} {k : Nat} (hl : l.length = m.length) (hk : k < m.length) (h : l.take k = m.take k) : (l.set k m[k]).take (k + 1) = m.take (k + 1) := by
  rw [List.take_succ_eq_append_getElem (by rw [List.length_set]; omega), List.take_succ_eq_append_getElem hk, List.getElem_set_self, List.take_set, h]
  congr 1
  rw [List.set_eq_of_length_le (by rw [List.length_take]; omega)]

set_option maxRecDepth 100000 in
set_option maxHeartbeats 1000000 in
theorem refSpare {u : Value} {b : List UInt8} {F : Nat → Prop} {w : World} (hr : RdB w F u b) (hbl : b.length ≤ 1000000000000) :
    Calls Try.prog 14 #[u] w fun e w' => ∃ x v, e = .returned (.tuple #[x, v]) ∧ OwnB w' w.heap.size v (spareL b) ∧ RdB w' (fun k => v.ownBlock = some k) x b ∧ Chg Non w w' := by
  have hr0 := hr.lt
  have hlen8 := fun (w' : World) (ty : TypeId) => run_len8 hr w' ty
  obtain ⟨A, c, rfl, hcc, hcm⟩ := hr.shape
  unfold maxLen at hcm
  have hsl := spareL_len b
  obtain ⟨N, hN⟩ : ∃ N, N = b.length + 33 := ⟨_, rfl⟩
  have hNl : N ≤ 2000000000000 := by omega
  have hbN : b.length ≤ N := by omega
  have HSL := hide (show (spareL b).length = N by omega)
  have hw : IntKind.i64.wrap ((b.length : Int) + 33) = (N : Int) := by rw [IntWalk.i64_in _ (by omega)]; omega
  have hmk := fun (w' : World) => run_mkall w' N (by omega)
  have hown := own_mkall w N (by omega)
  have c1 := (Chg.refl Non w).alloc (.cells (madeCells #[.int .u8 0] N) 5)
  have hr1 := hr0.c0 c1
  clear hr hr0 hN hsl
  go_enter Try.func14, Try.ntmps14
  go_wp2_with fail
  generalize w.alloc (.cells (madeCells #[.int .u8 0] N) 5) = w1 at hown c1 hr1 ⊢
  obtain ⟨g, hg, hgw⟩ : ∃ g, g = w.heap.size ∧ w.heap.size ≤ g := ⟨_, rfl, Nat.le_refl _⟩
  have HG := hide hg
  rw [← hg] at hown ⊢
  clear hmk hw hg
  go_loopw [5] (fun iv wr => ∃ (k : Nat) (l : List UInt8), iv = .int .i64 (k : Int) ∧ k ≤ N ∧ OwnB wr g (.slice (some ⟨g, 0, none⟩) N N) l ∧ Hid (l.length = N ∧ l.take k = (spareL b).take k) ∧ RdB wr (fun k => F k ∧ k < w.heap.size) (.slice A b.length c) b ∧ Chg Non w wr) (fun iv _ => N - (intOf iv).toNat)
  case atStart => exact ⟨0, _, rfl, Nat.zero_le _, hown, hide ⟨by simp, by simp⟩, hr1, c1⟩
  case round =>
    clear hown c1 hr1
    obtain ⟨k, l, rfl, hk, hO, hl, hr, hcw⟩ := hrel
    by_cases h1 : k < N
    · have hkN : (k : Int) < (N : Int) := by omega
      have hk0 : (0 : Int) ≤ (k : Int) := by omega
      have htint := fun (w' : World) => refTint (i := k) (w := w') (by omega)
      have hll := hl.out.1
      have hfz := (hO.cell (i := k) (by omega)).2
      obtain ⟨cell0, hcell0⟩ : ∃ z, wr.cell? ⟨g, k, none⟩ = some z := ⟨_, (hO.cell (i := k) (by omega)).1⟩
      have hst := hO.stored k (tintB k)
      have hcst := hcw.setCell (p := ⟨g, k, none⟩) (fun hlt => by simp at hlt; omega) (.int .u8 ((tintB k).toNat : Int))
      have hrst := hr.chg ((Chg.refl (fun x => x = g) wr).setCell (p := ⟨g, k, none⟩) (fun _ => rfl) (.int .u8 ((tintB k).toNat : Int))) (fun x hx e => by have := hx.2; omega)
      by_cases h2 : k < b.length
      · have hd2 : decide ((k : Int) < (b.length : Int)) = true := decide_eq_true (by omega)
        have hkb : (k : Int) < (b.length : Int) := by omega
        have HN := hide (show ((l.set k (tintB k)).set k b[k]).length = N ∧ ((l.set k (tintB k)).set k b[k]).take (k + 1) = (spareL b).take (k + 1) by
          have hs := spareL_head b k (by have := HSL.out; omega) h2
          refine ⟨by rw [List.length_set, List.length_set]; exact hll, ?_⟩
          rw [List.set_set, ← hs]
          exact take_set_succ (by have := HSL.out; omega) (by have := HSL.out; omega) hl.out.2)
        obtain ⟨ad, rfl, hadF, hcb⟩ := hrst.at_ h2
        obtain ⟨y, hy⟩ : ∃ y, y = b[k] := ⟨_, rfl⟩
        rw [← hy] at hcb HN
        have hfz2 := (hst.cell (i := k) (by rw [List.length_set]; omega)).2
        have hll2 : (l.set k (tintB k)).length = N := by rw [List.length_set]; exact hll
        have hst2 := hst.stored k y
        have hcst2 := hcst.setCell (p := ⟨g, k, none⟩) (fun hlt => by simp at hlt; omega) (.int .u8 (y.toNat : Int))
        have hrst2 := hrst.chg ((Chg.refl (fun x => x = g) _).setCell (p := ⟨g, k, none⟩) (fun _ => rfl) (.int .u8 (y.toNat : Int))) (fun x hx e => by have := hx.2; omega)
        clear hll2
        clear hy hr hO hcw hl hll hst hcst hrst
        go_wp2_with fail
        refine (htint _).mono ?_
        rintro e w2 ⟨rfl, rfl⟩
        go_wp2_with fail
        go_round
        case rel => exact ⟨k + 1, _, by go_num, by omega, hst2, HN, hrst2, hcst2⟩
        case measure => simp [intOf]; omega
      · have hd2 : decide ((k : Int) < (b.length : Int)) = false := decide_eq_false (by omega)
        have HN := hide (show (l.set k (tintB k)).length = N ∧ (l.set k (tintB k)).take (k + 1) = (spareL b).take (k + 1) by
          have hs := spareL_tint b k (by have := HSL.out; omega) h2
          refine ⟨by rw [List.length_set]; exact hll, ?_⟩
          rw [← hs]
          exact take_set_succ (by have := HSL.out; omega) (by have := HSL.out; omega) hl.out.2)
        clear hr hO hcw hl hll
        go_wp2_with fail
        refine (htint _).mono ?_
        rintro e w2 ⟨rfl, rfl⟩
        go_wp2_with fail
        go_round
        case rel => exact ⟨k + 1, _, by go_num, by omega, hst, HN, hrst, hcst⟩
        case measure => simp [intOf]; omega
    · obtain rfl : k = N := by omega
      have hl2 := hl.out.2
      rw [List.take_of_length_le (by have := hl.out.1; omega), List.take_of_length_le (by have := HSL.out; omega)] at hl2
      rw [hl2] at hO
      obtain ⟨s1, hs1, hc1⟩ := run_cut_h hO.rd (j := b.length) (y := (b.length : Int)) rfl (by have := HSL.out; omega)
      rw [spareL, List.take_left] at hs1
      clear hl hl2 hr
      go_wp2_with fail
      go_ret2
      exact ⟨_, _, rfl, hO.low hgw, hs1, hcw⟩
end Go.Proofs.Ytncchbcoldgpbaa

namespace Go.Proofs.Ytncchbcoldgpbaa
open Go.RowKit

def midC (con : Nat → List UInt8) (i k j : Nat) : List UInt8 := if j < i then stL j (con j).length else if j = i then stL i k ++ (con j).drop k else con j
theorem midC_len (con : Nat → List UInt8) (i k : Nat) (hk : k ≤ (con i).length) : (midC con i k i).length = (con i).length := by
  rw [midC, if_neg (by omega), if_pos rfl, List.length_append, stL_len, List.length_drop]; omega
theorem midC_step (con : Nat → List UInt8) (i k : Nat) (hk : k < (con i).length) (j : Nat) : (if j = i then (midC con i k i).set k (stampB i k) else midC con i k j) = midC con i (k + 1) j := by
  by_cases hji : j = i
  · subst hji
    rw [if_pos rfl, midC, midC, if_neg (by omega), if_pos rfl, if_neg (by omega), if_pos rfl, stL_succ]
    rw [List.set_append_right _ _ (by rw [stL_len]; omega), stL_len, Nat.sub_self, List.drop_eq_getElem_cons hk, List.set_cons_zero, List.append_assoc]
    rfl
  · rw [if_neg hji, midC, midC]
    by_cases hlt : j < i
    · rw [if_pos hlt, if_pos hlt]
    · rw [if_neg hlt, if_neg hji, if_neg hlt, if_neg hji]
theorem midC_next (con : Nat → List UInt8) (i j : Nat) : midC con i (con i).length j = midC con (i + 1) 0 j := by
  rw [midC, midC]
  by_cases hlt : j < i
  · rw [if_pos hlt, if_pos (by omega)]
  · by_cases hji : j = i
    · subst hji
      rw [if_neg hlt, if_pos rfl, if_pos (by omega), List.drop_length, List.append_nil]
    · rw [if_neg hlt, if_neg hji, if_neg (by omega)]
      by_cases h2 : j = i + 1
      · rw [if_pos h2]; simp [stL]
      · rw [if_neg h2]
theorem midC_zero (con : Nat → List UInt8) (j : Nat) : con j = midC con 0 0 j := by
  rw [midC, if_neg (by omega)]
  by_cases h : j = 0
  · rw [if_pos h]; simp [stL]
  · rw [if_neg h]
theorem midC_end (con : Nat → List UInt8) (n j : Nat) (h : j < n) : midC con n 0 j = stL j (con j).length := by rw [midC, if_pos h]
theorem OwnB.slc {w : World} {base : Nat} {v : Value} {l : List UInt8} (h : OwnB w base v l) : ∃ A n c, v = .slice A n c := by
  obtain ⟨A, c, e, _⟩ := h.shape
  exact ⟨A, _, c, e⟩
theorem OwnB.form {w : World} {base : Nat} {v : Value} {l : List UInt8} {n : Nat} (h : OwnB w base v l) (hl : l.length = n) (hn : 0 < n) : ∃ g c, v = .slice (some ⟨g, 0, none⟩) n c ∧ base ≤ g ∧ g < w.heap.size := by
  subst hl
  exact World.ownsRow.form h hn
theorem run_lenn {w : World} {base n : Nat} {v : Value} {l : List UInt8} (h : OwnB w base v l) (hl : l.length = n) (w' : World) (ty : TypeId) : (Builtin.len_ #[26] ty #[v]).run Try.prog w' = .ok (.int .i64 (n : Int)) w' := by
  subst hl
  exact run_len8 h.rd w' ty

/-- what the third part's two appends hand on, one to the other -/
theorem apart3 {w w5 : World} {base H T i Li : Nat} {vs xs : List Value} {Ls : Nat → Nat} {lv x : Value} {GA : Option Addr} {GL gc : Nat} (t : TypeId)
    (hLo : LongsC w H vs Ls lv xs) (hx : vs[i]? = some x) (HVLT : Hid (∀ (j : Nat) (x : Value) (b : Nat), vs[j]? = some x → x.ownBlock = some b → base ≤ b ∧ b < H))
    (HSEP : Hid (∀ (j k : Nat) (x y : Value) (b : Nat), vs[j]? = some x → vs[k]? = some y → x.ownBlock = some b → y.ownBlock = some b → j = k))
    (HLT : Hid (∀ (b : Nat), lv.ownBlock = some b → H ≤ b ∧ b < T)) (hmod : xs.length % vs.length = i) (hLsi : Ls xs.length = Li + 33) (hHT : H ≤ T) (hTw : T < w.heap.size)
    (hG5 : OwnB w5 base (.slice GA GL gc) (stL i (Li + 33))) (hap5 : Ap i x w w5) (hat5 : (Value.slice GA GL gc).ownBlock = x.ownBlock ∨ (Value.slice GA GL gc).ownBlock = some w.heap.size) :
    LongsC (w5.alloc (.cells #[.slice GA GL gc] t)) H vs Ls lv xs ∧ OwnB (w5.alloc (.cells #[.slice GA GL gc] t)) 0 (.slice GA GL gc) (stL (xs.length % vs.length) (Ls xs.length)) ∧
      (∀ b, (Value.slice GA GL gc).ownBlock = some b → lv.ownBlock ≠ some b ∧ ((∃ y, vs[xs.length % vs.length]? = some y ∧ y.ownBlock = some b) ∨ H ≤ b)) ∧ H ≤ (w5.alloc (.cells #[.slice GA GL gc] t)).heap.size := by
  have hLo5 := hLo.ap hap5 (fun b hb => (HVLT.out i x b hx hb).2) fun j y b hy hyb hxb => HSEP.out j i y x b hy hx hyb hxb
  have hTw5 := Nat.lt_of_lt_of_le hTw hap5.chg.size
  have ca := (Chg.refl Non w5).alloc (.cells #[.slice GA GL gc] t)
  have hvb : ∀ b, (Value.slice GA GL gc).ownBlock = some b → x.ownBlock = some b ∨ T < b := fun b hb => by
    rcases hat5 with e | e
    · exact .inl (e ▸ hb)
    · rw [e] at hb; injection hb with hb; exact .inr (hb ▸ hTw)
  refine ⟨hLo5.c0 ca, ?_, fun b hb => ?_, by have := ca.size; omega⟩
  · rw [hLsi, hmod]
    exact (hG5.low (Nat.zero_le _)).chg ca fun _ _ h => h
  · rcases hvb b hb with h | h
    · exact ⟨fun e => by have := (HLT.out b e).1; have := (HVLT.out i x b hx h).2; omega, .inl ⟨x, by rw [hmod]; exact hx, h⟩⟩
    · exact ⟨fun e => by have := (HLT.out b e).2; omega, .inr (by omega)⟩

/-- the blocks of the lists -/
def VB (vs : List Value) : Nat → Prop := fun k => ∃ (j : Nat) (x : Value), vs[j]? = some x ∧ x.ownBlock = some k

set_option maxRecDepth 100000 in
set_option maxHeartbeats 4000000 in
theorem refApartC {w : World} {base : Nat} {v0 : Value} {vs : List Value} {con : Nat → List UInt8} (hR : RowsC w base v0 vs con) (hn : vs.length ≤ 1000) (hl : ∀ j, (con j).length ≤ 1000000000) (hbase : base ≤ w.heap.size) :
    Calls Try.prog 22 #[v0] w fun e w' => e = .returned (.bool true) ∧ Chg (VB vs) w w' := by
  obtain ⟨A, c, rfl, hcc, hcm⟩ := hR.shape
  unfold maxLen at hcm
  obtain ⟨n, hnv⟩ : ∃ n, n = vs.length := ⟨_, rfl⟩
  have hlen := hide hl
  have HNV := hide hnv
  rw [← hnv] at hn hcc hR ⊢
  clear hl hnv
  go_enter Try.func22, Try.ntmps22
  go_wp2_with fail
  -- stamped over
  go_loopw [4] (fun iv wr => ∃ (i : Nat), iv = .int .i64 (i : Int) ∧ i ≤ n ∧ RowsC wr base (.slice A n c) vs (midC con i 0) ∧ Chg (VB vs) w wr) (fun iv _ => n - (intOf iv).toNat)
  case atStart => exact ⟨0, rfl, Nat.zero_le _, (hR.con_eq fun j _ => midC_zero con j), Chg.refl _ _⟩
  case round =>
    clear hR
    obtain ⟨i, rfl, hi, hR, hcw⟩ := hrel
    by_cases h1 : i < n
    · have hki : (i : Int) < (n : Int) := by omega
      have hi0 : (0 : Int) ≤ (i : Int) := by omega
      obtain ⟨x, hx⟩ : ∃ x, vs[i]? = some x := ⟨_, List.getElem?_eq_getElem (by rw [← HNV.out]; exact h1)⟩
      obtain ⟨L, hL⟩ : ∃ L, L = (con i).length := ⟨_, rfl⟩
      have hLl : L ≤ 1000000000 := by rw [hL]; exact hlen.out i
      have HL := hide hL
      obtain ⟨g, c', he, hg1, hg2⟩ := hR.head (by rw [← HNV.out]; omega)
      injection he with he1 he2 he3
      subst he1
      clear he2 he3 hL
      go_wp2_with fail
      go_loopw [5] (fun kv wr2 => ∃ (k : Nat), kv = .int .i64 (k : Int) ∧ k ≤ L ∧ RowsC wr2 base (.slice (some ⟨g, 0, none⟩) n c) vs (midC con i k) ∧ Chg (VB vs) w wr2) (fun kv _ => L - (intOf kv).toNat)
      case atStart => exact ⟨0, rfl, Nat.zero_le _, hR, hcw⟩
      case round =>
        clear hR hcw
        obtain ⟨k, rfl, hk, hR, hcw⟩ := hrel
        have hcell : wr.cell? ⟨g, i, none⟩ = some x := by
          have h := hR
          rw [HNV.out] at h
          exact h.cell hx
        have hxo := hR.2.2 i x hx
        have hml := midC_len con i k (by rw [← HL.out]; exact hk)
        rw [← HL.out] at hml
        have hlx := run_lenn hxo hml
        by_cases h2 : k < L
        · have hkL : (k : Int) < (L : Int) := by omega
          have hk0 : (0 : Int) ≤ (k : Int) := by omega
          obtain ⟨B, cx, rfl, hB1, hB2⟩ := hxo.form hml (by omega)
          have hst := fun (w' : World) => refStamp (i := i) (k := k) (w := w') (by omega) (by omega)
          have hcl := hxo.cell (i := k) (by omega)
          obtain ⟨z, hz⟩ : ∃ z, wr.drew.cell? ⟨B, k, none⟩ = some z := ⟨_, hcl.1⟩
          have hzf : wr.drew.frozen? ⟨B, k, none⟩ = false := hcl.2
          have hR2 := (hR.c0 ((Chg.refl Non wr).drew)).store hx k (stampB i k)
          have hR3 := hR2.con_eq fun j _ => midC_step con i k (by rw [← HL.out]; exact h2) j
          have hcw3 := (hcw.drew).setCell (p := ⟨B, k, none⟩) (fun _ => ⟨i, _, hx, rfl⟩) (.int .u8 ((stampB i k).toNat : Int))
          clear hR hR2 hxo hml hcl hcw
          go_wp2_with fail
          go_still_tail 9, (by kernel_rfl)
          still_call (hst _)
          repeat still_step
          refine wpStill_nil ?_
          change wpList _ _ _ _ _ wr.drew
          generalize wr.drew = w2 at hz hzf hR3 hcw3 ⊢
          go_wp2_with fail
          go_round
          case rel => exact ⟨k + 1, by go_num, by omega, hR3, hcw3⟩
          case measure => simp [intOf]; omega
        · obtain rfl : k = L := by omega
          have hR3 := hR.con_eq (con' := midC con (i + 1) 0) fun j _ => by rw [HL.out]; exact midC_next con i j
          clear hR hxo hml
          go_wp2_with fail
          go_round
          case rel => exact ⟨i + 1, by go_num, by omega, hR3, hcw⟩
          case measure => simp [intOf]; omega
    · obtain rfl : n = i := by omega
      obtain ⟨len, hle⟩ : ∃ len : Nat → Nat, ∀ j, (con j).length = len j := ⟨fun j => (con j).length, fun _ => rfl⟩
      have hR0 := hR.con_eq (con' := fun j => stL j (len j)) fun j hj => by rw [← hle]; exact midC_end con _ j (by rw [HNV.out]; exact hj)
      have hlen2 := hide (fun j => by rw [← hle j]; exact hlen.out j : ∀ j, len j ≤ 1000000000)
      obtain ⟨Ls, hLs⟩ : ∃ Ls : Nat → Nat, ∀ i, Ls i = if i < n then len i + 9 else len (i - n) + 33 := ⟨fun i => if i < n then len i + 9 else len (i - n) + 33, fun _ => rfl⟩
      have HLS := hide hLs
      have hLb := hide (fun i => by rw [hLs i]; split <;> first | (have := hlen2.out i; omega) | (have := hlen2.out (i - n); omega) : ∀ i, Ls i ≤ 1000000033)
      obtain ⟨H, hH⟩ : ∃ H, H = wr.heap.size := ⟨_, rfl⟩
      have hvlt : ∀ (j : Nat) (x : Value) (b : Nat), vs[j]? = some x → x.ownBlock = some b → base ≤ b ∧ b < H := fun j x b hx hb => by rw [hH]; exact hR0.lt hx b hb
      have hv0lt : ∀ b, (Value.slice A n c).ownBlock = some b → b < H := fun b hb => by rw [hH]; exact (World.ownsRow.lt hR0.1 b hb).2
      have hwH : w.heap.size ≤ H := by rw [hH]; exact hcw.size
      have hbH : base ≤ H := by rw [hH]; exact Nat.le_trans hbase hcw.size
      have hsepv : ∀ (j k : Nat) (x y : Value) (b : Nat), vs[j]? = some x → vs[k]? = some y → x.ownBlock = some b → y.ownBlock = some b → j = k := fun j k x y b hx hy hb hb' => hR0.sep hx hy hb hb'
      have hsep0 : ∀ (j : Nat) (x : Value) (b : Nat), vs[j]? = some x → x.ownBlock = some b → (Value.slice A n c).ownBlock ≠ some b := fun j x b hx hb => hR0.2.1.2 j x b hx hb
      have HVLT := hide hvlt
      have HV0 := hide hv0lt
      have HSEP := hide hsepv
      have HSEP0 := hide hsep0
      have hHw : H ≤ wr.heap.size := Nat.le_of_eq hH
      clear hR hle hlen hLs hH hvlt hv0lt hsepv hsep0 hi h1
      go_wp2_with fail
      -- grown by nine each
      go_loopw [3, 6] (fun lv iv wr2 => ∃ (i : Nat) (xs : List Value), iv = .int .i64 (i : Int) ∧ i ≤ n ∧ xs.length = i ∧ RowsC wr2 base (.slice A n c) vs (fun j => stL j (len j)) ∧ LongsC wr2 H vs Ls lv xs ∧ Chg (VB vs) w wr2 ∧ H ≤ wr2.heap.size) (fun _ iv _ => n - (intOf iv).toNat)
      case atStart => exact ⟨0, [], rfl, Nat.zero_le _, rfl, hR0, LongsC.nil_ _ _ _ _, hcw, hHw⟩
      case round =>
        clear hR0 hcw hHw
        obtain ⟨i, xs, rfl, hi, hxs, hR, hLo, hcw, hHw⟩ := hrel
        by_cases h1 : i < n
        · have hki : (i : Int) < (n : Int) := by omega
          have hi0 : (0 : Int) ≤ (i : Int) := by omega
          obtain ⟨x, hx⟩ : ∃ x, vs[i]? = some x := ⟨_, List.getElem?_eq_getElem (by rw [← HNV.out]; exact h1)⟩
          obtain ⟨g, c', he, hg1, hg2⟩ := hR.head (by rw [← HNV.out]; omega)
          injection he with he1 he2 he3
          subst he1
          clear he2 he3
          have hcell : wr.cell? ⟨g, i, none⟩ = some x := by
            have h := hR
            rw [HNV.out] at h
            exact h.cell hx
          have hxo : OwnB wr base x (stL i (len i)) := hR.2.2 i x hx
          have hlx := run_lenn hxo (stL_len i (len i))
          obtain ⟨Z, hZ⟩ : ∃ Z, Z = wr.heap.size := ⟨_, rfl⟩
          have hHZ : H ≤ Z := by omega
          have hZw : Z ≤ wr.heap.size := by omega
          have HXL := hide (fun (j : Nat) (y : Value) (b : Nat) (hy : xs[j]? = some y) (hb : y.ownBlock = some b) => (show j < i ∧ b < Z ∧ ((∃ z, vs[j]? = some z ∧ z.ownBlock = some b) ∨ H ≤ b) by
            have hj := (List.getElem?_eq_some_iff.1 hy).1
            have h := (hLo.2 j y hy).2 b hb
            rw [← HNV.out, Nat.mod_eq_of_lt (by omega)] at h
            exact ⟨by omega, by rw [hZ]; exact hLo.ltx hy b hb, h.2⟩))
          have HLL := hide (fun (b : Nat) (hb : u3.ownBlock = some b) => (show H ≤ b ∧ b < Z by rw [hZ]; exact hLo.lt b hb))
          have hxo0 := hxo.low (b' := 0) (Nat.zero_le _)
          obtain ⟨Li, hLi⟩ : ∃ Li, Li = len i := ⟨_, rfl⟩
          have hLib : Li ≤ 1000000000 := by rw [hLi]; exact hlen2.out i
          have HLI := hide hLi
          rw [← hLi] at hlx hxo0
          clear hZ hLi hxo
          go_wp2_with fail
          go_loopw [7, 8] (fun gv kv wr3 => ∃ (k : Nat), kv = .int .i64 (k : Int) ∧ k ≤ 9 ∧ OwnB wr3 0 gv (stL i (Li + k)) ∧ Hid (∀ b, gv.ownBlock = some b → x.ownBlock = some b ∨ Z ≤ b) ∧ RowsC wr3 base (.slice (some ⟨g, 0, none⟩) n c) vs (fun j => stL j (len j)) ∧ LongsC wr3 H vs Ls u3 xs ∧ Chg (VB vs) w wr3 ∧ Z ≤ wr3.heap.size) (fun _ kv _ => 9 - (intOf kv).toNat)
          case atStart => exact ⟨0, rfl, Nat.zero_le _, hxo0, hide (fun b hb => .inl hb), hR, hLo, hcw, hZw⟩
          case round =>
            clear hR hLo hcw hcell hxo0 hZw
            obtain ⟨k, rfl, hk, hG, hGb, hR, hLo, hcw, hZw⟩ := hrel
            have hcell : wr.cell? ⟨g, i, none⟩ = some x := by
              have h := hR
              rw [HNV.out] at h
              exact h.cell hx
            by_cases h2 : k < 9
            · have hkd : decide ((k : Int) < 9) = true := decide_eq_true (by omega)
              have hwk : IntKind.i64.wrap ((Li : Int) + (k : Int)) = (((Li + k : Nat)) : Int) := by rw [IntWalk.i64_in _ (by omega)]; omega
              obtain ⟨m, hm⟩ : ∃ m, m = Li + k := ⟨_, rfl⟩
              rw [← hm] at hwk hG
              have hmb : m ≤ 2000000000 := by omega
              have hst := fun (w' : World) => refStamp (i := i) (k := m) (w := w') (by omega) (by omega)
              have hG2 := hG.al (.cells #[.int .u8 ((stampB i m).toNat : Int)] 5)
              have hlit := RdB.lit wr 5 (0, 0) #[.int .u8 ((stampB i m).toNat : Int)] (stT i m 1) 1 (by rw [stT_one]; rfl) (by rw [stT_len]) (by simp [maxLen])
              have hR2 := hR.c0 ((Chg.refl Non wr).alloc (.cells #[.int .u8 ((stampB i m).toNat : Int)] 5))
              have hLo2 := hLo.c0 ((Chg.refl Non wr).alloc (.cells #[.int .u8 ((stampB i m).toNat : Int)] 5))
              have hcw2 := hcw.alloc (.cells #[.int .u8 ((stampB i m).toNat : Int)] 5)
              have hZw2 : Z ≤ (wr.alloc (.cells #[.int .u8 ((stampB i m).toNat : Int)] 5)).heap.size := Nat.le_trans hZw ((Chg.refl Non wr).alloc _).size
              have hmlim : m + 1 ≤ 140737488355328 := by omega
              have HM := hide hm
              clear hG hR hLo hcw hm
              go_wp2_with fail
              refine (hst _).mono ?_
              rintro e w4 ⟨rfl, rfl⟩
              go_wp2_with (at_builtin; refine append_st rfl _ _ rfl hG2 rfl hlit rfl Nat.one_pos hmlim (Nat.zero_le _) ?_; intro v5 w5 hG5 hap5 hat5)
              have hb1 : ∀ b, u7.ownBlock = some b → (x.ownBlock = some b ∨ Z ≤ b) := hGb.out
              have hR5 := hR2.ap hap5 fun b hb => by
                rcases hb1 b hb with h | h
                · exact ⟨HSEP0.out i x b hx h, fun j y hy hyb => HSEP.out j i y x b hy hx hyb h⟩
                · exact ⟨fun e => by have := HV0.out b e; omega, fun j y hy hyb => by have := (HVLT.out j y b hy hyb).2; omega⟩
              have hLo5 := hLo2.chg hap5.chg fun b hb => by
                rcases hb1 b hb with h | h
                · have hbl := (HVLT.out i x b hx h).2
                  refine ⟨fun e => by have := (HLL.out b e).1; omega, fun j y hy hyb => ?_⟩
                  obtain ⟨h1', _, h3⟩ := HXL.out j y b hy hyb
                  rcases h3 with ⟨z, hz, hzb⟩ | h3
                  · have := HSEP.out j i z x b hz hx hzb h; omega
                  · omega
                · exact ⟨fun e => by have := (HLL.out b e).2; omega, fun j y hy hyb => by have := (HXL.out j y b hy hyb).2.1; omega⟩
              have hcw5 := hcw2.trans hap5.chg fun b hbw hb => by
                rcases hb1 b hb with h | h
                · exact ⟨i, x, hx, h⟩
                · omega
              have hGb5 : Hid (∀ b, v5.ownBlock = some b → x.ownBlock = some b ∨ Z ≤ b) := hide fun b hb => by
                rcases hat5 with e | e
                · exact hb1 b (e ▸ hb)
                · rw [e] at hb; injection hb with hb; exact .inr (hb ▸ hZw2)
              have hZw5 := Nat.le_trans hZw2 hap5.chg.size
              rw [HM.out, Nat.add_assoc] at hG5
              go_round
              case rel => exact ⟨k + 1, by go_num, by omega, hG5, hGb5, hR5, hLo5, hcw5, hZw5⟩
              case measure => simp [intOf]; omega
            · obtain rfl : k = 9 := by omega
              have hkd : decide (((9 : Nat) : Int) < 9) = false := rfl
              obtain ⟨GA, GL, gc, rfl⟩ : ∃ GA GL gc, u7 = .slice GA GL gc := by obtain ⟨A, c, e, _⟩ := hG.shape; exact ⟨A, _, c, e⟩
              have hG2 := hG.al (.cells #[.slice GA GL gc] 26)
              have hblk := Blk.new wr 26 #[.slice GA GL gc]
              have hR2 := hR.c0 ((Chg.refl Non wr).alloc (.cells #[.slice GA GL gc] 26))
              have hLo2 := hLo.c0 ((Chg.refl Non wr).alloc (.cells #[.slice GA GL gc] 26))
              have hcw2 := hcw.alloc (.cells #[.slice GA GL gc] 26)
              have hZw2 : Z ≤ (wr.alloc (.cells #[.slice GA GL gc] 26)).heap.size := Nat.le_trans hZw ((Chg.refl Non wr).alloc _).size
              have hmod : xs.length % vs.length = i := by rw [hxs, ← HNV.out]; exact Nat.mod_eq_of_lt h1
              have hLsi : Ls xs.length = Li + 9 := by rw [hxs, HLS.out, if_pos h1, HLI.out]
              rw [← hLsi, ← hmod] at hG2
              have hub : ∀ b, (Value.slice GA GL gc).ownBlock = some b → u3.ownBlock ≠ some b ∧ ((∃ y, vs[xs.length % vs.length]? = some y ∧ y.ownBlock = some b) ∨ H ≤ b) := fun b hb => by
                rcases hGb.out b hb with h | h
                · exact ⟨fun e => by have := (HLL.out b e).1; have := (HVLT.out i x b hx h).2; omega, .inl ⟨x, by rw [hmod]; exact hx, h⟩⟩
                · exact ⟨fun e => by have := (HLL.out b e).2; omega, .inr (by omega)⟩
              have hxl : xs.length + 1 ≤ 1000000000000 := by omega
              have hHw2 : H ≤ (wr.alloc (.cells #[.slice GA GL gc] 26)).heap.size := Nat.le_trans hHZ hZw2
              clear hG hR hLo hcw hmod hLsi
              go_wp2_with (at_builtin; refine append_long rfl _ _ rfl hLo2 rfl hG2 hub hblk rfl hxl hHw2 ?_; intro v5 w5 hLo5 hg5 hat5)
              have hR5 := hR2.chg (Chg.of_grown hg5) fun b hb => ⟨fun e => by have := HV0.out b e; have := (HLL.out b hb.symm).1; omega, fun j y hy hyb => by have := (HVLT.out j y b hy hyb).2; have := (HLL.out b hb.symm).1; omega⟩
              have hcw5 := hcw2.trans (Chg.of_grown hg5) fun b hbw hb => by have := (HLL.out b hb.symm).1; omega
              have hHw5 := Nat.le_trans hHw2 hg5.size
              go_round
              case rel => exact ⟨i + 1, _, by go_num, by omega, by rw [List.length_append, hxs]; rfl, hR5, hLo5, hcw5, hHw5⟩
              case measure => simp [intOf]; omega
        · obtain rfl : n = i := by omega
          clear h1 hi
          go_wp2_with fail
          -- and by a tail each
          go_loopw [3, 9] (fun lv iv wr2 => ∃ (i : Nat) (xs : List Value), iv = .int .i64 (i : Int) ∧ i ≤ n ∧ xs.length = n + i ∧ RowsC wr2 base (.slice A n c) vs (fun j => stL j (len j)) ∧ LongsC wr2 H vs Ls lv xs ∧ Chg (VB vs) w wr2 ∧ H ≤ wr2.heap.size) (fun _ iv _ => n - (intOf iv).toNat)
          case atStart => exact ⟨0, xs, rfl, Nat.zero_le _, hxs, hR, hLo, hcw, hHw⟩
          case round =>
            clear hR hLo hcw hHw hxs
            obtain ⟨i, xs, rfl, hi, hxs, hR, hLo, hcw, hHw⟩ := hrel
            by_cases h1 : i < n
            · have hki : (i : Int) < (n : Int) := by omega
              have hi0 : (0 : Int) ≤ (i : Int) := by omega
              obtain ⟨x, hx⟩ : ∃ x, vs[i]? = some x := ⟨_, List.getElem?_eq_getElem (by rw [← HNV.out]; exact h1)⟩
              obtain ⟨g, c', he, hg1, hg2⟩ := hR.head (by rw [← HNV.out]; omega)
              injection he with he1 he2 he3
              subst he1
              clear he2 he3
              have hxo : OwnB wr base x (stL i (len i)) := hR.2.2 i x hx
              have hlx := run_lenn hxo (stL_len i (len i))
              obtain ⟨T, hT⟩ : ∃ T, T = wr.heap.size := ⟨_, rfl⟩
              have hHT : H ≤ T := by omega
              have HXT := hide (fun (j : Nat) (y : Value) (b : Nat) (hy : xs[j]? = some y) (hb : y.ownBlock = some b) => (show b < T by rw [hT]; exact hLo.ltx hy b hb))
              have HLT := hide (fun (b : Nat) (hb : u3.ownBlock = some b) => (show H ≤ b ∧ b < T by rw [hT]; exact hLo.lt b hb))
              obtain ⟨Li, hLi⟩ : ∃ Li, Li = len i := ⟨_, rfl⟩
              have hLib : Li ≤ 1000000000 := by rw [hLi]; exact hlen2.out i
              have HLI := hide hLi
              rw [← hLi] at hlx
              have hmk := fun (w' : World) => run_mkall w' 33 (by omega)
              have hTo := own_mkall wr 33 (by omega)
              have hR2 := hR.c0 ((Chg.refl Non wr).alloc (.cells (madeCells #[.int .u8 0] 33) 5))
              have hLo2 := hLo.c0 ((Chg.refl Non wr).alloc (.cells (madeCells #[.int .u8 0] 33) 5))
              have hcw2 := hcw.alloc (.cells (madeCells #[.int .u8 0] 33) 5)
              have hTw2 : T < (wr.alloc (.cells (madeCells #[.int .u8 0] 33) 5)).heap.size := by rw [hT]; simp
              clear hLi hxo hR hLo hcw
              simp only [show ((33 : Nat) : Int) = 33 from rfl] at hmk
              go_wp2_with fail
              generalize wr.alloc (.cells (madeCells #[.int .u8 0] 33) 5) = w4 at hTo hR2 hLo2 hcw2 hTw2 ⊢
              rw [← hT] at hTo ⊢
              clear hT
              go_loopw [11] (fun kv wr3 => ∃ (k : Nat) (t : List UInt8), kv = .int .i64 (k : Int) ∧ k ≤ 33 ∧ OwnB wr3 T (.slice (some ⟨T, 0, none⟩) 33 33) t ∧ Hid (t.length = 33 ∧ t.take k = (stT i Li 33).take k) ∧ RowsC wr3 base (.slice (some ⟨g, 0, none⟩) n c) vs (fun j => stL j (len j)) ∧ LongsC wr3 H vs Ls u3 xs ∧ Chg (VB vs) w wr3 ∧ T < wr3.heap.size) (fun kv _ => 33 - (intOf kv).toNat)
              case atStart => exact ⟨0, _, rfl, Nat.zero_le _, hTo, hide ⟨by simp, by simp⟩, hR2, hLo2, hcw2, hTw2⟩
              case round =>
                clear hTo hR2 hLo2 hcw2 hTw2 hmk
                obtain ⟨k, t, rfl, hk, hTo, ht, hR, hLo, hcw, hTw⟩ := hrel
                have hcell : wr.cell? ⟨g, i, none⟩ = some x := by
                  have h := hR
                  rw [HNV.out] at h
                  exact h.cell hx
                by_cases h2 : k < 33
                · have hkd : decide ((k : Int) < 33) = true := decide_eq_true (by omega)
                  have hk0 : (0 : Int) ≤ (k : Int) := by omega
                  have hk33 : (k : Int) < 33 := by omega
                  have hwk : IntKind.i64.wrap ((Li : Int) + (k : Int)) = (((Li + k : Nat)) : Int) := by rw [IntWalk.i64_in _ (by omega)]; omega
                  obtain ⟨m, hm⟩ : ∃ m, m = Li + k := ⟨_, rfl⟩
                  rw [← hm] at hwk
                  have hmb : m ≤ 2000000000 := by omega
                  have hst := fun (w' : World) => refStamp (i := i) (k := m) (w := w') (by omega) (by omega)
                  have hcl := hTo.cell (i := k) (by rw [ht.out.1]; exact h2)
                  obtain ⟨z, hz⟩ : ∃ z, wr.cell? ⟨T, k, none⟩ = some z := ⟨_, hcl.1⟩
                  have hzf := hcl.2
                  have hc5 : Chg (fun x => x = T) wr (wr.setCell ⟨T, k, none⟩ (.int .u8 ((stampB i m).toNat : Int))) := (Chg.refl (fun x => x = T) wr).setCell (p := ⟨T, k, none⟩) (fun _ => rfl) _
                  have hTo5 := hTo.stored k (stampB i m)
                  have hR5 := hR.chg hc5 fun b hb => ⟨fun e => by have := HV0.out b e; omega, fun j y hy hyb => by have := (HVLT.out j y b hy hyb).2; omega⟩
                  have hLo5 := hLo.chg hc5 fun b hb => ⟨fun e => by have := (HLT.out b e).2; omega, fun j y hy hyb => by have := HXT.out j y b hy hyb; omega⟩
                  have hcw5 := hcw.setCell (p := ⟨T, k, none⟩) (fun hlt => by have hlt2 : T < w.heap.size := hlt; omega) (.int .u8 ((stampB i m).toNat : Int))
                  have hTw5 : T < (wr.setCell ⟨T, k, none⟩ (.int .u8 ((stampB i m).toNat : Int))).heap.size := Nat.lt_of_lt_of_le hTw hc5.size
                  have ht5 := hide (show (t.set k (stampB i m)).length = 33 ∧ (t.set k (stampB i m)).take (k + 1) = (stT i Li 33).take (k + 1) by
                    refine ⟨by rw [List.length_set]; exact ht.out.1, ?_⟩
                    have hg : (stT i Li 33)[k]'(by rw [stT_len]; exact h2) = stampB i m := by
                      have h := stT_get i Li 33 k h2
                      rw [List.getElem?_eq_getElem (by rw [stT_len]; exact h2)] at h
                      injection h with h
                      rw [h, hm]
                    rw [← hg]
                    exact take_set_succ (by rw [ht.out.1, stT_len]) (by rw [stT_len]; exact h2) ht.out.2)
                  clear hm hTo hR hLo hcw hcl hc5 ht
                  go_wp2_with fail
                  refine (hst _).mono ?_
                  rintro e w5 ⟨rfl, rfl⟩
                  go_wp2_with fail
                  go_round
                  case rel => exact ⟨k + 1, _, by go_num, by omega, hTo5, ht5, hR5, hLo5, hcw5, hTw5⟩
                  case measure => simp [intOf]; omega
                · obtain rfl : k = 33 := by omega
                  have hkd : decide (((33 : Nat) : Int) < 33) = false := rfl
                  have hte := ht.out.2
                  rw [List.take_of_length_le (by have := ht.out.1; omega), List.take_of_length_le (by rw [stT_len]; omega)] at hte
                  rw [hte] at hTo
                  have hxo : OwnB wr base x (stL i Li) := by rw [HLI.out]; exact hR.2.2 i x hx
                  have hLim : Li + 33 ≤ 140737488355328 := by omega
                  have hbw : base ≤ wr.heap.size := by omega
                  have h033 : 0 < 33 := by omega
                  have hmod : xs.length % vs.length = i := by rw [hxs, ← HNV.out, Nat.add_mod_left]; exact Nat.mod_eq_of_lt h1
                  have hLsi : Ls xs.length = Li + 33 := by rw [hxs, HLS.out, if_neg (by omega), Nat.add_sub_cancel_left, HLI.out]
                  have hxl : xs.length + 1 ≤ 1000000000000 := by omega
                  have HMOD := hide hmod
                  have HLSI := hide hLsi
                  clear hte ht hmod hLsi
                  go_wp2_with (first
                    | (at_builtin; refine append_st rfl _ _ rfl hxo rfl hTo.rd rfl h033 hLim hbw ?_; intro v5 w5 hG5 hap5 hat5; obtain ⟨GA, GL, gc, hv5⟩ := OwnB.slc hG5; subst hv5; obtain ⟨hLo6, hG6, hub, hHw6⟩ := apart3 26 hLo hx HVLT HSEP HLT HMOD.out HLSI.out hHT hTw hG5 hap5 hat5)
                    | (at_builtin; refine append_long rfl _ _ rfl hLo6 rfl hG6 hub (Blk.new _ _ _) rfl hxl hHw6 ?_; intro v7 w7 hLo7 hg7 hat7))
                  have hR5 := hR.ap hap5 fun b hb => ⟨HSEP0.out i x b hx hb, fun j y hy hyb => HSEP.out j i y x b hy hx hyb hb⟩
                  have hcw5 := hcw.trans hap5.chg fun b _ hb => ⟨i, x, hx, hb⟩
                  have hR6 := hR5.c0 ((Chg.refl Non w5).alloc (.cells #[.slice GA GL gc] 26))
                  have hcw6 := hcw5.alloc (.cells #[.slice GA GL gc] 26)
                  have hR7 := hR6.chg (Chg.of_grown hg7) fun b hb => ⟨fun e => by have := HV0.out b e; have := (HLT.out b hb.symm).1; omega, fun j y hy hyb => by have := (HVLT.out j y b hy hyb).2; have := (HLT.out b hb.symm).1; omega⟩
                  have hcw7 := hcw6.trans (Chg.of_grown hg7) fun b hbw hb => by have := (HLT.out b hb.symm).1; omega
                  have hHw7 := Nat.le_trans hHw6 hg7.size
                  go_round
                  case rel => exact ⟨i + 1, _, by go_num, by omega, by rw [List.length_append, hxs]; rfl, hR7, hLo7, hcw7, hHw7⟩
                  case measure => simp [intOf]; omega
            · obtain rfl : n = i := by omega
              clear h1 hi hR HV0 HSEP HSEP0 HVLT hlen2
              obtain ⟨A3, c3, rfl, hc3, hm3⟩ := hLo.shape
              unfold maxLen at hm3
              obtain ⟨M, hM⟩ : ∃ M, M = xs.length := ⟨_, rfl⟩
              have HM := hide hM
              rw [← hM] at hc3 hLo hxs ⊢
              have hM2 : M ≤ 2000 := by omega
              clear hM hHw
              generalize wr = wE at hLo hcw ⊢
              go_wp2_with fail
              -- all as they were stamped
              go_loopw [12] (fun iv wr4 => ∃ (i : Nat), iv = .int .i64 (i : Int) ∧ i ≤ M ∧ Quiet wE wr4) (fun iv _ => M - (intOf iv).toNat)
              case atStart => exact ⟨0, rfl, Nat.zero_le _, Quiet.refl _⟩
              case round =>
                obtain ⟨i, rfl, hi, hq⟩ := hrel
                by_cases h1 : i < M
                · have hki : (i : Int) < (M : Int) := by omega
                  have hi0 : (0 : Int) ≤ (i : Int) := by omega
                  obtain ⟨y, hy⟩ : ∃ y, xs[i]? = some y := ⟨_, List.getElem?_eq_getElem (by rw [← HM.out]; exact h1)⟩
                  obtain ⟨g3, c3', he, _, _⟩ := hLo.head (by rw [← HM.out]; omega)
                  injection he with he1 he2 he3
                  subst he1
                  clear he2 he3
                  obtain ⟨K, hK⟩ : ∃ K, K = Ls i := ⟨_, rfl⟩
                  have hyo := (hLo.2 i y hy).1
                  rw [← hK, ← HNV.out] at hyo
                  have hly := run_lenn hyo (stL_len _ K)
                  have hKb : K ≤ 2000000000 := by
                    have h := hLb.out i
                    omega
                  obtain ⟨r, hr⟩ : ∃ r, r = i % n := ⟨_, rfl⟩
                  rw [← hr] at hyo
                  have hrem : Int.tmod (i : Int) (n : Int) = (r : Int) := by rw [hr]; rfl
                  have hn0 : ((n : Int) == 0) = false := beq_eq_false_iff_ne.2 (by omega)
                  have hrb : r ≤ 2000 := by rw [hr]; have := Nat.mod_le i n; omega
                  have hcell : ∀ w', Quiet wE w' → w'.cell? ⟨g3, i, none⟩ = some y := fun w' h => by
                    have h2 := hLo
                    rw [HM.out] at h2
                    exact ((Chg.refl Non wE).quiet h).cell (h2.cell hy) id
                  have HCELL := hide hcell
                  clear hK hr hcell
                  have hc0 := HCELL.out _ hq
                  go_wp2_with fail
                  go_loopw [13] (fun kv wr5 => ∃ (k : Nat), kv = .int .i64 (k : Int) ∧ k ≤ K ∧ Quiet wE wr5) (fun kv _ => K - (intOf kv).toNat)
                  case atStart => exact ⟨0, rfl, Nat.zero_le _, hq⟩
                  case round =>
                    clear hq hc0
                    obtain ⟨k, rfl, hk, hq⟩ := hrel
                    have hc0 := HCELL.out _ hq
                    by_cases h2 : k < K
                    · have hkK : (k : Int) < (K : Int) := by omega
                      have hk0 : (0 : Int) ≤ (k : Int) := by omega
                      obtain ⟨B, cy, rfl, _, _⟩ := hyo.form (stL_len _ K) (by omega)
                      have hcl := (hyo.cell (i := k) (by rw [stL_len]; exact h2)).1
                      rw [stL_get] at hcl
                      have hcl2 := ((Chg.refl Non wE).quiet hq).cell hcl id
                      have hst := fun (w' : World) => (refStamp (i := r) (k := k) (w := w') (by omega) (by omega)).mono fun e w'' h => (⟨h.1, 0, h.2⟩ : e = .returned (.int .u8 ((stampB r k).toNat : Int)) ∧ ∃ q, w'' = w'.drewN q)
                      clear hcl
                      go_wp2_with fail
                      go_quiet ((go_at_call 51; exact Calls.quiet_of (hst _)))
                      go_wp2_with fail
                      go_roundw
                      case rel => exact ⟨k + 1, by go_num, by omega, hq.dn _⟩
                      case measure => simp [intOf]; omega
                    · obtain rfl : K = k := by omega
                      go_wp2_with fail
                      go_round
                      case rel => exact ⟨i + 1, by go_num, by omega, hq⟩
                      case measure => simp [intOf]; omega
                · go_wp2_with fail
                  go_ret
                  exact ⟨rfl, hcw.quiet hq⟩
/-- the same for lists of the call's own -/
theorem refApart {w : World} {base : Nat} {v0 : Value} {ll : List (List UInt8)} (h : OwnsBB w base v0 ll) (hn : ll.length ≤ 1000) (hl : ∀ l ∈ ll, l.length ≤ 1000000000) (hbase : base ≤ w.heap.size) :
    Calls Try.prog 22 #[v0] w fun e w' => e = .returned (.bool true) ∧ Chg (fun k => base ≤ k) w w' := by
  obtain ⟨vs, hv, hR⟩ := RowsC.of h
  refine (refApartC hR (by omega) (fun j => ?_) hbase).mono fun e w' h => ⟨h.1, h.2.mono fun k _ hk => ?_⟩
  · rcases Nat.lt_or_ge j ll.length with hj | hj
    · rw [List.getElem?_eq_getElem hj]
      exact hl _ (List.getElem_mem hj)
    · rw [List.getElem?_eq_none hj]
      exact Nat.zero_le _
  · obtain ⟨j, x, hx, hb⟩ := hk
    exact (hR.lt hx k hb).1
/-- the same for a literal: just the blocks of the lists named are written -/
theorem refApartL {w : World} {base n : Nat} {r : List (Value × List UInt8)} (h : OwnCh w base r) (hbase : base ≤ w.heap.size) (hn : n = r.length) (hm : n ≤ 1000) {cs : Array Value} (hcs : cs = (r.map (·.1)).toArray) (hl : ∀ l ∈ r, l.2.length ≤ 1000000000) :
    Calls Try.prog 22 #[.slice (some ⟨w.heap.size, 0, none⟩) n n] (w.alloc (.cells cs 26)) fun e w' => e = .returned (.bool true) ∧ Chg (fun k => ∃ p ∈ r, p.1.ownBlock = some k) (w.alloc (.cells cs 26)) w' := by
  obtain ⟨h1, h2⟩ := RowsC.lit h hbase hn (by simp only [maxLen]; omega) hcs
  have hlen : (r.map (·.1)).length ≤ 1000 := by rw [List.length_map]; omega
  refine (refApartC h1 hlen (fun j => ?_) (Nat.le_trans hbase ((Chg.refl Non w).alloc _).size)).mono fun e w' h => ⟨h.1, h.2.mono fun k _ hk => ?_⟩
  · rcases Nat.lt_or_ge j r.length with hj | hj
    · rw [List.getElem?_map, List.getElem?_eq_getElem hj]
      exact hl _ (List.getElem_mem hj)
    · rw [List.getElem?_map, List.getElem?_eq_none hj]
      exact Nat.zero_le _
  · obtain ⟨j, x, hx, hb⟩ := hk
    rw [List.getElem?_map] at hx
    obtain ⟨p, hp, rfl⟩ := Option.map_eq_some_iff.1 hx
    exact ⟨p, List.mem_of_getElem? hp, hb⟩
end Go.Proofs.Ytncchbcoldgpbaa

namespace Go.Proofs.Ytncchbcoldgpbaa
open Go.RowKit

set_option maxRecDepth 100000 in
set_option maxHeartbeats 1000000 in
theorem refKept {v u : Value} {b : List UInt8} {F G : Nat → Prop} {w : World} (hv : RdB w F v (spareL b)) (hu : RdB w G u b) (hbl : b.length ≤ 1000000000000) :
    Calls Try.prog 19 #[v, u] w fun e w' => e = .returned (.bool true) ∧ ∃ k, w' = w.drewN k := by
  have hsl := spareL_len b
  obtain ⟨A, c, rfl, hcc, hcm⟩ := hv.shape
  obtain ⟨B, d, rfl, hdc, hdm⟩ := hu.shape
  unfold maxLen at hcm hdm
  have HSL := hide hsl
  have HLT := fun (k : Nat) (h : k < (spareL b).length) (hk : ¬ k < b.length) => hide (spareL_tint b k h hk)
  have HLH := fun (k : Nat) (h : k < (spareL b).length) (hk : k < b.length) => hide (spareL_head b k h hk)
  have HT2 := hide HLT
  have HH2 := hide HLH
  clear HLT HLH
  obtain ⟨s, hs⟩ : ∃ s, s = spareL b := ⟨_, rfl⟩
  rw [← hs] at hv hcc hsl ⊢
  have HS := hide hs
  have hw : IntKind.i64.wrap ((b.length : Int) + 33) = (s.length : Int) := by rw [IntWalk.i64_in _ (by omega)]; omega
  have hsl2 := hide hsl
  have hsb : s.length ≤ 2000000000000 := by omega
  clear hs hsl
  go_enter Try.func19, Try.ntmps19
  go_wp2_with fail
  go_loopw [5] (fun iv wr => ∃ (k : Nat), k ≤ s.length ∧ iv = .int .i64 k ∧ Quiet w wr) (fun iv _ => s.length - (intOf iv).toNat)
  case atStart => exact ⟨0, Nat.zero_le _, rfl, ⟨0, rfl⟩⟩
  case round =>
    obtain ⟨k, hk, rfl, hq⟩ := hrel
    by_cases h1 : k < s.length
    · obtain ⟨ad, rfl, _, hc1⟩ := (hq.rdb hv).at_ h1
      have hk1 : (k : Int) < (s.length : Int) := by omega
      have hk0 : (0 : Int) ≤ (k : Int) := by omega
      have htint := fun (w' : World) => (refTint (i := k) (w := w') (by omega)).mono fun e w'' h => (⟨h.1, 0, h.2⟩ : e = .returned (.int .u8 ((tintB k).toNat : Int)) ∧ ∃ q, w'' = w'.drewN q)
      by_cases h2 : k < b.length
      · obtain ⟨bd, rfl, _, hc2⟩ := (hq.rdb hu).at_ h2
        have he : s[k] = b[k] := by
          have h := (HH2.out k (by rw [← HS.out]; exact h1) h2).out
          simp only [← HS.out] at h
          exact h
        obtain ⟨y, hy⟩ : ∃ y, y = b[k] := ⟨_, rfl⟩
        rw [he, ← hy] at hc1
        rw [← hy] at hc2
        have hk2 : (k : Int) < (b.length : Int) := by omega
        have hd2 : decide ((k : Int) < (b.length : Int)) = true := decide_eq_true hk2
        have hd3 : decide ((b.length : Int) ≤ (k : Int)) = false := decide_eq_false (by omega)
        have hd3n : ¬ b.length ≤ k := by omega
        clear he hy hw
        go_wp2_with fail
        go_quiet ((go_at_call 38; exact Calls.quiet_of (htint _)))
        go_wp2_with fail
        go_roundw
        case rel => exact ⟨k + 1, by omega, by go_num, hq.dn _⟩
        case measure => simp [intOf]; omega
      · have he : s[k] = tintB k := by
          have h := (HT2.out k (by rw [← HS.out]; exact h1) h2).out
          simp only [← HS.out] at h
          exact h
        rw [he] at hc1
        have hd2 : decide ((k : Int) < (b.length : Int)) = false := decide_eq_false (by omega)
        have hd3 : decide ((b.length : Int) ≤ (k : Int)) = true := decide_eq_true (by omega)
        have hd3n : b.length ≤ k := by omega
        clear he hw
        go_wp2_with fail
        go_quiet ((go_at_call 38; exact Calls.quiet_of (htint _)))
        go_wp2_with fail
        go_roundw
        case rel => exact ⟨k + 1, by omega, by go_num, hq.dn _⟩
        case measure => simp [intOf]; omega
    · go_wp2_with fail
      go_ret
      exact ⟨rfl, hq⟩
end Go.Proofs.Ytncchbcoldgpbaa
