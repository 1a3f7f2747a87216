/- Memory laws for the walk of groyneref01.Apart: appends of stamps onto lists that share blocks. Plain theorems. -/
import Derived.Test.YtlklcdjhlpadiaaBB
import Derived.Test.YtlklcdjhlpadiaaSlc
namespace Go.Proofs.Ytlklcdjhlpadiaa
open Go.RowKit

def stampB (i k : Nat) : UInt8 := UInt8.ofNat (3 * i + 11 * k + 1)
def stL (i n : Nat) : List UInt8 := (List.range n).map (stampB i)
def stT (i n m : Nat) : List UInt8 := (List.range m).map fun k => stampB i (n + k)
theorem stL_len (i n : Nat) : (stL i n).length = n := by simp [stL]
theorem stT_len (i n m : Nat) : (stT i n m).length = m := by simp [stT]
theorem stL_get (i n k : Nat) (h : k < (stL i n).length) : (stL i n)[k] = stampB i k := by simp [stL]
theorem stT_get (i n m k : Nat) (h : k < m) : (stT i n m)[k]? = some (stampB i (n + k)) := by simp [stT, h]
theorem stL_succ (i n : Nat) : stL i (n + 1) = stL i n ++ [stampB i n] := by simp [stL, List.range_succ]
theorem stT_succ (i n m : Nat) : stT i n (m + 1) = stT i n m ++ [stampB i (n + m)] := by simp [stT, List.range_succ]
theorem stT_one (i n : Nat) : stT i n 1 = [stampB i n] := by simp [stT, List.range_succ]
theorem stL_add (i n : Nat) : ∀ m, stL i (n + m) = stL i n ++ stT i n m
  | 0 => by simp [stT]
  | m + 1 => by rw [← Nat.add_assoc, stL_succ, stL_add i n m, stT_succ, List.append_assoc]
theorem bvs_stL (i n k : Nat) (h : k < n) : (bvs (stL i n))[k]? = some (bv (stampB i k)) := by simp [bvs, stL, h]

/-- how w' came of w by an append of stamps in block b -/
def SC (j b : Nat) (w w' : World) : Prop :=
  Chg (fun k => k = b) w w' ∧ ∃ cur cur' : Array Value, w.heap[b]? = some (.cells cur 5 (0, 0)) ∧ w'.heap[b]? = some (.cells cur' 5 (0, 0)) ∧ cur'.size = cur.size ∧
    ∀ k, cur[k]? = some (bv (stampB j k)) → cur'[k]? = some (bv (stampB j k))
/-- an append of stamps onto v: in its own block, or in new memory -/
def Ap (i : Nat) (v : Value) (w w' : World) : Prop := (∃ b, v.ownBlock = some b ∧ SC i b w w') ∨ Chg Non w w'
theorem Ap.chg {i : Nat} {v : Value} {w w' : World} (h : Ap i v w w') : Chg (fun k => v.ownBlock = some k) w w' := by
  rcases h with ⟨b, hb, h, _⟩ | h
  · exact h.mono fun k _ e => e ▸ hb
  · exact h.mono fun _ _ h => h.elim
theorem OwnB.ap {w w' : World} {base i j L : Nat} {v x : Value} (h : OwnB w base x (stL j L)) (ha : Ap i v w w') (hij : ∀ b, x.ownBlock = some b → v.ownBlock = some b → j = i) : OwnB w' base x (stL j L) := by
  rcases ha with ⟨b, hb, hc, cur, cur', h1, h2, h3, h4⟩ | hc
  · by_cases hx : x.ownBlock = some b
    · obtain rfl := hij b hx hb
      refine ⟨h.1, ?_⟩
      rcases h.2 with ⟨rfl, _⟩ | ⟨g, cap, cu, rfl, hbase, hg, hn, hm, hcs, ht⟩
      · simp [Value.ownBlock] at hx
      · have e : g = b := by simpa [Value.ownBlock] using hx
        subst e
        rw [h1] at hg
        injection hg with hg
        injection hg with hg _ _
        subst hg
        refine .inr ⟨g, cap, cur', rfl, hbase, h2, hn, hm, by rw [h3, hcs], ?_⟩
        apply List.ext_getElem?
        intro k
        rw [List.getElem?_take]
        have hk := congrArg (fun l : List Value => l[k]?) ht
        simp only [List.getElem?_take] at hk
        rw [stL_len, Nat.mul_one] at hk ⊢
        by_cases hkn : k < L
        · rw [if_pos hkn] at hk ⊢
          rw [bvs_stL _ _ _ hkn] at hk ⊢
          rw [Array.getElem?_toList] at hk ⊢
          exact h4 k hk
        · rw [if_neg hkn] at hk ⊢
          exact hk
    · exact h.chg hc fun k hk e => hx (e ▸ hk)
  · exact h.chg hc fun _ _ h => h

theorem run_append_st {w : World} {base i n m : Nat} {v : Value} (ty : TypeId) (hown : OwnB w base v (stL i n)) {F : Nat → Prop} {y : Value} (hr : RdB w F y (stT i n m)) (hm : 0 < m)
    (hb : n + m ≤ 140737488355328) (hbase : base ≤ w.heap.size) :
    ∃ v' w', (Builtin.append_ #[22, 22] ty #[v, y]).run Try.prog w = .ok v' w' ∧ OwnB w' base v' (stL i (n + m)) ∧ Ap i v w w' ∧ (v'.ownBlock = v.ownBlock ∨ v'.ownBlock = some w.heap.size) := by
  obtain ⟨ti, hi, hz, h1, h2⟩ := info_parts info_u8
  have ht := Try.underlying22
  obtain ⟨hl, A, c, rfl, hmc, hcm, hcells⟩ := hr
  rw [stT_len] at hl hmc hcells ⊢
  obtain ⟨ad, rfl, hf, hnews⟩ := hcells hm
  have hone := bvs_one (stT i n m)
  have hlen : (bvs (stL i (n + m))).length = (stL i (n + m)).length * 1 := by rw [bvs_length]; omega
  have hll : (stL i n).length = n := stL_len i n
  have hll2 : (stL i (n + m)).length = n + m := stL_len i (n + m)
  have hbb : bvs (stL i (n + m)) = bvs (stL i n) ++ bvs (stT i n m) := by rw [stL_add, bvs_append]
  have hnl : (bvs (stT i n m)).length = m * 1 := hl
  rcases hown.2 with ⟨rfl, h0⟩ | ⟨g, cap, cur, rfl, hbg, hg, hnc, hcmx, hcs, htake⟩
  · rw [hll] at h0
    subst h0
    have hr := run_append_nil (P := Try.prog) w 22 ty 5 ti _ ht hi hz ad m c (bvs (stT i 0 m)) (by rw [h1]; exact hnl) hnews (by omega) (by omega) (by rw [h2]; omega)
    have hge := grownCap_ge w m 0 5
    have hle : grownCap w m 0 5 ≤ maxLen := grownCap_le_maxLen w m 0 5 (by simp only [maxLen]; omega)
    refine ⟨_, _, hr, ⟨hlen, .inr ⟨w.heap.size, _, _, by rw [hll2, Nat.zero_add], hbase, heap_alloc_new w.drew _, by rw [hll2]; omega, hle, ?_, ?_⟩⟩, .inr ((Chg.refl Non w).drew.alloc _), .inr rfl⟩
    · rw [Array.size_append, size_zeroCells, List.size_toArray, hnl]
      show m * 1 + (grownCap w m 0 5 - m) * 1 = _
      omega
    · rw [hbb, hll2]
      simp only [Array.toList_append, Nat.zero_add]
      rw [← hnl, List.take_left]
      rfl
  · rw [hll] at hnc htake ⊢
    by_cases hroom : n + m ≤ cap
    · have hfit : n * ti.size + (bvs (stT i n m)).length ≤ cur.size := by rw [h1, hnl, hcs]; omega
      have hr := run_append_room (P := Try.prog) w 22 ty 5 ti ht hi g n cap cur hg ad m c (bvs (stT i n m)) (by rw [h1]; exact hnl) hnews hone hroom hfit
      rw [h1] at hr
      have hsz : (cur.toList.take (n * 1) ++ bvs (stT i n m) ++ cur.toList.drop (n * 1 + (bvs (stT i n m)).length)).length = cur.size := by
        simp only [List.length_append, List.length_take, List.length_drop, Array.length_toList]
        omega
      have hlt : (cur.toList.take (n * 1)).length = n := by rw [List.length_take, Array.length_toList]; omega
      refine ⟨_, _, hr, ⟨hlen, .inr ⟨g, cap, _, by rw [hll2], hbg, setRow_heap w g cur _ 5 _ hg, by rw [hll2]; exact hroom, hcmx, ?_, ?_⟩⟩, .inl ⟨g, rfl, ⟨rfl, rfl, rfl, by simp, fun k _ hk => setRow_other w g k _ hk⟩, cur, _, hg, setRow_heap w g cur _ 5 _ hg, ?_, ?_⟩, .inl rfl⟩
      · rw [List.size_toArray, hsz, hcs]
      · rw [htake, hbb, hll2]
        have e : (n + m) * 1 = (bvs (stL i n) ++ bvs (stT i n m)).length := by rw [List.length_append, bvs_length, bvs_length, hll, stT_len]; omega
        rw [e]
        exact List.take_left
      · rw [List.size_toArray, hsz]
      · intro k hk
        have hklt : k < cur.size := (Array.getElem?_eq_some_iff.1 hk).1
        rw [List.getElem?_toArray]
        by_cases h5 : k < n
        · rw [List.append_assoc, List.getElem?_append_left (by omega), List.getElem?_take, if_pos (by omega), Array.getElem?_toList]
          exact hk
        · by_cases h6 : k < n + m
          · rw [List.append_assoc, List.getElem?_append_right (by omega), hlt, List.getElem?_append_left (by rw [hnl]; omega)]
            rw [bvs_get, stT_get _ _ _ _ (by omega), show n + (k - n) = k by omega]
            rfl
          · rw [List.getElem?_append_right (by rw [List.length_append, hlt, hnl]; omega), List.length_append, hlt, hnl, List.getElem?_drop, Array.getElem?_toList]
            rw [show n * 1 + m * 1 + (k - (n + m * 1)) = k by omega]
            exact hk
    · have holds : ∀ j u, (bvs (stL i n))[j]? = some u → w.cell? ((⟨g, 0, none⟩ : Addr).add j) = some u := World.ownsRow.cells hown (g := g) rfl
      have hr := run_append_grow (P := Try.prog) w 22 ty 5 ti _ ht hi hz ⟨g, 0, none⟩ n cap (bvs (stL i n)) (by rw [h1, bvs_length, hll]; omega) holds ad m c (bvs (stT i n m)) (by rw [h1]; exact hnl) hnews (by omega) (by omega) (by rw [h2]; exact growslice_fits (by omega) (by omega))
      have hge := grownCap_ge w (n + m) cap 5
      have hle : grownCap w (n + m) cap 5 ≤ maxLen := grownCap_le_maxLen w (n + m) cap 5 (by simp only [maxLen]; omega)
      have hbl : (bvs (stL i n)).length = n := by rw [bvs_length, hll]
      refine ⟨_, _, hr, ⟨hlen, .inr ⟨w.heap.size, _, _, by rw [hll2], hbase, heap_alloc_new w.drew _, by rw [hll2]; omega, hle, ?_, ?_⟩⟩, .inr ((Chg.refl Non w).drew.alloc _), .inr rfl⟩
      · rw [Array.size_append, Array.size_append, size_zeroCells, List.size_toArray, List.size_toArray, hnl, hbl]
        show n + m * 1 + (grownCap w (n + m) cap 5 - (n + m)) * 1 = _
        omega
      · rw [hbb, hll2]
        simp only [Array.toList_append]
        rw [show (n + m) * 1 = (bvs (stL i n) ++ bvs (stT i n m)).length by rw [List.length_append, hbl, hnl]; omega]
        exact List.take_left

theorem append_st {w : World} {ops : Array Oper} {rest : List Oper} {o : Oper} {a : Act} {Q : Exit → Act → World → Prop} (hgd : o.guard = none) (s x : Operand)
    (ho : o.op = .call { callee := .builtin .append, args := #[s, x], argTypes := #[22, 22] })
    {base i n m : Nat} {v : Value} (hown : OwnB w base v (stL i n)) (hv : a.eval s = v)
    {y : Value} {F : Nat → Prop} (hr : RdB w F y (stT i n m)) (hy : a.eval x = y) (hm : 0 < m)
    (hb : n + m ≤ 140737488355328) (hbase : base ≤ w.heap.size)
    (h : ∀ v' w', OwnB w' base v' (stL i (n + m)) → Ap i v w w' → (v'.ownBlock = v.ownBlock ∨ v'.ownBlock = some w.heap.size) → wpList Try.prog ops Q rest (a.put o.dst v') w') : wpList Try.prog ops Q (o :: rest) a w := by
  subst hv; subst hy
  refine wpList_plain hgd fun K hK => ?_
  obtain ⟨v', w', hrun, h2, h3, h4⟩ := run_append_st o.type hown hr hm hb hbase
  unfold Oper.wp execOp
  simp only [ho, resolve, invoke, builtin, Sem.run_bind, Sem.run_pure, Result.andThen_ok, List.map_toArray, List.map_cons, List.map_nil, hrun]
  exact hK _ _ (h v' w' h2 h3 h4)
end Go.Proofs.Ytlklcdjhlpadiaa
