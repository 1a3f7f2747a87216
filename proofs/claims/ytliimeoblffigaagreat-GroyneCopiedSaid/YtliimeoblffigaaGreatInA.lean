/- The walks of slices.Insert (one element) and slices.Delete (one element) on rows that the caller owns. -/
import Derived.Test.YtliimeoblffigaaGreatNdAG
import Derived.Lib.AppendZerosOnto
import Derived.Lib.Overlaps
import Derived.Laws.CopyOwn
import Derived.Lib.SliceRun
set_option linter.unusedVariables false
set_option linter.unusedSimpArgs false
set_option maxRecDepth 100000
namespace Go.Proofs.YtliimeoblffigaaGreat
open Go.RowKit
set_option linter.unusedVariables false
set_option linter.unusedSimpArgs false

theorem ins_len {xs : List Value} {i : Nat} (h : i ≤ xs.length) (x : Value) : (xs.take i ++ x :: xs.drop i).length = xs.length + 1 := by
 rw [List.length_append, List.length_cons, List.length_take, List.length_drop]; omega
/-- cells moved up by one, and one put in their place -/
theorem ins_row {cur xs : List Value} {i n : Nat} {x : Value} (hn : cur.take n = xs) (hl : xs.length = n) (hi : i < n) (hc : n < cur.length) :
  ((cur.take (i + 1) ++ (xs.drop i ++ cur.drop (i + 1 + (xs.drop i).length))).take i ++ ([x] ++ (cur.take (i + 1) ++ (xs.drop i ++ cur.drop (i + 1 + (xs.drop i).length))).drop (i + [x].length))).take (n + 1) = xs.take i ++ x :: xs.drop i := by
 have h1 : (cur.take (i + 1)).length = i + 1 := by rw [List.length_take]; omega
 have h2 : (xs.drop i).length = n - i := by rw [List.length_drop, hl]
 have h3 : (cur.take (i + 1) ++ (xs.drop i ++ cur.drop (i + 1 + (xs.drop i).length))).take i = xs.take i := by
  rw [List.take_append_of_le_length (by omega), List.take_take, Nat.min_eq_left (by omega), ← hn, List.take_take, Nat.min_eq_left (by omega)]
 rw [h3, List.length_singleton, List.drop_left' h1]
 have h4 : (xs.take i).length = i := by rw [List.length_take]; omega
 generalize cur.drop (i + 1 + (xs.drop i).length) = R
 rw [show xs.take i ++ ([x] ++ (xs.drop i ++ R)) = (xs.take i ++ x :: xs.drop i) ++ R by simp]
 exact List.take_left' (by rw [ins_len (by omega), hl])
theorem ins_new {xs r : List Value} {i n k : Nat} {z x : Value} (hl : xs.length = n) (hi : i < n) (hk : k = n + 1 - i) :
  (((xs.take i ++ List.replicate k z ++ r).take i ++ ([x] ++ (xs.take i ++ List.replicate k z ++ r).drop (i + [x].length))).take (i + 1) ++ (xs.drop i ++ ((xs.take i ++ List.replicate k z ++ r).take i ++ ([x] ++ (xs.take i ++ List.replicate k z ++ r).drop (i + [x].length))).drop (i + 1 + (xs.drop i).length))).take (n + 1) = xs.take i ++ x :: xs.drop i := by
 have h4 : (xs.take i).length = i := by rw [List.length_take]; omega
 have h2 : (xs.drop i).length = n - i := by rw [List.length_drop, hl]
 have h5 : (xs.take i ++ List.replicate k z ++ r).take i = xs.take i := by rw [List.append_assoc, List.take_left' h4]
 rw [h5]
 have h6 : (xs.take i ++ ([x] ++ (xs.take i ++ List.replicate k z ++ r).drop (i + [x].length))).take (i + 1) = xs.take i ++ [x] := by
  rw [← List.append_assoc, List.take_left' (by rw [List.length_append, h4]; rfl)]
 rw [h6, ← List.append_assoc, List.take_left' (by rw [List.length_append, List.length_append, h4, h2, List.length_singleton]; omega), List.append_assoc]
 rfl
theorem del_row {cur xs : List Value} {i n : Nat} (hn : cur.take n = xs) (hl : xs.length = n) (hi : i < n) (hc : n ≤ cur.length) :
  (cur.take i ++ (xs.drop (i + 1) ++ cur.drop (i + (xs.drop (i + 1)).length))).take (n - 1) = xs.take i ++ xs.drop (i + 1) := by
 have h1 : (cur.take i).length = i := by rw [List.length_take]; omega
 have h2 : (xs.drop (i + 1)).length = n - (i + 1) := by rw [List.length_drop, hl]
 have h3 : cur.take i = xs.take i := by rw [← hn, List.take_take, Nat.min_eq_left (by omega)]
 rw [← List.append_assoc, List.take_left' (by rw [List.length_append, h1, h2]; omega), h3]
theorem ownsRow_of {w : World} {base n c g : Nat} {e : TypeId} {cur xs : List Value} (hb : base ≤ g) (hg : w.heap[g]? = some (.cells cur.toArray e (0, 0))) (hn : n ≤ c) (hm : c ≤ maxLen) (hc : cur.length = c) (hx : cur.take n = xs) (hl : xs.length = n) : w.ownsRow base e 1 (.slice (some ⟨g, 0, none⟩) n c) n xs :=
 ⟨by omega, .inr ⟨g, c, cur.toArray, rfl, hb, hg, hn, hm, by rw [List.size_toArray]; omega, by rw [List.toList_toArray, Nat.mul_one]; exact hx⟩⟩
theorem step_cp {P : Program} {ops : Array Oper} {o : Oper} {a : Act} {w : World} {K : Act → World → Prop} {Q : Exit → Act → World → Prop} {E : Prop} (hgd : o.guard = none) (d s : Operand) (dT sT : TypeId)
  (ho : o.op = .call { callee := .builtin .copy, args := #[d, s], argTypes := #[dT, sT] }) (elem : TypeId) (hu : P.underlying dT = some (.slice elem)) (hsz : (P.info? elem).map (·.size) = some 1)
  (g off dLen dCap : Nat) (ad : Addr) (sLen sCap : Nat) (hd : a.eval d = .slice (some ⟨g, off, none⟩) dLen dCap) (hs : a.eval s = .slice (some ad) sLen sCap)
  (cur : Array Value) (t : TypeId) (hg : w.heap[g]? = some (.cells cur t (0, 0))) (cs : List Value) (hn : cs.length = Nat.min sLen dLen)
  (hsrc : ∀ j v, cs[j]? = some v → w.cell? (ad.add j) = some v) (hfit : off + cs.length ≤ cur.size) (h1 : ∀ v ∈ cs, v.oneCell' = true)
  (h : K (a.put o.dst (goInt cs.length)) (w.setRow g (cur.toList.take off ++ (cs ++ cur.toList.drop (off + cs.length))).toArray)) :
  if Region.wanted o (yielded ops a.tmps) = true then Oper.wp P o a w K Q else E := by
 have hw : Region.wanted o (yielded ops a.tmps) = true := by simp [Region.wanted, hgd]
 rw [if_pos hw]
 have hrun := run_copy_row (P := P) w dT sT o.type elem g off dLen dCap ad sLen sCap cur t cs hu hsz hg hn hsrc hfit h1
 unfold Oper.wp
 simp [execOp, ho, resolve, invoke, builtin, hd, hs, hrun, Result.andThen]
 exact h
theorem zeroCells1 (z : Value) (n : Nat) : Builtin.zeroCells #[z] n = (List.replicate n z).toArray := by
 unfold Builtin.zeroCells
 apply Array.ext
 ·simp
 ·intro i h1 h2
  simp [Nat.mod_one]
theorem step_ap {P : Program} {ops : Array Oper} {o : Oper} {a : Act} {w : World} {K : Act → World → Prop} {Q : Exit → Act → World → Prop} {E : Prop} (hgd : o.guard = none) (s x : Operand) (t : TypeId)
  (ho : o.op = .call { callee := .builtin .append, args := #[s, x], argTypes := #[t, t] }) (e : TypeId) (ii : TypeInfo) (ht : P.underlying t = some (.slice e)) (hi : P.info? e = some ii) (hs1 : ii.size = 1)
  (g sLen sCap : Nat) (ad : Addr) (m c : Nat) (hs : a.eval s = .slice (some ⟨g, 0, none⟩) sLen sCap) (hx : a.eval x = .slice (some ad) m c)
  (cur : Array Value) (hg : w.heap[g]? = some (.cells cur e (0, 0))) (news : List Value) (hl : news.length = m) (hnews : ∀ j u, news[j]? = some u → w.cell? (ad.add j) = some u) (h1 : ∀ u ∈ news, u.oneCell' = true)
  (hroom : sLen + m ≤ sCap) (hfit : sLen + news.length ≤ cur.size)
  (h : K (a.put o.dst (.slice (some ⟨g, 0, none⟩) (sLen + m) sCap)) (w.setRow g (cur.toList.take sLen ++ (news ++ cur.toList.drop (sLen + news.length))).toArray)) :
  if Region.wanted o (yielded ops a.tmps) = true then Oper.wp P o a w K Q else E := by
 have hw : Region.wanted o (yielded ops a.tmps) = true := by simp [Region.wanted, hgd]
 rw [if_pos hw]
 have hrun := run_append_room (P := P) w t o.type e ii ht hi g sLen sCap cur hg ad m c news (by rw [hs1, Nat.mul_one]; exact hl) hnews h1 hroom (by rw [hs1, Nat.mul_one]; exact hfit)
 rw [hs1, Nat.mul_one, List.append_assoc] at hrun
 unfold Oper.wp
 simp only [execOp, ho, resolve, invoke, builtin, Sem.run_bind, Sem.run_pure, Result.andThen_ok, List.map_toArray, List.map_cons, List.map_nil, hs, hx, hrun]
 exact h
theorem setCell_row {w : World} {g j : Nat} {cur : List Value} {e : TypeId} {z : Value} (hg : w.heap[g]? = some (.cells cur.toArray e (0, 0))) : (w.setCell ⟨g, j, none⟩ z).heap[g]? = some (.cells (cur.set j z).toArray e (0, 0)) := by
 have h : Blk w g e cur.toArray := hg
 have h2 := h.set_ j z
 rw [List.setIfInBounds_toArray] at h2
 exact h2
theorem chg_setRow {w : World} {g : Nat} {cs : Array Value} {S : Nat → Prop} (hg : S g) : Chg S w (w.setRow g cs) := ⟨rfl, rfl, rfl, by simp [World.setRow], fun b _ hne => setRow_other w g b _ fun e => hne (e ▸ hg)⟩

theorem size_bb (w : World) : (sizeOf (Tryz.prog.elem 122)).run Tryz.prog w = .ok 1 w := by kernel_rfl
theorem size1_bb (w : World) : (sizeOf 30).run Tryz.prog w = .ok 1 w := by kernel_rfl
theorem under_bb : Tryz.prog.underlying 122 = some (.slice (Tryz.prog.elem 122)) := by kernel_rfl
section
variable {A : Option Addr} {n c : Nat}
theorem cutL_bb {i : Nat} (hi : i ≤ n) (hc : n ≤ c) (w : World) : (Instr.slice 122 (.slice A n c) (some (.int .i64 (i : Int))) none none).run Tryz.prog w = .ok (.slice (if c = i then A else A.map (·.add i)) (n - i) (c - i)) w := by
 rw [run_slice_l (P := Tryz.prog) w 122 A n c under_bb .i64 (i : Int) (by omega) (by omega), size_bb]
 simp only [Result.andThen, sliced, Int.toNat_natCast, Nat.mul_one]
theorem cutH_bb {j : Nat} (hj : j ≤ c) (w : World) : (Instr.slice 122 (.slice A n c) none (some (.int .i64 (j : Int))) none).run Tryz.prog w = .ok (.slice (if c = 0 then A else A.map (·.add 0)) j c) w := by
 rw [run_slice_h (P := Tryz.prog) w 122 A n c under_bb .i64 (j : Int) (by omega) (by omega), size_bb]
 simp only [Result.andThen, sliced, Int.toNat_natCast, Nat.zero_mul, Nat.sub_zero]
end
set_option maxHeartbeats 4000000 in
theorem ins_bb {w : World} {base n i gx : Nat} {v x : Value} {xs : List Value} (hown : w.ownsRow base 30 1 v n xs) (hi : i ≤ n) (hl : n ≤ 1000000) (hx : Blk w gx 30 #[x]) (hne : v.ownBlock ≠ some gx) (hx1 : x.oneCell' = true) (h1 : ∀ y ∈ xs, y.oneCell' = true) (hb : base ≤ w.heap.size) :
  Calls Tryz.prog 132 #[v, .int .i64 (i : Int), .slice (some ⟨gx, 0, none⟩) 1 1] w fun e w' => ∃ u, e = .returned u ∧ w'.ownsRow base 30 1 u (n + 1) (xs.take i ++ x :: xs.drop i) ∧ Chg (fun k => v.ownBlock = some k) w w' ∧ (u.ownBlock = v.ownBlock ∨ ∃ k, u.ownBlock = some k ∧ w.heap.size ≤ k) := by
 obtain ⟨ii, hii, hz, hs1, hs2⟩ := info_parts info_bb
 have hsl : (Tryz.prog.info? 30).map (·.size) = some 1 := by rw [hii]; simp [hs1]
 have hrx : RdV w (fun _ => True) 1 (.slice (some ⟨gx, 0, none⟩) 1 1) 1 [x] := ⟨rfl, _, 1, rfl, Nat.le_refl _, by simp [maxLen], fun _ => ⟨_, rfl, trivial, fun j y hyj => by
  rw [add_none, hx.cell]
  match j, hyj with
  | 0, hyj => simpa using hyj
  | j + 1, hyj => simp at hyj⟩⟩
 have hx1c : ∀ y ∈ [x], y.oneCell' = true := fun y hy => by rw [List.mem_singleton.1 hy]; exact hx1
 have hxl : xs.length = n := by have := hown.1; omega
 have hgb := hown
 obtain ⟨A, c, hv, hnc, hcm⟩ := (RdV.of_own hown).shape
 by_cases hin : i = n
 ·-- at the end
  subst hin
  have ht : xs.take i = xs := List.take_of_length_le (by omega)
  have hd : xs.drop i = [] := List.drop_eq_nil_of_le (by omega)
  rw [ht, hd]
  obtain ⟨A2, n2, c2, hcut⟩ : ∃ A2 n2 c2, ∀ W, (Instr.slice 122 v (some (.int .i64 (i : Int))) none none).run Tryz.prog W = .ok (.slice A2 n2 c2) W := ⟨_, _, _, fun W => by rw [hv]; exact cutL_bb (Nat.le_refl _) hnc W⟩
  subst hv
  clear hgb ht hd
  go_enter Tryz.func132, Tryz.ntmps132
  go_wp2_with (at_builtin; refine wpList_append_rd _ rfl _ _ _ rfl base 30 ii _ 1 24 Tryz.underlying122 hii hz hs1 hs2 rfl (by omega) (.slice A i c) rfl _ _ hown _ (.slice (some ⟨gx, 0, none⟩) 1 1) rfl _ _ hrx hx1c (by simp only [maxLen]; omega) (by omega) hb ?_; intro v1 w1 hown1 hg1 _ hat1)
  go_ret
  refine ⟨v1, rfl, hown1, (Chg.of_grown hg1).mono fun b _ e => e.symm, ?_⟩
  rcases hat1 with h | h
  ·exact .inl h
  ·exact .inr ⟨_, h, Nat.le_refl _⟩
 ·have hin : i < n := by omega
  rcases hgb.2 with ⟨_, h0⟩ | ⟨g, cap, cur, hv2, hbg, hg, hnc2, hcm2, hcs, hct⟩
  ·omega
  ·rw [hv] at hv2
   injection hv2 with e1 e2 e3
   subst e1; subst e3
   subst hv
   rw [Nat.mul_one] at hcs hct
   obtain ⟨cl, hcl⟩ : ∃ cl : List Value, cur = cl.toArray := ⟨cur.toList, by simp⟩
   subst hcl
   rw [List.size_toArray] at hcs
   rw [List.toList_toArray] at hct
   have hgx : gx ≠ g := fun e => hne (by rw [e]; rfl)
   have hgl : g < w.heap.size := (Array.getElem?_eq_some_iff.1 hg).1
   have hcut1 := fun W => cutL_bb (A := some ⟨g, 0, none⟩) (n := n) (c := c) (i := i) (by omega) hnc W
   rw [if_neg (by omega)] at hcut1
   simp only [Option.map_some] at hcut1
   have ai : (⟨g, 0, none⟩ : Addr).add i = ⟨g, i, none⟩ := by rw [add_none, Nat.zero_add]
   rw [ai] at hcut1
   have hdec : (decide ((i : Int) = (n : Int))) = false := decide_eq_false (by omega)
   have hdn : ¬ ((i : Int) = (n : Int)) := by omega
   have hdn' : ¬ i = n := by omega
   have hw1 : IntKind.i64.wrap ((n : Int) + 1) = ((n + 1 : Nat) : Int) := by rw [IntWalk.i64_in _ (by unfold maxLen at hcm; omega)]; omega
   have hw2 : IntKind.i64.wrap ((i : Int) + 1) = ((i + 1 : Nat) : Int) := by rw [IntWalk.i64_in _ (by unfold maxLen at hcm; omega)]; omega
   have hsrcx : ∀ (W : World), W.heap[gx]? = w.heap[gx]? → ∀ j v, [x][j]? = some v → W.cell? ((⟨gx, 0, none⟩ : Addr).add j) = some v := fun W hW j v hj => by
    have hbx : Blk W gx 30 #[x] := by rw [Blk, hW]; exact hx
    rw [add_none, hbx.cell]
    match j, hj with
    | 0, hj => simpa using hj
    | j + 1, hj => simp at hj
   have hsrc : ∀ (W : World), W.heap[g]? = some (.cells cl.toArray 30 (0, 0)) → ∀ j v, (xs.drop i)[j]? = some v → W.cell? ((⟨g, i, none⟩ : Addr).add j) = some v := fun W hW j v hj => by
    have hbg : Blk W g 30 cl.toArray := hW
    rw [add_none, hbg.cell, List.getElem?_toArray]
    rw [← hct, List.getElem?_drop, List.getElem?_take] at hj
    split at hj
    ·exact hj
    ·cases hj
   have hdl : (xs.drop i).length = n - i := by rw [List.length_drop, hxl]
   have h1d : ∀ y ∈ xs.drop i, y.oneCell' = true := fun y hy => h1 y (List.mem_of_mem_drop hy)
   by_cases hroom : n + 1 ≤ c
   ·-- there is room
    have hcutH := fun W => cutH_bb (A := some ⟨g, 0, none⟩) (n := n) (c := c) (j := n + 1) hroom W
    rw [if_neg (by omega)] at hcutH
    simp only [Option.map_some] at hcutH
    have a0 : (⟨g, 0, none⟩ : Addr).add 0 = ⟨g, 0, none⟩ := by rw [add_none]
    rw [a0] at hcutH
    have hcut2 := fun W => cutL_bb (A := some ⟨g, 0, none⟩) (n := n + 1) (c := c) (i := i + 1) (by omega) hroom W
    rw [if_neg (by omega)] at hcut2
    simp only [Option.map_some] at hcut2
    have ai1 : (⟨g, 0, none⟩ : Addr).add (i + 1) = ⟨g, i + 1, none⟩ := by rw [add_none, Nat.zero_add]
    rw [ai1] at hcut2
    have hcut3 := fun W => cutL_bb (A := some ⟨g, 0, none⟩) (n := n + 1) (c := c) (i := i) (by omega) hroom W
    rw [if_neg (by omega)] at hcut3
    simp only [Option.map_some] at hcut3
    rw [ai] at hcut3
    have hov : ∀ lb cb, (callFunc 157 #[.slice (some ⟨gx, 0, none⟩) 1 1, .slice (some ⟨g, i + 1, none⟩) lb cb]).run Tryz.prog w = .ok (.value (.bool false)) w := fun lb cb => by
     rw [run_callFunc_extern Tryz.func157 (by kernel_rfl) (by kernel_rfl) (by kernel_rfl) (e := Extern.SlicesOverlaps.overlaps #[122, 122] #[4]) (by kernel_rfl)]
     rw [Lib.run_overlaps_apart w 122 4 30 Tryz.underlying122 1 size1_bb ⟨gx, 0, none⟩ ⟨g, i + 1, none⟩ 1 1 lb cb hgx 30 30 1 cl.length (by have h := show w.heap[gx]? = some (.cells #[x] 30 (0, 0)) from hx; simp [World.shape?, h]) (by simp [World.shape?, hg]) (by omega) (hx.frozen 0) (hx.frozen 1)]
     rfl
    obtain ⟨m1, hm1⟩ : ∃ m1, m1 = n + 1 := ⟨_, rfl⟩
    obtain ⟨i1, hi1⟩ : ∃ i1, i1 = i + 1 := ⟨_, rfl⟩
    rw [← hm1] at hw1 hroom hcutH hcut2 hcut3
    rw [← hi1] at hw2 hcut2 hov
    have hd2 : decide ((c : Int) < (m1 : Int)) = false := decide_eq_false (by omega)
    have hd2' : ¬ c < m1 := by omega
    have HM := hide (And.intro hm1 hi1)
    have HR := hide hroom
    clear hm1 hi1 hgb hown hrx hroom
    go_enter Tryz.func132, Tryz.ntmps132
    go_upto_region 15 with fail
    have hnm : (xs.drop i).length = Nat.min (m1 - i) (m1 - i1) := by
     have h := HM.out
     show _ = min (m1 - i) (m1 - i1)
     rw [hdl, h.1, h.2, Nat.min_def, if_neg (by omega)]; omega
    have hfit1 : i1 + (xs.drop i).length ≤ cl.toArray.size := by have h := HM.out; have h2 := HR.out; simp only [List.size_toArray]; omega
    have hgd : w.drew.heap[g]? = some (.cells cl.toArray 30 (0, 0)) := hg
    have hsd := hsrc w.drew hgd
    go_region_law (refine step_cp (w := w.drew) rfl _ _ _ _ rfl 30 Tryz.underlying122 hsl g i1 (m1 - i1) (c - i1) ⟨g, i, none⟩ (m1 - i) (c - i) (by go_simp) (by go_simp) cl.toArray 30 hgd (xs.drop i) hnm hsd hfit1 h1d ?_)
    obtain ⟨c2, hc2e⟩ : ∃ c2, c2 = cl.take i1 ++ (xs.drop i ++ cl.drop (i1 + (n - i))) := ⟨_, rfl⟩
    rw [← hc2e]
    have hg2 : (w.drew.setRow g c2.toArray).heap[g]? = some (.cells c2.toArray 30 (0, 0)) := setRow_heap _ g _ _ _ _ hgd
    have hgx2 : (w.drew.setRow g c2.toArray).heap[gx]? = w.heap[gx]? := setRow_other _ g gx _ hgx
    have hc2 : Chg (fun k => Value.ownBlock (.slice (some ⟨g, 0, none⟩) n c) = some k) w (w.drew.setRow g c2.toArray) := (Chg.refl _ w).drew.trans (chg_setRow (S := fun k => Value.ownBlock (.slice (some ⟨g, 0, none⟩) n c) = some k) rfl) fun _ _ h => h
    have hc2l : c2.length = c := by have h := HM.out; have h2 := HR.out; rw [hc2e]; simp only [List.length_append, List.length_take, List.length_drop]; omega
    have HE := hide hc2e
    generalize w.drew.setRow g c2.toArray = w2 at hg2 hgx2 hc2 ⊢
    have hm1n : Nat.min 1 (m1 - i) = 1 := by have h := HM.out; show min 1 (m1 - i) = 1; rw [Nat.min_def, if_pos (by omega)]
    clear hc2e hov
    go_wp2_with (refine wpList_copy_own rfl _ _ _ _ rfl 30 Tryz.underlying122 hsl g i (m1 - i) (c - i) ⟨gx, 0, none⟩ 1 1 (by go_simp) (by go_simp) c2.toArray 30 hg2 [x] (by rw [List.length_singleton]; exact hm1n.symm) (hsrcx w2 hgx2) (by rw [List.size_toArray, hc2l, List.length_singleton]; omega) hx1c ?_)
    have h := HM.out
    have hfin : (c2.take i ++ x :: c2.drop (i + 1)).take (n + 1) = xs.take i ++ x :: xs.drop i := by
     have e := ins_row (x := x) hct hxl hin (by have := HR.out; omega)
     rw [hdl, ← h.2, ← HE.out] at e
     exact e
    have hgz := setRow_heap w2 g c2.toArray (c2.take i ++ x :: c2.drop (i + 1)).toArray 30 (0, 0) hg2
    have hR := HR.out
    clear hnm hfit1
    go_ret
    rw [h.1]
    refine ⟨_, rfl, ownsRow_of hbg hgz (by omega) hcm2 (by rw [List.length_append, List.length_cons, List.length_take, List.length_drop]; omega) hfin (by rw [ins_len (by omega), hxl]), hc2.trans (chg_setRow (S := fun k => Value.ownBlock (.slice (some ⟨g, 0, none⟩) n c) = some k) rfl) fun _ _ h => h, .inl rfl⟩
   ·-- no room
    have hk0 : IntKind.i64.wrap (((n + 1 : Nat) : Int) - (i : Int)) = ((n + 1 - i : Nat) : Int) := by rw [IntWalk.i64_in _ (by omega)]; omega
    have hcutH := fun W => cutH_bb (A := some ⟨g, 0, none⟩) (n := n) (c := c) (j := i) (by omega) W
    rw [if_neg (by omega)] at hcutH
    simp only [Option.map_some] at hcutH
    have a0 : (⟨g, 0, none⟩ : Addr).add 0 = ⟨g, 0, none⟩ := by rw [add_none]
    rw [a0] at hcutH
    obtain ⟨k, hk⟩ : ∃ k, k = n + 1 - i := ⟨_, rfl⟩
    obtain ⟨m1, hm1⟩ : ∃ m1, m1 = n + 1 := ⟨_, rfl⟩
    obtain ⟨i1, hi1⟩ : ∃ i1, i1 = i + 1 := ⟨_, rfl⟩
    rw [← hk, ← hm1] at hk0
    rw [← hm1] at hw1
    rw [← hi1] at hw2
    have hd2 : decide ((c : Int) < (m1 : Int)) = true := decide_eq_true (by omega)
    have hd2' : c < m1 := by omega
    obtain ⟨CP, hCP⟩ : ∃ CP, CP = grownCap w (i + k) c 30 := ⟨_, rfl⟩
    have hle := grownCap_ge w (i + k) c 30
    have hle2 := grownCap_le_maxLen w (i + k) c 30 (by simp only [maxLen]; omega)
    rw [← hCP] at hle hle2
    obtain ⟨W2, hW2⟩ : ∃ W2, W2 = w.drew.alloc (.cells (xs.take i ++ List.replicate k (Value.slice none 0 0) ++ List.replicate (CP - (i + k)) (Value.slice none 0 0)).toArray 30) := ⟨_, rfl⟩
    have hfc : (Builtin.firstCells ii.size i (.slice (some ⟨g, 0, none⟩) i c)).run Tryz.prog w.drew = .ok (xs.take i).toArray w.drew := by
     rw [hs1]
     refine run_firstCells_some (P := Tryz.prog) w.drew 1 i ⟨g, 0, none⟩ i c (xs.take i) (by rw [List.length_take]; omega) fun j v hj => ?_
     have hbg' : Blk w.drew g 30 cl.toArray := hg
     rw [add_none, hbg'.cell, Nat.zero_add, List.getElem?_toArray]
     rw [← hct, List.take_take, List.getElem?_take] at hj
     split at hj
     ·exact hj
     ·cases hj
    have hrun : ∀ ty, (Builtin.append_ #[122, 3] ty #[.slice (some ⟨g, 0, none⟩) i c, .int .i64 (k : Int)]).run Tryz.prog w = .ok (.slice (some ⟨w.heap.size, 0, none⟩) m1 CP) W2 := fun ty => by
     rw [Lib.run_append_grow_zeros w 122 3 ty 30 ii (Value.slice none 0 0) .i64 .i64 Tryz.underlying122 Tryz.underlying3 hii hz (some ⟨g, 0, none⟩) i c (xs.take i) hfc k (by omega) (by omega) (by omega) (by omega) (by rw [hs2]; omega) (growslice_fits (by omega) (by rw [hs2]; omega))]
     rw [← hCP, hW2, show i + k = m1 by omega]
     have ez : (xs.take i).toArray ++ Builtin.zeroCells (Value.cells (Value.slice none 0 0)) k ++ Builtin.zeroCells (Value.cells (Value.slice none 0 0)) (CP - m1) = (xs.take i ++ List.replicate k (Value.slice none 0 0) ++ List.replicate (CP - m1) (Value.slice none 0 0)).toArray := by
      rw [show Value.cells (Value.slice none 0 0) = #[(Value.slice none 0 0)] from rfl, zeroCells1, zeroCells1]
      apply Array.ext'
      simp only [Array.toList_append, List.toList_toArray]
     rw [ez]
    obtain ⟨N, hN⟩ : ∃ N, N = w.heap.size := ⟨_, rfl⟩
    obtain ⟨r0, hr0⟩ : ∃ r0, r0 = xs.take i ++ List.replicate k (Value.slice none 0 0) ++ List.replicate (CP - (i + k)) (Value.slice none 0 0) := ⟨_, rfl⟩
    rw [← hr0] at hW2
    have hdrh : w.drew.heap = w.heap := rfl
    have hgN : W2.heap[N]? = some (.cells r0.toArray 30 (0, 0)) := by rw [hW2, hN]; exact (Blk.new w.drew 30 r0.toArray)
    have hWc : Chg Non w W2 := by rw [hW2]; exact ((Chg.refl Non w).drew).alloc _
    have hgx2 : W2.heap[gx]? = w.heap[gx]? := hWc.block gx (show gx < w.heap.size from (Array.getElem?_eq_some_iff.1 (show w.heap[gx]? = some (.cells #[x] 30 (0, 0)) from hx)).1) fun h => h
    have hgg2 : W2.heap[g]? = some (.cells cl.toArray 30 (0, 0)) := hWc.heap hg fun h => h
    have hr0l : r0.length = CP := by rw [hr0]; simp only [List.length_append, List.length_take, List.length_replicate]; omega
    have hcutN1 := fun W => cutL_bb (A := some ⟨N, 0, none⟩) (n := m1) (c := CP) (i := i) (by omega) (by omega) W
    rw [if_neg (by omega)] at hcutN1
    simp only [Option.map_some] at hcutN1
    have aN : (⟨N, 0, none⟩ : Addr).add i = ⟨N, i, none⟩ := by rw [add_none, Nat.zero_add]
    rw [aN] at hcutN1
    have hcutN2 := fun W => cutL_bb (A := some ⟨N, 0, none⟩) (n := m1) (c := CP) (i := i1) (by omega) (by omega) W
    rw [if_neg (by omega)] at hcutN2
    simp only [Option.map_some] at hcutN2
    have aN1 : (⟨N, 0, none⟩ : Addr).add i1 = ⟨N, i1, none⟩ := by rw [add_none, Nat.zero_add]
    rw [aN1] at hcutN2
    rw [← hN] at hrun
    have hNg : gx ≠ N ∧ g ≠ N := by
     have h := (Array.getElem?_eq_some_iff.1 (show w.heap[gx]? = some (.cells #[x] 30 (0, 0)) from hx)).1
     omega
    have HE := hide (And.intro hr0 (And.intro hk (And.intro hm1 (And.intro hi1 hN))))
    have HL := hide (And.intro hle hle2)
    clear hr0 hk hm1 hi1 hN hW2 hCP hgb hown hrx hle hle2 aN aN1 hdrh
    go_enter Tryz.func132, Tryz.ntmps132
    go_wp2_with (first
     | (at_builtin; refine Lib.wpList_append_run _ rfl _ _ _ _ rfl (.slice (some ⟨g, 0, none⟩) i c) (.int .i64 (k : Int)) (by go_simp) (by go_simp) _ _ (hrun _) ?_)
     | (refine wpList_copy_own rfl _ _ _ _ rfl 30 Tryz.underlying122 hsl N i (m1 - i) (CP - i) ⟨gx, 0, none⟩ 1 1 (by go_simp) (by go_simp) r0.toArray 30 hgN [x] (by have h := HE.out; show 1 = min 1 (m1 - i); omega) (hsrcx W2 hgx2) (by have h := HE.out; have h2 := HL.out; rw [List.size_toArray, hr0l, List.length_singleton]; omega) hx1c ?_))
    obtain ⟨r1, hr1⟩ : ∃ r1, r1 = r0.take i ++ x :: r0.drop (i + 1) := ⟨_, rfl⟩
    rw [← hr1]
    have hr1l : r1.length = CP := by
     have h := HE.out
     have h2 := HL.out
     rw [hr1]; simp only [List.length_append, List.length_cons, List.length_take, List.length_drop]; omega
    have hgN1 : (W2.setRow N r1.toArray).heap[N]? = some (.cells r1.toArray 30 (0, 0)) := setRow_heap _ N _ _ _ _ hgN
    have hgg1 : (W2.setRow N r1.toArray).heap[g]? = some (.cells cl.toArray 30 (0, 0)) := by rw [setRow_other _ N g _ hNg.2]; exact hgg2
    have hc1 : Chg Non w (W2.setRow N r1.toArray) := hWc.trans (chg_setRow (S := fun k => k = N) rfl) fun b hb e => by
     have h := HE.out.2.2.2.2
     have e : b = N := e
     omega
    have HE1 := hide hr1
    generalize W2.setRow N r1.toArray = W3 at hgN1 hgg1 hc1 ⊢
    clear hr1 hrun hgN hgx2 hgg2 hWc
    have hgd : W3.drew.heap[N]? = some (.cells r1.toArray 30 (0, 0)) := hgN1
    have hsd := hsrc W3.drew hgg1
    have hnm : (xs.drop i).length = Nat.min (n - i) (m1 - i1) := by
     have h := HE.out
     show _ = min (n - i) (m1 - i1)
     rw [hdl]; omega
    have hfit1 : i1 + (xs.drop i).length ≤ r1.toArray.size := by have h := HE.out; have h2 := HL.out; simp only [List.size_toArray]; omega
    go_upto_region 11 with fail
    go_region_law (refine step_cp (w := W3.drew) rfl _ _ _ _ rfl 30 Tryz.underlying122 hsl N i1 (m1 - i1) (CP - i1) ⟨g, i, none⟩ (n - i) (c - i) (by go_simp) (by go_simp) r1.toArray 30 hgd (xs.drop i) hnm hsd hfit1 h1d ?_)
    obtain ⟨c2, hc2e⟩ : ∃ c2, c2 = r1.take i1 ++ (xs.drop i ++ r1.drop (i1 + (n - i))) := ⟨_, rfl⟩
    rw [← hc2e]
    have hg2 : (W3.drew.setRow N c2.toArray).heap[N]? = some (.cells c2.toArray 30 (0, 0)) := setRow_heap _ N _ _ _ _ hgd
    have hc2 : Chg Non w (W3.drew.setRow N c2.toArray) := hc1.drew.trans (chg_setRow (S := fun k => k = N) rfl) fun b hb e => by
     have h := HE.out.2.2.2.2
     have e : b = N := e
     omega
    have hc2l : c2.length = CP := by
     have h := HE.out
     have h2 := HL.out
     rw [hc2e]; simp only [List.length_append, List.length_take, List.length_drop]; omega
    have HE2 := hide hc2e
    clear hnm hfit1 hc2e
    go_wp2_with fail
    go_ret
    have h := HE.out
    have h2 := HL.out
    have hfin : c2.take m1 = xs.take i ++ x :: xs.drop i := by
     have e := ins_new (xs := xs) (r := List.replicate (CP - (i + k)) (Value.slice none 0 0)) (i := i) (n := n) (k := k) (z := (Value.slice none 0 0)) (x := x) hxl hin h.2.1
     rw [← h.1] at e
     have e1 : r0.take i ++ ([x] ++ r0.drop (i + [x].length)) = r1 := HE1.out.symm
     rw [e1, hdl, ← h.2.2.2.1, ← HE2.out, ← h.2.2.1] at e
     exact e
    have hrow := ownsRow_of (base := base) (w := W3.drew.setRow N c2.toArray) (n := m1) (by omega) hg2 (by omega) (by omega) hc2l hfin (by rw [ins_len (by omega), hxl]; omega)
    rw [h.2.2.1] at hrow ⊢
    refine ⟨_, rfl, hrow, hc2.mono fun _ _ h => h.elim, .inr ⟨N, rfl, by omega⟩⟩
set_option maxHeartbeats 4000000 in
theorem del_bb {w : World} {base n i : Nat} {v : Value} {xs : List Value} (hown : w.ownsRow base 30 1 v n xs) (hi : i < n) (hl : n ≤ 1000000) (h1 : ∀ y ∈ xs, y.oneCell' = true) :
  Calls Tryz.prog 129 #[v, .int .i64 (i : Int), .int .i64 ((i + 1 : Nat) : Int)] w fun e w' => ∃ u, e = .returned u ∧ w'.ownsRow base 30 1 u (n - 1) (xs.take i ++ xs.drop (i + 1)) ∧ Chg (fun k => v.ownBlock = some k) w w' ∧ u.ownBlock = v.ownBlock := by
 obtain ⟨ii, hii, hz, hs1, hs2⟩ := info_parts info_bb
 have hxl : xs.length = n := by have := hown.1; omega
 rcases hown.2 with ⟨_, h0⟩ | ⟨g, c, cur, hv, hbg, hg, hnc, hcm, hcs, hct⟩
 ·omega
 ·subst hv
  rw [Nat.mul_one] at hcs hct
  obtain ⟨cl, hcl⟩ : ∃ cl : List Value, cur = cl.toArray := ⟨cur.toList, by simp⟩
  subst hcl
  rw [List.size_toArray] at hcs
  rw [List.toList_toArray] at hct
  have hcut0 : ∃ A2 n2 c2, ∀ W, (Instr.slice 122 (.slice (some ⟨g, 0, none⟩) n c) (some (.int .i64 (i : Int))) (some (.int .i64 ((i + 1 : Nat) : Int))) (some (.int .i64 (n : Int)))).run Tryz.prog W = .ok (.slice A2 n2 c2) W := ⟨_, _, _, fun W => by
   rw [run_slice_lhm (P := Tryz.prog) W 122 (some ⟨g, 0, none⟩) n c under_bb .i64 .i64 .i64 (i : Int) ((i + 1 : Nat) : Int) (n : Int) (by omega) (by omega) (by omega) (by omega), size_bb]
   rfl⟩
  obtain ⟨A2, n2, c2, hcut0⟩ := hcut0
  have hcutH := fun W => cutH_bb (A := some ⟨g, 0, none⟩) (n := n) (c := c) (j := i) (by omega) W
  rw [if_neg (by omega)] at hcutH
  simp only [Option.map_some] at hcutH
  have a0 : (⟨g, 0, none⟩ : Addr).add 0 = ⟨g, 0, none⟩ := by rw [add_none]
  rw [a0] at hcutH
  obtain ⟨AD, hAD, hcutL⟩ : ∃ AD : Addr, (n - (i + 1) ≠ 0 → AD = ⟨g, i + 1, none⟩) ∧ ∀ W, (Instr.slice 122 (.slice (some ⟨g, 0, none⟩) n c) (some (.int .i64 ((i + 1 : Nat) : Int))) none none).run Tryz.prog W = .ok (.slice (some AD) (n - (i + 1)) (c - (i + 1))) W := by
   have h := fun W => cutL_bb (A := some ⟨g, 0, none⟩) (n := n) (c := c) (i := i + 1) (by omega) hnc W
   by_cases hc : c = i + 1
   ·rw [if_pos hc] at h
    exact ⟨_, fun hn => by omega, h⟩
   ·rw [if_neg hc] at h
    simp only [Option.map_some] at h
    rw [show (⟨g, 0, none⟩ : Addr).add (i + 1) = ⟨g, i + 1, none⟩ by rw [add_none, Nat.zero_add]] at h
    exact ⟨_, fun _ => rfl, h⟩
  have hcut3 : ∀ W, (Instr.slice 122 (.slice (some ⟨g, 0, none⟩) (n - 1) c) (some (.int .i64 ((n - 1 : Nat) : Int))) (some (.int .i64 (n : Int))) none).run Tryz.prog W = .ok (.slice (some ⟨g, n - 1, none⟩) 1 (c - (n - 1))) W := fun W => by
   rw [run_slice_lh (P := Tryz.prog) W 122 (some ⟨g, 0, none⟩) (n - 1) c under_bb .i64 .i64 ((n - 1 : Nat) : Int) (n : Int) (by omega) (by omega) (by omega), size_bb]
   simp only [Result.andThen, sliced, Int.toNat_natCast, Nat.mul_one]
   rw [if_neg (by omega), Option.map_some, add_none, Nat.zero_add, show n - (n - 1) = 1 by omega]
  have hsrc : ∀ (W : World), W.heap[g]? = some (.cells cl.toArray 30 (0, 0)) → ∀ j v, (xs.drop (i + 1))[j]? = some v → W.cell? (AD.add j) = some v := fun W hW j v hj => by
   have hjl := (List.getElem?_eq_some_iff.1 hj).1
   rw [List.length_drop, hxl] at hjl
   have hbg : Blk W g 30 cl.toArray := hW
   rw [hAD (by omega), add_none, hbg.cell, List.getElem?_toArray]
   rw [← hct, List.getElem?_drop, List.getElem?_take] at hj
   split at hj
   ·exact hj
   ·cases hj
  have hdl : (xs.drop (i + 1)).length = n - (i + 1) := by rw [List.length_drop, hxl]
  have h1d : ∀ y ∈ xs.drop (i + 1), y.oneCell' = true := fun y hy => h1 y (List.mem_of_mem_drop hy)
  have hgd : w.drew.heap[g]? = some (.cells cl.toArray 30 (0, 0)) := hg
  have hsd := hsrc w.drew hgd
  have hroom : i + (n - (i + 1)) ≤ c := by omega
  have hfit : i + (xs.drop (i + 1)).length ≤ cl.toArray.size := by rw [hdl, List.size_toArray]; omega
  have hne : decide ((i : Int) = ((i + 1 : Nat) : Int)) = false := decide_eq_false (by omega)
  have hne2 : ¬ i = i + 1 := by omega
  obtain ⟨i1, hi1⟩ : ∃ i1, i1 = i + 1 := ⟨_, rfl⟩
  obtain ⟨m1, hm1⟩ : ∃ m1, m1 = n - 1 := ⟨_, rfl⟩
  obtain ⟨k, hk⟩ : ∃ k, k = n - i1 := ⟨_, rfl⟩
  obtain ⟨ck, hck⟩ : ∃ ck, ck = c - i1 := ⟨_, rfl⟩
  rw [← hi1] at hcut0 hcutL hdl h1d hsd hroom hfit hne hne2 ⊢
  rw [← hk] at hcutL hdl hroom
  rw [← hck] at hcutL
  rw [← hm1] at hcut3 ⊢
  have hik : i + k = m1 := by omega
  obtain ⟨c1, hc1⟩ : ∃ c1, c1 = c - m1 := ⟨_, rfl⟩
  rw [← hc1] at hcut3
  have HE := hide (And.intro hi1 (And.intro hm1 (And.intro hk hck)))
  have HIK := hide hik
  clear hi1 hm1 hk hck hc1 hAD hown hik
  go_enter Tryz.func129, Tryz.ntmps129
  go_upto_region 5 with fail
  go_region_law (refine step_ap (w := w.drew) rfl _ _ _ rfl 30 ii Tryz.underlying122 hii hs1 g i c AD k ck (by go_simp) (by go_simp) cl.toArray hgd (xs.drop i1) hdl hsd h1d hroom hfit ?_)
  try simp only [List.getElem_toArray, List.getElem_cons_zero, List.getElem_cons_succ, Act.put, List.setIfInBounds_toArray, List.set_cons_zero, List.set_cons_succ]
  have hE := HE.out
  have hIK := HIK.out
  obtain ⟨c2, hc2e⟩ : ∃ c2, c2 = cl.take i ++ (xs.drop i1 ++ cl.drop m1) := ⟨_, rfl⟩
  rw [hIK, ← hc2e]
  have hg2 : (w.drew.setRow g c2.toArray).heap[g]? = some (.cells c2.toArray 30 (0, 0)) := setRow_heap _ g _ _ _ _ hgd
  have hcw2 : Chg (fun k => Value.ownBlock (.slice (some ⟨g, 0, none⟩) n c) = some k) w (w.drew.setRow g c2.toArray) := (Chg.refl _ w).drew.trans (chg_setRow (S := fun k => Value.ownBlock (.slice (some ⟨g, 0, none⟩) n c) = some k) rfl) fun _ _ h => h
  have hc2l : c2.length = c := by
   rw [hc2e]; simp only [List.length_append, List.length_take, List.length_drop]; omega
  have HC2 := hide hc2e
  generalize w.drew.setRow g c2.toArray = w2 at hg2 hcw2 ⊢
  have hb2 : Blk w2 g 30 c2.toArray := hg2
  have hz1 : w2.cell? ⟨g, m1, none⟩ = some c2[m1]! := by
   rw [hb2.cell, List.getElem?_toArray, List.getElem?_eq_getElem (by omega), getElem!_pos c2 m1 (by omega)]
  have hf1 := hb2.frozen m1
  have hclr : ∀ t', (Builtin.clear_ #[122] t' #[.slice (some ⟨g, m1, none⟩) 1 c1]).run Tryz.prog w2 = .ok (.tuple #[]) (w2.setCell ⟨g, m1, none⟩ (Value.slice none 0 0)) := fun t' => by
   have h := Lib.run_clear_slice (P := Tryz.prog) w2 122 30 t' (Value.slice none 0 0) Tryz.underlying122 (fun w => by kernel_rfl) rfl rfl g m1 1 c1 (by omega) (fun j hj => by rw [show j = 0 by omega, Nat.add_zero, hz1]; rfl) (fun j hj => by rw [show j = 0 by omega, Nat.add_zero]; exact hf1)
   exact h
  have hg3 := setCell_row (z := (Value.slice none 0 0)) (j := m1) hg2
  have hcw3 : Chg (fun k => Value.ownBlock (.slice (some ⟨g, 0, none⟩) n c) = some k) w (w2.setCell ⟨g, m1, none⟩ (Value.slice none 0 0)) := hcw2.setCell (p := ⟨g, m1, none⟩) (fun _ => rfl) _
  have hfin : (c2.set m1 (Value.slice none 0 0)).take m1 = xs.take i ++ xs.drop i1 := by
   have e1 := del_row (i := i) hct hxl hi (by omega)
   rw [← hE.1, hdl, hIK, ← HC2.out, ← hE.2.1] at e1
   rw [List.take_set_of_le (Nat.le_refl _)]
   exact e1
  have hrow := ownsRow_of (base := base) hbg hg3 (by omega) hcm (by rw [List.length_set]; exact hc2l) hfin (by rw [List.length_append, List.length_take, hdl]; omega)
  have HR := hide (And.intro hrow hcw3)
  clear hsd hfin hrow hcw3 hg3 hcw2 hc2e hroom hfit hE hIK
  go_wp2_with fail
  go_ret
  exact ⟨_, rfl, HR.out.1, HR.out.2, rfl⟩

theorem size_ii (w : World) : (sizeOf (Tryz.prog.elem 123)).run Tryz.prog w = .ok 1 w := by kernel_rfl
theorem size1_ii (w : World) : (sizeOf 3).run Tryz.prog w = .ok 1 w := by kernel_rfl
theorem under_ii : Tryz.prog.underlying 123 = some (.slice (Tryz.prog.elem 123)) := by kernel_rfl
section
variable {A : Option Addr} {n c : Nat}
theorem cutL_ii {i : Nat} (hi : i ≤ n) (hc : n ≤ c) (w : World) : (Instr.slice 123 (.slice A n c) (some (.int .i64 (i : Int))) none none).run Tryz.prog w = .ok (.slice (if c = i then A else A.map (·.add i)) (n - i) (c - i)) w := by
 rw [run_slice_l (P := Tryz.prog) w 123 A n c under_ii .i64 (i : Int) (by omega) (by omega), size_ii]
 simp only [Result.andThen, sliced, Int.toNat_natCast, Nat.mul_one]
theorem cutH_ii {j : Nat} (hj : j ≤ c) (w : World) : (Instr.slice 123 (.slice A n c) none (some (.int .i64 (j : Int))) none).run Tryz.prog w = .ok (.slice (if c = 0 then A else A.map (·.add 0)) j c) w := by
 rw [run_slice_h (P := Tryz.prog) w 123 A n c under_ii .i64 (j : Int) (by omega) (by omega), size_ii]
 simp only [Result.andThen, sliced, Int.toNat_natCast, Nat.zero_mul, Nat.sub_zero]
end
set_option maxHeartbeats 4000000 in
theorem ins_ii {w : World} {base n i gx : Nat} {v x : Value} {xs : List Value} (hown : w.ownsRow base 3 1 v n xs) (hi : i ≤ n) (hl : n ≤ 1000000) (hx : Blk w gx 3 #[x]) (hne : v.ownBlock ≠ some gx) (hx1 : x.oneCell' = true) (h1 : ∀ y ∈ xs, y.oneCell' = true) (hb : base ≤ w.heap.size) :
  Calls Tryz.prog 133 #[v, .int .i64 (i : Int), .slice (some ⟨gx, 0, none⟩) 1 1] w fun e w' => ∃ u, e = .returned u ∧ w'.ownsRow base 3 1 u (n + 1) (xs.take i ++ x :: xs.drop i) ∧ Chg (fun k => v.ownBlock = some k) w w' ∧ (u.ownBlock = v.ownBlock ∨ ∃ k, u.ownBlock = some k ∧ w.heap.size ≤ k) := by
 obtain ⟨ii, hii, hz, hs1, hs2⟩ := info_parts info_int
 have hsl : (Tryz.prog.info? 3).map (·.size) = some 1 := by rw [hii]; simp [hs1]
 have hrx : RdV w (fun _ => True) 1 (.slice (some ⟨gx, 0, none⟩) 1 1) 1 [x] := ⟨rfl, _, 1, rfl, Nat.le_refl _, by simp [maxLen], fun _ => ⟨_, rfl, trivial, fun j y hyj => by
  rw [add_none, hx.cell]
  match j, hyj with
  | 0, hyj => simpa using hyj
  | j + 1, hyj => simp at hyj⟩⟩
 have hx1c : ∀ y ∈ [x], y.oneCell' = true := fun y hy => by rw [List.mem_singleton.1 hy]; exact hx1
 have hxl : xs.length = n := by have := hown.1; omega
 have hgb := hown
 obtain ⟨A, c, hv, hnc, hcm⟩ := (RdV.of_own hown).shape
 by_cases hin : i = n
 ·-- at the end
  subst hin
  have ht : xs.take i = xs := List.take_of_length_le (by omega)
  have hd : xs.drop i = [] := List.drop_eq_nil_of_le (by omega)
  rw [ht, hd]
  obtain ⟨A2, n2, c2, hcut⟩ : ∃ A2 n2 c2, ∀ W, (Instr.slice 123 v (some (.int .i64 (i : Int))) none none).run Tryz.prog W = .ok (.slice A2 n2 c2) W := ⟨_, _, _, fun W => by rw [hv]; exact cutL_ii (Nat.le_refl _) hnc W⟩
  subst hv
  clear hgb ht hd
  go_enter Tryz.func133, Tryz.ntmps133
  go_wp2_with (at_builtin; refine wpList_append_rd _ rfl _ _ _ rfl base 3 ii _ 1 8 Tryz.underlying123 hii hz hs1 hs2 rfl (by omega) (.slice A i c) rfl _ _ hown _ (.slice (some ⟨gx, 0, none⟩) 1 1) rfl _ _ hrx hx1c (by simp only [maxLen]; omega) (by omega) hb ?_; intro v1 w1 hown1 hg1 _ hat1)
  go_ret
  refine ⟨v1, rfl, hown1, (Chg.of_grown hg1).mono fun b _ e => e.symm, ?_⟩
  rcases hat1 with h | h
  ·exact .inl h
  ·exact .inr ⟨_, h, Nat.le_refl _⟩
 ·have hin : i < n := by omega
  rcases hgb.2 with ⟨_, h0⟩ | ⟨g, cap, cur, hv2, hbg, hg, hnc2, hcm2, hcs, hct⟩
  ·omega
  ·rw [hv] at hv2
   injection hv2 with e1 e2 e3
   subst e1; subst e3
   subst hv
   rw [Nat.mul_one] at hcs hct
   obtain ⟨cl, hcl⟩ : ∃ cl : List Value, cur = cl.toArray := ⟨cur.toList, by simp⟩
   subst hcl
   rw [List.size_toArray] at hcs
   rw [List.toList_toArray] at hct
   have hgx : gx ≠ g := fun e => hne (by rw [e]; rfl)
   have hgl : g < w.heap.size := (Array.getElem?_eq_some_iff.1 hg).1
   have hcut1 := fun W => cutL_ii (A := some ⟨g, 0, none⟩) (n := n) (c := c) (i := i) (by omega) hnc W
   rw [if_neg (by omega)] at hcut1
   simp only [Option.map_some] at hcut1
   have ai : (⟨g, 0, none⟩ : Addr).add i = ⟨g, i, none⟩ := by rw [add_none, Nat.zero_add]
   rw [ai] at hcut1
   have hdec : (decide ((i : Int) = (n : Int))) = false := decide_eq_false (by omega)
   have hdn : ¬ ((i : Int) = (n : Int)) := by omega
   have hdn' : ¬ i = n := by omega
   have hw1 : IntKind.i64.wrap ((n : Int) + 1) = ((n + 1 : Nat) : Int) := by rw [IntWalk.i64_in _ (by unfold maxLen at hcm; omega)]; omega
   have hw2 : IntKind.i64.wrap ((i : Int) + 1) = ((i + 1 : Nat) : Int) := by rw [IntWalk.i64_in _ (by unfold maxLen at hcm; omega)]; omega
   have hsrcx : ∀ (W : World), W.heap[gx]? = w.heap[gx]? → ∀ j v, [x][j]? = some v → W.cell? ((⟨gx, 0, none⟩ : Addr).add j) = some v := fun W hW j v hj => by
    have hbx : Blk W gx 3 #[x] := by rw [Blk, hW]; exact hx
    rw [add_none, hbx.cell]
    match j, hj with
    | 0, hj => simpa using hj
    | j + 1, hj => simp at hj
   have hsrc : ∀ (W : World), W.heap[g]? = some (.cells cl.toArray 3 (0, 0)) → ∀ j v, (xs.drop i)[j]? = some v → W.cell? ((⟨g, i, none⟩ : Addr).add j) = some v := fun W hW j v hj => by
    have hbg : Blk W g 3 cl.toArray := hW
    rw [add_none, hbg.cell, List.getElem?_toArray]
    rw [← hct, List.getElem?_drop, List.getElem?_take] at hj
    split at hj
    ·exact hj
    ·cases hj
   have hdl : (xs.drop i).length = n - i := by rw [List.length_drop, hxl]
   have h1d : ∀ y ∈ xs.drop i, y.oneCell' = true := fun y hy => h1 y (List.mem_of_mem_drop hy)
   by_cases hroom : n + 1 ≤ c
   ·-- there is room
    have hcutH := fun W => cutH_ii (A := some ⟨g, 0, none⟩) (n := n) (c := c) (j := n + 1) hroom W
    rw [if_neg (by omega)] at hcutH
    simp only [Option.map_some] at hcutH
    have a0 : (⟨g, 0, none⟩ : Addr).add 0 = ⟨g, 0, none⟩ := by rw [add_none]
    rw [a0] at hcutH
    have hcut2 := fun W => cutL_ii (A := some ⟨g, 0, none⟩) (n := n + 1) (c := c) (i := i + 1) (by omega) hroom W
    rw [if_neg (by omega)] at hcut2
    simp only [Option.map_some] at hcut2
    have ai1 : (⟨g, 0, none⟩ : Addr).add (i + 1) = ⟨g, i + 1, none⟩ := by rw [add_none, Nat.zero_add]
    rw [ai1] at hcut2
    have hcut3 := fun W => cutL_ii (A := some ⟨g, 0, none⟩) (n := n + 1) (c := c) (i := i) (by omega) hroom W
    rw [if_neg (by omega)] at hcut3
    simp only [Option.map_some] at hcut3
    rw [ai] at hcut3
    have hov : ∀ lb cb, (callFunc 159 #[.slice (some ⟨gx, 0, none⟩) 1 1, .slice (some ⟨g, i + 1, none⟩) lb cb]).run Tryz.prog w = .ok (.value (.bool false)) w := fun lb cb => by
     rw [run_callFunc_extern Tryz.func159 (by kernel_rfl) (by kernel_rfl) (by kernel_rfl) (e := Extern.SlicesOverlaps.overlaps #[123, 123] #[4]) (by kernel_rfl)]
     rw [Lib.run_overlaps_apart w 123 4 3 Tryz.underlying123 1 size1_ii ⟨gx, 0, none⟩ ⟨g, i + 1, none⟩ 1 1 lb cb hgx 3 3 1 cl.length (by have h := show w.heap[gx]? = some (.cells #[x] 3 (0, 0)) from hx; simp [World.shape?, h]) (by simp [World.shape?, hg]) (by omega) (hx.frozen 0) (hx.frozen 1)]
     rfl
    obtain ⟨m1, hm1⟩ : ∃ m1, m1 = n + 1 := ⟨_, rfl⟩
    obtain ⟨i1, hi1⟩ : ∃ i1, i1 = i + 1 := ⟨_, rfl⟩
    rw [← hm1] at hw1 hroom hcutH hcut2 hcut3
    rw [← hi1] at hw2 hcut2 hov
    have hd2 : decide ((c : Int) < (m1 : Int)) = false := decide_eq_false (by omega)
    have hd2' : ¬ c < m1 := by omega
    have HM := hide (And.intro hm1 hi1)
    have HR := hide hroom
    clear hm1 hi1 hgb hown hrx hroom
    go_enter Tryz.func133, Tryz.ntmps133
    go_upto_region 15 with fail
    have hnm : (xs.drop i).length = Nat.min (m1 - i) (m1 - i1) := by
     have h := HM.out
     show _ = min (m1 - i) (m1 - i1)
     rw [hdl, h.1, h.2, Nat.min_def, if_neg (by omega)]; omega
    have hfit1 : i1 + (xs.drop i).length ≤ cl.toArray.size := by have h := HM.out; have h2 := HR.out; simp only [List.size_toArray]; omega
    have hgd : w.drew.heap[g]? = some (.cells cl.toArray 3 (0, 0)) := hg
    have hsd := hsrc w.drew hgd
    go_region_law (refine step_cp (w := w.drew) rfl _ _ _ _ rfl 3 Tryz.underlying123 hsl g i1 (m1 - i1) (c - i1) ⟨g, i, none⟩ (m1 - i) (c - i) (by go_simp) (by go_simp) cl.toArray 3 hgd (xs.drop i) hnm hsd hfit1 h1d ?_)
    obtain ⟨c2, hc2e⟩ : ∃ c2, c2 = cl.take i1 ++ (xs.drop i ++ cl.drop (i1 + (n - i))) := ⟨_, rfl⟩
    rw [← hc2e]
    have hg2 : (w.drew.setRow g c2.toArray).heap[g]? = some (.cells c2.toArray 3 (0, 0)) := setRow_heap _ g _ _ _ _ hgd
    have hgx2 : (w.drew.setRow g c2.toArray).heap[gx]? = w.heap[gx]? := setRow_other _ g gx _ hgx
    have hc2 : Chg (fun k => Value.ownBlock (.slice (some ⟨g, 0, none⟩) n c) = some k) w (w.drew.setRow g c2.toArray) := (Chg.refl _ w).drew.trans (chg_setRow (S := fun k => Value.ownBlock (.slice (some ⟨g, 0, none⟩) n c) = some k) rfl) fun _ _ h => h
    have hc2l : c2.length = c := by have h := HM.out; have h2 := HR.out; rw [hc2e]; simp only [List.length_append, List.length_take, List.length_drop]; omega
    have HE := hide hc2e
    generalize w.drew.setRow g c2.toArray = w2 at hg2 hgx2 hc2 ⊢
    have hm1n : Nat.min 1 (m1 - i) = 1 := by have h := HM.out; show min 1 (m1 - i) = 1; rw [Nat.min_def, if_pos (by omega)]
    clear hc2e hov
    go_wp2_with (refine wpList_copy_own rfl _ _ _ _ rfl 3 Tryz.underlying123 hsl g i (m1 - i) (c - i) ⟨gx, 0, none⟩ 1 1 (by go_simp) (by go_simp) c2.toArray 3 hg2 [x] (by rw [List.length_singleton]; exact hm1n.symm) (hsrcx w2 hgx2) (by rw [List.size_toArray, hc2l, List.length_singleton]; omega) hx1c ?_)
    have h := HM.out
    have hfin : (c2.take i ++ x :: c2.drop (i + 1)).take (n + 1) = xs.take i ++ x :: xs.drop i := by
     have e := ins_row (x := x) hct hxl hin (by have := HR.out; omega)
     rw [hdl, ← h.2, ← HE.out] at e
     exact e
    have hgz := setRow_heap w2 g c2.toArray (c2.take i ++ x :: c2.drop (i + 1)).toArray 3 (0, 0) hg2
    have hR := HR.out
    clear hnm hfit1
    go_ret
    rw [h.1]
    refine ⟨_, rfl, ownsRow_of hbg hgz (by omega) hcm2 (by rw [List.length_append, List.length_cons, List.length_take, List.length_drop]; omega) hfin (by rw [ins_len (by omega), hxl]), hc2.trans (chg_setRow (S := fun k => Value.ownBlock (.slice (some ⟨g, 0, none⟩) n c) = some k) rfl) fun _ _ h => h, .inl rfl⟩
   ·-- no room
    have hk0 : IntKind.i64.wrap (((n + 1 : Nat) : Int) - (i : Int)) = ((n + 1 - i : Nat) : Int) := by rw [IntWalk.i64_in _ (by omega)]; omega
    have hcutH := fun W => cutH_ii (A := some ⟨g, 0, none⟩) (n := n) (c := c) (j := i) (by omega) W
    rw [if_neg (by omega)] at hcutH
    simp only [Option.map_some] at hcutH
    have a0 : (⟨g, 0, none⟩ : Addr).add 0 = ⟨g, 0, none⟩ := by rw [add_none]
    rw [a0] at hcutH
    obtain ⟨k, hk⟩ : ∃ k, k = n + 1 - i := ⟨_, rfl⟩
    obtain ⟨m1, hm1⟩ : ∃ m1, m1 = n + 1 := ⟨_, rfl⟩
    obtain ⟨i1, hi1⟩ : ∃ i1, i1 = i + 1 := ⟨_, rfl⟩
    rw [← hk, ← hm1] at hk0
    rw [← hm1] at hw1
    rw [← hi1] at hw2
    have hd2 : decide ((c : Int) < (m1 : Int)) = true := decide_eq_true (by omega)
    have hd2' : c < m1 := by omega
    obtain ⟨CP, hCP⟩ : ∃ CP, CP = grownCap w (i + k) c 3 := ⟨_, rfl⟩
    have hle := grownCap_ge w (i + k) c 3
    have hle2 := grownCap_le_maxLen w (i + k) c 3 (by simp only [maxLen]; omega)
    rw [← hCP] at hle hle2
    obtain ⟨W2, hW2⟩ : ∃ W2, W2 = w.drew.alloc (.cells (xs.take i ++ List.replicate k (Value.int .i64 0) ++ List.replicate (CP - (i + k)) (Value.int .i64 0)).toArray 3) := ⟨_, rfl⟩
    have hfc : (Builtin.firstCells ii.size i (.slice (some ⟨g, 0, none⟩) i c)).run Tryz.prog w.drew = .ok (xs.take i).toArray w.drew := by
     rw [hs1]
     refine run_firstCells_some (P := Tryz.prog) w.drew 1 i ⟨g, 0, none⟩ i c (xs.take i) (by rw [List.length_take]; omega) fun j v hj => ?_
     have hbg' : Blk w.drew g 3 cl.toArray := hg
     rw [add_none, hbg'.cell, Nat.zero_add, List.getElem?_toArray]
     rw [← hct, List.take_take, List.getElem?_take] at hj
     split at hj
     ·exact hj
     ·cases hj
    have hrun : ∀ ty, (Builtin.append_ #[123, 3] ty #[.slice (some ⟨g, 0, none⟩) i c, .int .i64 (k : Int)]).run Tryz.prog w = .ok (.slice (some ⟨w.heap.size, 0, none⟩) m1 CP) W2 := fun ty => by
     rw [Lib.run_append_grow_zeros w 123 3 ty 3 ii (Value.int .i64 0) .i64 .i64 Tryz.underlying123 Tryz.underlying3 hii hz (some ⟨g, 0, none⟩) i c (xs.take i) hfc k (by omega) (by omega) (by omega) (by omega) (by rw [hs2]; omega) (growslice_fits (by omega) (by rw [hs2]; omega))]
     rw [← hCP, hW2, show i + k = m1 by omega]
     have ez : (xs.take i).toArray ++ Builtin.zeroCells (Value.cells (Value.int .i64 0)) k ++ Builtin.zeroCells (Value.cells (Value.int .i64 0)) (CP - m1) = (xs.take i ++ List.replicate k (Value.int .i64 0) ++ List.replicate (CP - m1) (Value.int .i64 0)).toArray := by
      rw [show Value.cells (Value.int .i64 0) = #[(Value.int .i64 0)] from rfl, zeroCells1, zeroCells1]
      apply Array.ext'
      simp only [Array.toList_append, List.toList_toArray]
     rw [ez]
    obtain ⟨N, hN⟩ : ∃ N, N = w.heap.size := ⟨_, rfl⟩
    obtain ⟨r0, hr0⟩ : ∃ r0, r0 = xs.take i ++ List.replicate k (Value.int .i64 0) ++ List.replicate (CP - (i + k)) (Value.int .i64 0) := ⟨_, rfl⟩
    rw [← hr0] at hW2
    have hdrh : w.drew.heap = w.heap := rfl
    have hgN : W2.heap[N]? = some (.cells r0.toArray 3 (0, 0)) := by rw [hW2, hN]; exact (Blk.new w.drew 3 r0.toArray)
    have hWc : Chg Non w W2 := by rw [hW2]; exact ((Chg.refl Non w).drew).alloc _
    have hgx2 : W2.heap[gx]? = w.heap[gx]? := hWc.block gx (show gx < w.heap.size from (Array.getElem?_eq_some_iff.1 (show w.heap[gx]? = some (.cells #[x] 3 (0, 0)) from hx)).1) fun h => h
    have hgg2 : W2.heap[g]? = some (.cells cl.toArray 3 (0, 0)) := hWc.heap hg fun h => h
    have hr0l : r0.length = CP := by rw [hr0]; simp only [List.length_append, List.length_take, List.length_replicate]; omega
    have hcutN1 := fun W => cutL_ii (A := some ⟨N, 0, none⟩) (n := m1) (c := CP) (i := i) (by omega) (by omega) W
    rw [if_neg (by omega)] at hcutN1
    simp only [Option.map_some] at hcutN1
    have aN : (⟨N, 0, none⟩ : Addr).add i = ⟨N, i, none⟩ := by rw [add_none, Nat.zero_add]
    rw [aN] at hcutN1
    have hcutN2 := fun W => cutL_ii (A := some ⟨N, 0, none⟩) (n := m1) (c := CP) (i := i1) (by omega) (by omega) W
    rw [if_neg (by omega)] at hcutN2
    simp only [Option.map_some] at hcutN2
    have aN1 : (⟨N, 0, none⟩ : Addr).add i1 = ⟨N, i1, none⟩ := by rw [add_none, Nat.zero_add]
    rw [aN1] at hcutN2
    rw [← hN] at hrun
    have hNg : gx ≠ N ∧ g ≠ N := by
     have h := (Array.getElem?_eq_some_iff.1 (show w.heap[gx]? = some (.cells #[x] 3 (0, 0)) from hx)).1
     omega
    have HE := hide (And.intro hr0 (And.intro hk (And.intro hm1 (And.intro hi1 hN))))
    have HL := hide (And.intro hle hle2)
    clear hr0 hk hm1 hi1 hN hW2 hCP hgb hown hrx hle hle2 aN aN1 hdrh
    go_enter Tryz.func133, Tryz.ntmps133
    go_wp2_with (first
     | (at_builtin; refine Lib.wpList_append_run _ rfl _ _ _ _ rfl (.slice (some ⟨g, 0, none⟩) i c) (.int .i64 (k : Int)) (by go_simp) (by go_simp) _ _ (hrun _) ?_)
     | (refine wpList_copy_own rfl _ _ _ _ rfl 3 Tryz.underlying123 hsl N i (m1 - i) (CP - i) ⟨gx, 0, none⟩ 1 1 (by go_simp) (by go_simp) r0.toArray 3 hgN [x] (by have h := HE.out; show 1 = min 1 (m1 - i); omega) (hsrcx W2 hgx2) (by have h := HE.out; have h2 := HL.out; rw [List.size_toArray, hr0l, List.length_singleton]; omega) hx1c ?_))
    obtain ⟨r1, hr1⟩ : ∃ r1, r1 = r0.take i ++ x :: r0.drop (i + 1) := ⟨_, rfl⟩
    rw [← hr1]
    have hr1l : r1.length = CP := by
     have h := HE.out
     have h2 := HL.out
     rw [hr1]; simp only [List.length_append, List.length_cons, List.length_take, List.length_drop]; omega
    have hgN1 : (W2.setRow N r1.toArray).heap[N]? = some (.cells r1.toArray 3 (0, 0)) := setRow_heap _ N _ _ _ _ hgN
    have hgg1 : (W2.setRow N r1.toArray).heap[g]? = some (.cells cl.toArray 3 (0, 0)) := by rw [setRow_other _ N g _ hNg.2]; exact hgg2
    have hc1 : Chg Non w (W2.setRow N r1.toArray) := hWc.trans (chg_setRow (S := fun k => k = N) rfl) fun b hb e => by
     have h := HE.out.2.2.2.2
     have e : b = N := e
     omega
    have HE1 := hide hr1
    generalize W2.setRow N r1.toArray = W3 at hgN1 hgg1 hc1 ⊢
    clear hr1 hrun hgN hgx2 hgg2 hWc
    have hgd : W3.drew.heap[N]? = some (.cells r1.toArray 3 (0, 0)) := hgN1
    have hsd := hsrc W3.drew hgg1
    have hnm : (xs.drop i).length = Nat.min (n - i) (m1 - i1) := by
     have h := HE.out
     show _ = min (n - i) (m1 - i1)
     rw [hdl]; omega
    have hfit1 : i1 + (xs.drop i).length ≤ r1.toArray.size := by have h := HE.out; have h2 := HL.out; simp only [List.size_toArray]; omega
    go_upto_region 11 with fail
    go_region_law (refine step_cp (w := W3.drew) rfl _ _ _ _ rfl 3 Tryz.underlying123 hsl N i1 (m1 - i1) (CP - i1) ⟨g, i, none⟩ (n - i) (c - i) (by go_simp) (by go_simp) r1.toArray 3 hgd (xs.drop i) hnm hsd hfit1 h1d ?_)
    obtain ⟨c2, hc2e⟩ : ∃ c2, c2 = r1.take i1 ++ (xs.drop i ++ r1.drop (i1 + (n - i))) := ⟨_, rfl⟩
    rw [← hc2e]
    have hg2 : (W3.drew.setRow N c2.toArray).heap[N]? = some (.cells c2.toArray 3 (0, 0)) := setRow_heap _ N _ _ _ _ hgd
    have hc2 : Chg Non w (W3.drew.setRow N c2.toArray) := hc1.drew.trans (chg_setRow (S := fun k => k = N) rfl) fun b hb e => by
     have h := HE.out.2.2.2.2
     have e : b = N := e
     omega
    have hc2l : c2.length = CP := by
     have h := HE.out
     have h2 := HL.out
     rw [hc2e]; simp only [List.length_append, List.length_take, List.length_drop]; omega
    have HE2 := hide hc2e
    clear hnm hfit1 hc2e
    go_wp2_with fail
    go_ret
    have h := HE.out
    have h2 := HL.out
    have hfin : c2.take m1 = xs.take i ++ x :: xs.drop i := by
     have e := ins_new (xs := xs) (r := List.replicate (CP - (i + k)) (Value.int .i64 0)) (i := i) (n := n) (k := k) (z := (Value.int .i64 0)) (x := x) hxl hin h.2.1
     rw [← h.1] at e
     have e1 : r0.take i ++ ([x] ++ r0.drop (i + [x].length)) = r1 := HE1.out.symm
     rw [e1, hdl, ← h.2.2.2.1, ← HE2.out, ← h.2.2.1] at e
     exact e
    have hrow := ownsRow_of (base := base) (w := W3.drew.setRow N c2.toArray) (n := m1) (by omega) hg2 (by omega) (by omega) hc2l hfin (by rw [ins_len (by omega), hxl]; omega)
    rw [h.2.2.1] at hrow ⊢
    refine ⟨_, rfl, hrow, hc2.mono fun _ _ h => h.elim, .inr ⟨N, rfl, by omega⟩⟩
set_option maxHeartbeats 4000000 in
theorem del_ii {w : World} {base n i : Nat} {v : Value} {xs : List Value} (hown : w.ownsRow base 3 1 v n xs) (hi : i < n) (hl : n ≤ 1000000) (h1 : ∀ y ∈ xs, y.oneCell' = true) :
  Calls Tryz.prog 128 #[v, .int .i64 (i : Int), .int .i64 ((i + 1 : Nat) : Int)] w fun e w' => ∃ u, e = .returned u ∧ w'.ownsRow base 3 1 u (n - 1) (xs.take i ++ xs.drop (i + 1)) ∧ Chg (fun k => v.ownBlock = some k) w w' ∧ u.ownBlock = v.ownBlock := by
 obtain ⟨ii, hii, hz, hs1, hs2⟩ := info_parts info_int
 have hxl : xs.length = n := by have := hown.1; omega
 rcases hown.2 with ⟨_, h0⟩ | ⟨g, c, cur, hv, hbg, hg, hnc, hcm, hcs, hct⟩
 ·omega
 ·subst hv
  rw [Nat.mul_one] at hcs hct
  obtain ⟨cl, hcl⟩ : ∃ cl : List Value, cur = cl.toArray := ⟨cur.toList, by simp⟩
  subst hcl
  rw [List.size_toArray] at hcs
  rw [List.toList_toArray] at hct
  have hcut0 : ∃ A2 n2 c2, ∀ W, (Instr.slice 123 (.slice (some ⟨g, 0, none⟩) n c) (some (.int .i64 (i : Int))) (some (.int .i64 ((i + 1 : Nat) : Int))) (some (.int .i64 (n : Int)))).run Tryz.prog W = .ok (.slice A2 n2 c2) W := ⟨_, _, _, fun W => by
   rw [run_slice_lhm (P := Tryz.prog) W 123 (some ⟨g, 0, none⟩) n c under_ii .i64 .i64 .i64 (i : Int) ((i + 1 : Nat) : Int) (n : Int) (by omega) (by omega) (by omega) (by omega), size_ii]
   rfl⟩
  obtain ⟨A2, n2, c2, hcut0⟩ := hcut0
  have hcutH := fun W => cutH_ii (A := some ⟨g, 0, none⟩) (n := n) (c := c) (j := i) (by omega) W
  rw [if_neg (by omega)] at hcutH
  simp only [Option.map_some] at hcutH
  have a0 : (⟨g, 0, none⟩ : Addr).add 0 = ⟨g, 0, none⟩ := by rw [add_none]
  rw [a0] at hcutH
  obtain ⟨AD, hAD, hcutL⟩ : ∃ AD : Addr, (n - (i + 1) ≠ 0 → AD = ⟨g, i + 1, none⟩) ∧ ∀ W, (Instr.slice 123 (.slice (some ⟨g, 0, none⟩) n c) (some (.int .i64 ((i + 1 : Nat) : Int))) none none).run Tryz.prog W = .ok (.slice (some AD) (n - (i + 1)) (c - (i + 1))) W := by
   have h := fun W => cutL_ii (A := some ⟨g, 0, none⟩) (n := n) (c := c) (i := i + 1) (by omega) hnc W
   by_cases hc : c = i + 1
   ·rw [if_pos hc] at h
    exact ⟨_, fun hn => by omega, h⟩
   ·rw [if_neg hc] at h
    simp only [Option.map_some] at h
    rw [show (⟨g, 0, none⟩ : Addr).add (i + 1) = ⟨g, i + 1, none⟩ by rw [add_none, Nat.zero_add]] at h
    exact ⟨_, fun _ => rfl, h⟩
  have hcut3 : ∀ W, (Instr.slice 123 (.slice (some ⟨g, 0, none⟩) (n - 1) c) (some (.int .i64 ((n - 1 : Nat) : Int))) (some (.int .i64 (n : Int))) none).run Tryz.prog W = .ok (.slice (some ⟨g, n - 1, none⟩) 1 (c - (n - 1))) W := fun W => by
   rw [run_slice_lh (P := Tryz.prog) W 123 (some ⟨g, 0, none⟩) (n - 1) c under_ii .i64 .i64 ((n - 1 : Nat) : Int) (n : Int) (by omega) (by omega) (by omega), size_ii]
   simp only [Result.andThen, sliced, Int.toNat_natCast, Nat.mul_one]
   rw [if_neg (by omega), Option.map_some, add_none, Nat.zero_add, show n - (n - 1) = 1 by omega]
  have hsrc : ∀ (W : World), W.heap[g]? = some (.cells cl.toArray 3 (0, 0)) → ∀ j v, (xs.drop (i + 1))[j]? = some v → W.cell? (AD.add j) = some v := fun W hW j v hj => by
   have hjl := (List.getElem?_eq_some_iff.1 hj).1
   rw [List.length_drop, hxl] at hjl
   have hbg : Blk W g 3 cl.toArray := hW
   rw [hAD (by omega), add_none, hbg.cell, List.getElem?_toArray]
   rw [← hct, List.getElem?_drop, List.getElem?_take] at hj
   split at hj
   ·exact hj
   ·cases hj
  have hdl : (xs.drop (i + 1)).length = n - (i + 1) := by rw [List.length_drop, hxl]
  have h1d : ∀ y ∈ xs.drop (i + 1), y.oneCell' = true := fun y hy => h1 y (List.mem_of_mem_drop hy)
  have hgd : w.drew.heap[g]? = some (.cells cl.toArray 3 (0, 0)) := hg
  have hsd := hsrc w.drew hgd
  have hroom : i + (n - (i + 1)) ≤ c := by omega
  have hfit : i + (xs.drop (i + 1)).length ≤ cl.toArray.size := by rw [hdl, List.size_toArray]; omega
  have hne : decide ((i : Int) = ((i + 1 : Nat) : Int)) = false := decide_eq_false (by omega)
  have hne2 : ¬ i = i + 1 := by omega
  obtain ⟨i1, hi1⟩ : ∃ i1, i1 = i + 1 := ⟨_, rfl⟩
  obtain ⟨m1, hm1⟩ : ∃ m1, m1 = n - 1 := ⟨_, rfl⟩
  obtain ⟨k, hk⟩ : ∃ k, k = n - i1 := ⟨_, rfl⟩
  obtain ⟨ck, hck⟩ : ∃ ck, ck = c - i1 := ⟨_, rfl⟩
  rw [← hi1] at hcut0 hcutL hdl h1d hsd hroom hfit hne hne2 ⊢
  rw [← hk] at hcutL hdl hroom
  rw [← hck] at hcutL
  rw [← hm1] at hcut3 ⊢
  have hik : i + k = m1 := by omega
  obtain ⟨c1, hc1⟩ : ∃ c1, c1 = c - m1 := ⟨_, rfl⟩
  rw [← hc1] at hcut3
  have HE := hide (And.intro hi1 (And.intro hm1 (And.intro hk hck)))
  have HIK := hide hik
  clear hi1 hm1 hk hck hc1 hAD hown hik
  go_enter Tryz.func128, Tryz.ntmps128
  go_upto_region 5 with fail
  go_region_law (refine step_ap (w := w.drew) rfl _ _ _ rfl 3 ii Tryz.underlying123 hii hs1 g i c AD k ck (by go_simp) (by go_simp) cl.toArray hgd (xs.drop i1) hdl hsd h1d hroom hfit ?_)
  try simp only [List.getElem_toArray, List.getElem_cons_zero, List.getElem_cons_succ, Act.put, List.setIfInBounds_toArray, List.set_cons_zero, List.set_cons_succ]
  have hE := HE.out
  have hIK := HIK.out
  obtain ⟨c2, hc2e⟩ : ∃ c2, c2 = cl.take i ++ (xs.drop i1 ++ cl.drop m1) := ⟨_, rfl⟩
  rw [hIK, ← hc2e]
  have hg2 : (w.drew.setRow g c2.toArray).heap[g]? = some (.cells c2.toArray 3 (0, 0)) := setRow_heap _ g _ _ _ _ hgd
  have hcw2 : Chg (fun k => Value.ownBlock (.slice (some ⟨g, 0, none⟩) n c) = some k) w (w.drew.setRow g c2.toArray) := (Chg.refl _ w).drew.trans (chg_setRow (S := fun k => Value.ownBlock (.slice (some ⟨g, 0, none⟩) n c) = some k) rfl) fun _ _ h => h
  have hc2l : c2.length = c := by
   rw [hc2e]; simp only [List.length_append, List.length_take, List.length_drop]; omega
  have HC2 := hide hc2e
  generalize w.drew.setRow g c2.toArray = w2 at hg2 hcw2 ⊢
  have hb2 : Blk w2 g 3 c2.toArray := hg2
  have hz1 : w2.cell? ⟨g, m1, none⟩ = some c2[m1]! := by
   rw [hb2.cell, List.getElem?_toArray, List.getElem?_eq_getElem (by omega), getElem!_pos c2 m1 (by omega)]
  have hf1 := hb2.frozen m1
  have hclr : ∀ t', (Builtin.clear_ #[123] t' #[.slice (some ⟨g, m1, none⟩) 1 c1]).run Tryz.prog w2 = .ok (.tuple #[]) (w2.setCell ⟨g, m1, none⟩ (Value.int .i64 0)) := fun t' => by
   have h := Lib.run_clear_slice (P := Tryz.prog) w2 123 3 t' (Value.int .i64 0) Tryz.underlying123 (fun w => by kernel_rfl) rfl rfl g m1 1 c1 (by omega) (fun j hj => by rw [show j = 0 by omega, Nat.add_zero, hz1]; rfl) (fun j hj => by rw [show j = 0 by omega, Nat.add_zero]; exact hf1)
   exact h
  have hg3 := setCell_row (z := (Value.int .i64 0)) (j := m1) hg2
  have hcw3 : Chg (fun k => Value.ownBlock (.slice (some ⟨g, 0, none⟩) n c) = some k) w (w2.setCell ⟨g, m1, none⟩ (Value.int .i64 0)) := hcw2.setCell (p := ⟨g, m1, none⟩) (fun _ => rfl) _
  have hfin : (c2.set m1 (Value.int .i64 0)).take m1 = xs.take i ++ xs.drop i1 := by
   have e1 := del_row (i := i) hct hxl hi (by omega)
   rw [← hE.1, hdl, hIK, ← HC2.out, ← hE.2.1] at e1
   rw [List.take_set_of_le (Nat.le_refl _)]
   exact e1
  have hrow := ownsRow_of (base := base) hbg hg3 (by omega) hcm (by rw [List.length_set]; exact hc2l) hfin (by rw [List.length_append, List.length_take, hdl]; omega)
  have HR := hide (And.intro hrow hcw3)
  clear hsd hfin hrow hcw3 hg3 hcw2 hc2e hroom hfit hE hIK
  go_wp2_with fail
  go_ret
  exact ⟨_, rfl, HR.out.1, HR.out.2, rfl⟩

theorem take_drop_at {α : Type} {l : List α} {i j : Nat} : (l.take i ++ l.drop (i + 1))[j]? = if j < i then l[j]? else l[j + 1]? := by
 by_cases hi : i ≤ l.length
 ·have ht : (l.take i).length = i := by rw [List.length_take]; omega
  rw [List.getElem?_append, ht]
  by_cases h : j < i
  ·rw [if_pos h, if_pos h, List.getElem?_take, if_pos h]
  ·rw [if_neg h, if_neg h, List.getElem?_drop]; congr 1; omega
 ·have e1 : l.drop (i + 1) = [] := List.drop_eq_nil_of_le (by omega)
  have e2 : l.take i = l := List.take_of_length_le (by omega)
  rw [e1, e2, List.append_nil]
  by_cases h : j < i
  ·rw [if_pos h]
  ·rw [if_neg h, List.getElem?_eq_none (by omega), List.getElem?_eq_none (by omega)]
theorem ins_at' {α : Type} {l : List α} {i : Nat} (hi : i ≤ l.length) (x : α) (j : Nat) : (l.take i ++ x :: l.drop i)[j]? = if j < i then l[j]? else if j = i then some x else l[j - 1]? := by
 have ht : (l.take i).length = i := by rw [List.length_take]; omega
 rw [List.getElem?_append, ht]
 by_cases h : j < i
 ·rw [if_pos h, if_pos h, List.getElem?_take, if_pos h]
 ·rw [if_neg h, if_neg h]
  by_cases e : j = i
  ·rw [if_pos e, e, Nat.sub_self]; rfl
  ·rw [if_neg e]
   obtain ⟨d, rfl⟩ : ∃ d, j = i + d + 1 := ⟨j - i - 1, by omega⟩
   rw [show i + d + 1 - i = d + 1 by omega, List.getElem?_cons_succ, List.getElem?_drop]
   congr 1
theorem OwnBB.one {w : World} {F : Nat → Prop} {v : Value} {ll : List (List UInt8)} {vs : List Value} (h1 : vs.length = ll.length) (h3 : ∀ (k : Nat) (x : Value) (l : List UInt8), vs[k]? = some x → ll[k]? = some l → RdB w (fun b => F b ∧ b < w.heap.size ∧ v.ownBlock ≠ some b) x l) : ∀ y ∈ vs, y.oneCell' = true := fun y hy => by
 obtain ⟨k, hk, rfl⟩ := List.getElem_of_mem hy
 obtain ⟨A, c, e, _, _⟩ := (h3 k vs[k] ll[k] (List.getElem?_eq_getElem hk) (List.getElem?_eq_getElem (by omega))).shape
 rw [e]; rfl
/-- slices.Insert of a list of bytes into lists that the caller owns -/
theorem insBB {w : World} {base i gx : Nat} {F : Nat → Prop} {v x : Value} {ll : List (List UInt8)} {l : List UInt8} (h : OwnBB w base F v ll) (hi : i ≤ ll.length) (hl : ll.length ≤ 1000000) (hg : Blk w gx 30 #[x]) (hne : v.ownBlock ≠ some gx) (hx : RdB w (fun b => F b ∧ b < w.heap.size ∧ v.ownBlock ≠ some b) x l) (hb : base ≤ w.heap.size) :
  Calls Tryz.prog 132 #[v, .int .i64 (i : Int), .slice (some ⟨gx, 0, none⟩) 1 1] w fun e w' => ∃ u, e = .returned u ∧ OwnBB w' base F u (ll.take i ++ l :: ll.drop i) ∧ Chg (fun k => v.ownBlock = some k) w w' ∧ (u.ownBlock = v.ownBlock ∨ ∃ k, u.ownBlock = some k ∧ w.heap.size ≤ k) := by
 obtain ⟨vs, h1, h2, h3⟩ := h
 obtain ⟨A, c, ex, _, _⟩ := hx.shape
 refine (ins_bb h2 hi hl hg hne (by rw [ex]; rfl) (OwnBB.one h1 h3) hb).mono ?_
 rintro e w' ⟨u, rfl, hr, hc, hat⟩
 have mv : ∀ {y : Value} {m : List UInt8}, RdB w (fun b => F b ∧ b < w.heap.size ∧ v.ownBlock ≠ some b) y m → RdB w' (fun b => F b ∧ b < w'.heap.size ∧ u.ownBlock ≠ some b) y m := fun hy =>
  (hy.chg hc fun b hb e => hb.2.2 e).mono fun b hb => ⟨hb.1, Nat.lt_of_lt_of_le hb.2.1 hc.size, fun e => by
   rcases hat with h | ⟨k, h, hk⟩
   ·exact hb.2.2 (h ▸ e)
   ·rw [h] at e; injection e with e; omega⟩
 refine ⟨u, rfl, ⟨vs.take i ++ x :: vs.drop i, by simp only [List.length_append, List.length_cons, List.length_take, List.length_drop, h1], ?_, fun k y m hy hm => ?_⟩, hc, hat⟩
 ·have e : (ll.take i ++ l :: ll.drop i).length = ll.length + 1 := by simp only [List.length_append, List.length_cons, List.length_take, List.length_drop]; omega
  rw [e]; exact hr
 ·rw [ins_at' (by omega)] at hy hm
  by_cases c1 : k < i
  ·rw [if_pos c1] at hy hm
   exact mv (h3 k y m hy hm)
  ·rw [if_neg c1] at hy hm
   by_cases c2 : k = i
   ·rw [if_pos c2] at hy hm
    injection hy with hy; injection hm with hm
    subst hy; subst hm
    exact mv hx
   ·rw [if_neg c2] at hy hm
    exact mv (h3 (k - 1) y m hy hm)
/-- slices.Delete of one list of bytes out of lists that the caller owns -/
theorem delBB {w : World} {base i : Nat} {F : Nat → Prop} {v : Value} {ll : List (List UInt8)} (h : OwnBB w base F v ll) (hi : i < ll.length) (hl : ll.length ≤ 1000000) :
  Calls Tryz.prog 129 #[v, .int .i64 (i : Int), .int .i64 ((i + 1 : Nat) : Int)] w fun e w' => ∃ u, e = .returned u ∧ OwnBB w' base F u (ll.take i ++ ll.drop (i + 1)) ∧ Chg (fun k => v.ownBlock = some k) w w' ∧ u.ownBlock = v.ownBlock := by
 obtain ⟨vs, h1, h2, h3⟩ := h
 refine (del_bb h2 hi hl (OwnBB.one h1 h3)).mono ?_
 rintro e w' ⟨u, rfl, hr, hc, hat⟩
 refine ⟨u, rfl, ⟨vs.take i ++ vs.drop (i + 1), by simp only [List.length_append, List.length_take, List.length_drop, h1], ?_, fun k y m hy hm => ?_⟩, hc, hat⟩
 ·have e : (ll.take i ++ ll.drop (i + 1)).length = ll.length - 1 := by simp only [List.length_append, List.length_take, List.length_drop]; omega
  rw [e]; exact hr
 ·rw [take_drop_at] at hy hm
  have mv : ∀ {y : Value} {m : List UInt8}, RdB w (fun b => F b ∧ b < w.heap.size ∧ v.ownBlock ≠ some b) y m → RdB w' (fun b => F b ∧ b < w'.heap.size ∧ u.ownBlock ≠ some b) y m := fun hy =>
   (hy.chg hc fun b hb e => hb.2.2 e).mono fun b hb => ⟨hb.1, Nat.lt_of_lt_of_le hb.2.1 hc.size, fun e => hb.2.2 (hat ▸ e)⟩
  by_cases c1 : k < i
  ·rw [if_pos c1] at hy hm
   exact mv (h3 k y m hy hm)
  ·rw [if_neg c1] at hy hm
   exact mv (h3 (k + 1) y m hy hm)
theorem insI {w : World} {base i gx : Nat} {v : Value} {l : List Int} {n : Int} (h : OwnI w base v l) (hi : i ≤ l.length) (hl : l.length ≤ 1000000) (hg : Blk w gx 3 #[.int .i64 n]) (hne : v.ownBlock ≠ some gx) (hb : base ≤ w.heap.size) :
  Calls Tryz.prog 133 #[v, .int .i64 (i : Int), .slice (some ⟨gx, 0, none⟩) 1 1] w fun e w' => ∃ u, e = .returned u ∧ OwnI w' base u (l.take i ++ n :: l.drop i) ∧ Chg (fun k => v.ownBlock = some k) w w' ∧ (u.ownBlock = v.ownBlock ∨ ∃ k, u.ownBlock = some k ∧ w.heap.size ≤ k) := by
 refine (ins_ii h hi hl hg hne rfl (fun y hy => by obtain ⟨a, _, rfl⟩ := List.mem_map.1 hy; rfl) hb).mono ?_
 rintro e w' ⟨u, rfl, hr, hc, hat⟩
 refine ⟨u, rfl, ?_, hc, hat⟩
 unfold OwnI
 have e : (l.take i ++ n :: l.drop i).length = l.length + 1 := by simp only [List.length_append, List.length_cons, List.length_take, List.length_drop]; omega
 have e2 : ivs (l.take i ++ n :: l.drop i) = (ivs l).take i ++ .int .i64 n :: (ivs l).drop i := by simp [ivs, List.map_take, List.map_drop]
 rw [e, e2]; exact hr
theorem delI {w : World} {base i : Nat} {v : Value} {l : List Int} (h : OwnI w base v l) (hi : i < l.length) (hl : l.length ≤ 1000000) :
  Calls Tryz.prog 128 #[v, .int .i64 (i : Int), .int .i64 ((i + 1 : Nat) : Int)] w fun e w' => ∃ u, e = .returned u ∧ OwnI w' base u (l.take i ++ l.drop (i + 1)) ∧ Chg (fun k => v.ownBlock = some k) w w' ∧ u.ownBlock = v.ownBlock := by
 refine (del_ii h hi hl (fun y hy => by obtain ⟨a, _, rfl⟩ := List.mem_map.1 hy; rfl)).mono ?_
 rintro e w' ⟨u, rfl, hr, hc, hat⟩
 refine ⟨u, rfl, ?_, hc, hat⟩
 unfold OwnI
 have e : (l.take i ++ l.drop (i + 1)).length = l.length - 1 := by simp only [List.length_append, List.length_take, List.length_drop]; omega
 have e2 : ivs (l.take i ++ l.drop (i + 1)) = (ivs l).take i ++ (ivs l).drop (i + 1) := by simp [ivs, List.map_take, List.map_drop]
 rw [e, e2]; exact hr
end Go.Proofs.YtliimeoblffigaaGreat

