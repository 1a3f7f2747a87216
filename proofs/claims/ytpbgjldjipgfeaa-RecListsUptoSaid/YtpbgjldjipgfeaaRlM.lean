/- For RecLists: appends of records and places; places of a list; what may be changed beside a list of records. -/
import Derived.Test.YtpbgjldjipgfeaaTch
import Derived.Test.YtpbgjldjipgfeaaBtw
namespace Go.Proofs.Ytpbgjldjipgfeaa
open Go.RowKit
set_option linter.unusedVariables false

theorem info_Rc : (Try.prog.info? 32).map (fun i => (i.zero, i.size, i.bytes)) = some (some (.agg #[.int .i64 0, .int .u64 0, .int .u64 0, .int .u64 0, .slice none 0 0, .slice none 0 0, .bool false, .slice none 0 0, .slice none 0 0, .int .u64 0, .string ⟨#[]⟩]), 11, 160) := by kernel_rfl
/-- append of one record that stands in a literal's block -/
theorem append_G1 {w : World} {ops : Array Oper} {rest : List Oper} {o : Oper} {a : Act} {Q : Exit → Act → World → Prop} (hgd : o.guard = none) (s y : Operand)
    (ho : o.op = .call { callee := .builtin .append, args := #[s, y], argTypes := #[57, 57] })
    {base : Nat} {v : Value} {xs : List Value} {n : Nat} (hown : w.ownsRow base 32 11 v n xs) (hv : a.eval s = v)
    {x : RcS} {p q r z : Value} (hp : ∃ A n c, p = .slice A n c) (hq : ∃ A n c, q = .slice A n c) (hr' : ∃ A n c, r = .slice A n c) (hz' : ∃ A n c, z = .slice A n c)
    {g : Nat} (hg : Blk w g 32 (recC x p q r z)) (hy : a.eval y = .slice (some ⟨g, 0, none⟩) 1 1)
    (hb : n + 1 ≤ 100000000000) (hbase : base ≤ w.heap.size)
    (h : ∀ v' w', w'.ownsRow base 32 11 v' (n + 1) (xs ++ recL x p q r z) → w.grownBy w' v.ownBlock → (v'.ownBlock = v.ownBlock ∨ v'.ownBlock = some w.heap.size) → wpList Try.prog ops Q rest (a.put o.dst v') w') : wpList Try.prog ops Q (o :: rest) a w := by
  obtain ⟨i, hi, hz, h1, h2⟩ := info_parts info_Rc
  have hr : RdV w (fun _ => True) 11 (.slice (some ⟨g, 0, none⟩) 1 1) 1 (recL x p q r z) := ⟨rfl, _, 1, rfl, Nat.le_refl _, by simp [maxLen], fun _ => ⟨_, rfl, trivial, fun j y hyj => by
    rw [add_none, hg.cell, Nat.zero_add]
    rw [← hyj]; exact List.getElem?_toArray⟩⟩
  obtain ⟨_, _, _, rfl⟩ := hp
  obtain ⟨_, _, _, rfl⟩ := hq
  obtain ⟨_, _, _, rfl⟩ := hr'
  obtain ⟨_, _, _, rfl⟩ := hz'
  refine wpList_append_rd w hgd s y _ ho base 32 i _ 11 160 Try.underlying57 hi hz h1 h2 rfl (by omega) v hv _ _ hown _ _ hy _ _ hr (fun y hy => by simp [recL] at hy; rcases hy with rfl | rfl | rfl | rfl | rfl | rfl | rfl | rfl | rfl | rfl | rfl <;> rfl) (by simp only [maxLen]; omega) (by omega) hbase ?_
  intro v' w' hown' hgr _ hat
  exact h v' w' hown' hgr hat
/-- append of one place that stands in a literal's block -/
theorem append_P1 {w : World} {ops : Array Oper} {rest : List Oper} {o : Oper} {a : Act} {Q : Exit → Act → World → Prop} (hgd : o.guard = none) (s y : Operand)
    (ho : o.op = .call { callee := .builtin .append, args := #[s, y], argTypes := #[50, 50] })
    {base : Nat} {v : Value} {xs : List Value} {n : Nat} (hown : w.ownsRow base 53 12 v n xs) (hv : a.eval s = v)
    {x : RcS} {p q r z : Value} {t : Nat} (hp : ∃ A n c, p = .slice A n c) (hq : ∃ A n c, q = .slice A n c) (hr' : ∃ A n c, r = .slice A n c) (hz' : ∃ A n c, z = .slice A n c)
    {g : Nat} (hg : Blk w g 53 (posL x p q r z t).toArray) (hy : a.eval y = .slice (some ⟨g, 0, none⟩) 1 1)
    (hb : n + 1 ≤ 100000000000) (hbase : base ≤ w.heap.size)
    (h : ∀ v' w', w'.ownsRow base 53 12 v' (n + 1) (xs ++ posL x p q r z t) → w.grownBy w' v.ownBlock → (v'.ownBlock = v.ownBlock ∨ v'.ownBlock = some w.heap.size) → wpList Try.prog ops Q rest (a.put o.dst v') w') : wpList Try.prog ops Q (o :: rest) a w := by
  obtain ⟨i, hi, hz, h1, h2⟩ := info_parts info_P1
  have hr : RdV w (fun _ => True) 12 (.slice (some ⟨g, 0, none⟩) 1 1) 1 (posL x p q r z t) := ⟨rfl, _, 1, rfl, Nat.le_refl _, by simp [maxLen], fun _ => ⟨_, rfl, trivial, fun j y hyj => by
    rw [add_none, hg.cell, Nat.zero_add]
    rw [← hyj]; exact List.getElem?_toArray⟩⟩
  obtain ⟨_, _, _, rfl⟩ := hp
  obtain ⟨_, _, _, rfl⟩ := hq
  obtain ⟨_, _, _, rfl⟩ := hr'
  obtain ⟨_, _, _, rfl⟩ := hz'
  refine wpList_append_rd w hgd s y _ ho base 53 i _ 12 168 Try.underlying50 hi hz h1 h2 rfl (by omega) v hv _ _ hown _ _ hy _ _ hr (fun y hy => by simp [posL] at hy; rcases hy with rfl | rfl | rfl | rfl | rfl | rfl | rfl | rfl | rfl | rfl | rfl | rfl <;> rfl) (by simp only [maxLen]; omega) (by omega) hbase ?_
  intro v' w' hown' hgr _ hat
  exact h v' w' hown' hgr hat
theorem zip_snoc (l : List RcS) (x : RcS) : (l ++ [x]).zipIdx = l.zipIdx ++ [(x, l.length)] := by
  rw [List.zipIdx_append]; simp
/-- blocks that are none of three rows -/
def Off (b n : Nat) (g p t : Value) (k : Nat) : Prop := b ≤ k ∧ k < n ∧ ¬ (some k = g.ownBlock) ∧ ¬ (some k = p.ownBlock) ∧ ¬ (some k = t.ownBlock)
/-- a row that grew lies where it lay, or anew -/
theorem Off.grow {b n n' : Nat} {g p t g' p' t' : Value} {k : Nat} (h : Off b n g p t k) (hn : n ≤ n') (h1 : g'.ownBlock = g.ownBlock ∨ ∃ m, g'.ownBlock = some m ∧ n ≤ m) (h2 : p'.ownBlock = p.ownBlock ∨ ∃ m, p'.ownBlock = some m ∧ n ≤ m) (h3 : t'.ownBlock = t.ownBlock ∨ ∃ m, t'.ownBlock = some m ∧ n ≤ m) : Off b n' g' p' t' k := by
  obtain ⟨a1, a2, a3, a4, a5⟩ := h
  refine ⟨a1, by omega, ?_, ?_, ?_⟩
  · rcases h1 with h | ⟨m, h, hm⟩
    · rw [h]; exact a3
    · rw [h]; intro e; injection e with e; omega
  · rcases h2 with h | ⟨m, h, hm⟩
    · rw [h]; exact a4
    · rw [h]; intro e; injection e with e; omega
  · rcases h3 with h | ⟨m, h, hm⟩
    · rw [h]; exact a5
    · rw [h]; intro e; injection e with e; omega
/-- the first n of a list -/
theorem rdL_take {w : World} {F : Nat → Prop} {A : Option Addr} {m c : Nat} {l : List RcS} (h : RdL w F (.slice A m c) l) (n : Nat) : RdL w F (.slice A (min n m) c) (l.take n) := by
  obtain ⟨qs, hq, ⟨h1, A', c', e, h2, h3, h4⟩, hE⟩ := h
  injection e with e1 e2 e3
  subst e1; subst e2; subst e3
  have hl : (l.take n).length = min n l.length := List.length_take
  refine ⟨qs.take n, by rw [List.length_take, hl, hq], ⟨?_, A, c, by rw [hl], by rw [hl]; omega, h3, fun hn => ?_⟩, fun i q x hqi hx => ?_⟩
  · rw [flL_len _ _ (by rw [List.length_take, hl, hq])]
  · obtain ⟨ad, e, hF, hc⟩ := h4 (by rw [hl] at hn; omega)
    refine ⟨ad, e, hF, fun j u hu => hc j u ?_⟩
    have hs : flL qs l = flL (qs.take n) (l.take n) ++ flL (qs.drop n) (l.drop n) := by
      rw [← flL_app (by rw [List.length_take, hl, hq]), List.take_append_drop, List.take_append_drop]
    rw [hs, List.getElem?_append_left (List.getElem?_eq_some_iff.1 hu).1]
    exact hu
  · rw [List.getElem?_take] at hqi hx
    split at hqi
    · rename_i hin
      rw [if_pos hin] at hx
      exact hE i q x hqi hx
    · cases hqi
theorem filter_mid {α : Type} (P : α → Bool) (l1 l2 : List α) (x : α) (h : P x = true) : (l1 ++ x :: l2).filter P = l1.filter P ++ x :: l2.filter P := by
  rw [List.filter_append, List.filter_cons_of_pos h]
theorem own_rdL {w : World} {F : Nat → Prop} {b : Nat} {v : Value} {qs : List Q4} {l : List RcS} (hq : qs.length = l.length) (h : w.ownsRow b 32 11 v l.length (flL qs l)) (hr : RcsL w F qs l) : RdL w (fun _ => True) v l :=
  ⟨qs, hq, (RdV.of_own h).mono fun _ _ => trivial, hr.mono fun _ _ => trivial⟩
theorem own_rdP {w : World} {F : Nat → Prop} {b : Nat} {v : Value} {qs : List Q4} {l : List RcS} (hq : qs.length = l.length) (h : w.ownsRow b 53 12 v l.length (flP qs l.zipIdx)) (hr : RcsL w F qs l) (hs : ∀ x ∈ l, RcSm x) : RdP w (fun _ => True) v l.zipIdx := by
  refine ⟨qs, by simp [hq], ?_, fun i q p hq hp => ?_⟩
  · rw [List.length_zipIdx]; exact (RdV.of_own h).mono fun _ _ => trivial
  · rw [List.getElem?_zipIdx] at hp
    obtain ⟨x, hx, rfl⟩ := Option.map_eq_some_iff.1 hp
    exact ⟨(hr i q x hq hx).mono fun _ _ => trivial, hs x (List.mem_of_getElem? hx)⟩
end Go.Proofs.Ytpbgjldjipgfeaa

namespace Go.Proofs.Ytpbgjldjipgfeaa
open Go.RowKit
set_option linter.unusedVariables false

structure St (w : World) (b : Nat) (gv pv tv : Value) (gq pq : List Q4) (lg lp : List RcS) (tl : List Tx) : Prop where
  gl : gq.length = lg.length
  pl : pq.length = lp.length
  g : w.ownsRow b 32 11 gv lg.length (flL gq lg)
  p : w.ownsRow b 53 12 pv lp.length (flP pq lp.zipIdx)
  t : w.ownsRow b 24 3 tv tl.length (tl.flatMap tvs)
  eg : RcsL w (Off b w.heap.size gv pv tv) gq lg
  ep : RcsL w (Off b w.heap.size gv pv tv) pq lp
section
variable {wA w2 w3 : World} {obj : Obj} {b : Nat} {gv pv tv gv' pv' tv' : Value} {gq pq : List Q4} {lg lp : List RcS} {tl : List Tx} {x : RcS} {p q r z : Value} {y : Tx}
theorem St.start (w : World) (b : Nat) : St w b (.slice none 0 0) (.slice none 0 0) (.slice none 0 0) [] [] [] [] [] :=
  ⟨rfl, rfl, World.ownsRow_nil _ _ _ 11, World.ownsRow_nil _ _ _ 12, World.ownsRow_nil _ _ _ 3, fun i q x hq _ => by simp at hq, fun i q x hq _ => by simp at hq⟩
theorem St.c0 (h : St wA b gv pv tv gq pq lg lp tl) (hc : Chg Non wA w2) : St w2 b gv pv tv gq pq lg lp tl :=
  ⟨h.gl, h.pl, row_chg h.g hc (fun _ _ h => h), row_chg h.p hc (fun _ _ h => h), row_chg h.t hc (fun _ _ h => h),
    (h.eg.chg hc (fun _ _ h => h)).mono fun k hk => hk.grow hc.size (.inl rfl) (.inl rfl) (.inl rfl), (h.ep.chg hc (fun _ _ h => h)).mono fun k hk => hk.grow hc.size (.inl rfl) (.inl rfl) (.inl rfl)⟩
theorem St.gb (h : St wA b gv pv tv gq pq lg lp tl) {k : Nat} (e : some k = gv.ownBlock) : b ≤ k ∧ k < wA.heap.size := World.ownsRow.lt h.g k e.symm
theorem St.pb (h : St wA b gv pv tv gq pq lg lp tl) {k : Nat} (e : some k = pv.ownBlock) : b ≤ k ∧ k < wA.heap.size := World.ownsRow.lt h.p k e.symm
theorem St.tb (h : St wA b gv pv tv gq pq lg lp tl) {k : Nat} (e : some k = tv.ownBlock) : b ≤ k ∧ k < wA.heap.size := World.ownsRow.lt h.t k e.symm
theorem at_new {v v' : Value} {m n : Nat} (h : v'.ownBlock = v.ownBlock ∨ v'.ownBlock = some m) (hm : n ≤ m) : v'.ownBlock = v.ownBlock ∨ ∃ m, v'.ownBlock = some m ∧ n ≤ m := h.imp id fun h => ⟨m, h, hm⟩
theorem St.addG (h : St wA b gv pv tv gq pq lg lp tl) (hb : b ≤ wA.heap.size) (hc : Chg Non wA w2) (hO : RecR w2 (fun k => wA.heap.size ≤ k) x p q r z) (hg : (w2.alloc obj).grownBy w3 gv.ownBlock)
    (hrow : w3.ownsRow b 32 11 gv' (lg.length + 1) (flL gq lg ++ recL x p q r z)) (hat : gv'.ownBlock = gv.ownBlock ∨ gv'.ownBlock = some (w2.alloc obj).heap.size) :
    St w3 b gv' pv tv (gq ++ [(p, q, r, z)]) pq (lg ++ [x]) lp tl ∧ Chg (fun k => some k = gv.ownBlock) wA w3 := by
  have hcL : Chg Non wA (w2.alloc obj) := hc.alloc obj
  have hG := Chg.of_grown hg
  have hsz : w2.heap.size < (w2.alloc obj).heap.size := by simp
  have hs1 := hc.size
  have hs2 := hG.size
  have hn := at_new (n := wA.heap.size) hat (by omega)
  refine ⟨⟨by simp [h.gl], h.pl, ?_, row_chg (row_chg h.p hcL (fun _ _ h => h)) hG (own_ne2 h.p h.g (by decide)), row_chg (row_chg h.t hcL (fun _ _ h => h)) hG (own_ne2 h.t h.g (by decide)), ?_, ?_⟩, (chgN hcL).trans hG fun _ _ e => e⟩
  · rw [flL_app h.gl, List.length_append]; exact hrow
  · refine RcsL.snoc (((h.eg.chg hcL (fun _ _ h => h)).chg hG fun k hk e => hk.2.2.1 e).mono fun k hk => hk.grow (by omega) hn (.inl rfl) (.inl rfl)) h.gl ?_
    refine ((hO.lt.c0 ((Chg.refl Non w2).alloc obj)).chg hG fun k hk e => by have := (h.gb e).2; have := hk.1; omega).mono fun k hk => ?_
    obtain ⟨k1, k2⟩ := hk
    refine ⟨by omega, by omega, ?_, fun e => by have := (h.pb e).2; omega, fun e => by have := (h.tb e).2; omega⟩
    intro e
    rcases hat with h1 | h1
    · rw [h1] at e; have := (h.gb e).2; omega
    · rw [h1] at e; injection e with e; omega
  · exact ((h.ep.chg hcL (fun _ _ h => h)).chg hG fun k hk e => hk.2.2.1 e).mono fun k hk => hk.grow (by omega) hn (.inl rfl) (.inl rfl)
theorem St.addP (h : St wA b gv pv tv gq pq lg lp tl) (hb : b ≤ wA.heap.size) (hc : Chg Non wA w2) (hO : RecR w2 (fun k => wA.heap.size ≤ k) x p q r z) (hg : (w2.alloc obj).grownBy w3 pv.ownBlock)
    (hrow : w3.ownsRow b 53 12 pv' (lp.length + 1) (flP pq lp.zipIdx ++ posL x p q r z lp.length)) (hat : pv'.ownBlock = pv.ownBlock ∨ pv'.ownBlock = some (w2.alloc obj).heap.size) :
    St w3 b gv pv' tv gq (pq ++ [(p, q, r, z)]) lg (lp ++ [x]) tl ∧ Chg (fun k => some k = pv.ownBlock) wA w3 := by
  have hcL : Chg Non wA (w2.alloc obj) := hc.alloc obj
  have hG := Chg.of_grown hg
  have hsz : w2.heap.size < (w2.alloc obj).heap.size := by simp
  have hs1 := hc.size
  have hs2 := hG.size
  have hn := at_new (n := wA.heap.size) hat (by omega)
  refine ⟨⟨h.gl, by simp [h.pl], row_chg (row_chg h.g hcL (fun _ _ h => h)) hG (own_ne2 h.g h.p (by decide)), ?_, row_chg (row_chg h.t hcL (fun _ _ h => h)) hG (own_ne2 h.t h.p (by decide)), ?_, ?_⟩, (chgN hcL).trans hG fun _ _ e => e⟩
  · rw [zip_snoc, flP_app (by rw [h.pl, List.length_zipIdx]), List.length_append]; exact hrow
  · exact ((h.eg.chg hcL (fun _ _ h => h)).chg hG fun k hk e => hk.2.2.2.1 e).mono fun k hk => hk.grow (by omega) (.inl rfl) hn (.inl rfl)
  · refine RcsL.snoc (((h.ep.chg hcL (fun _ _ h => h)).chg hG fun k hk e => hk.2.2.2.1 e).mono fun k hk => hk.grow (by omega) (.inl rfl) hn (.inl rfl)) h.pl ?_
    refine ((hO.lt.c0 ((Chg.refl Non w2).alloc obj)).chg hG fun k hk e => by have := (h.pb e).2; have := hk.1; omega).mono fun k hk => ?_
    obtain ⟨k1, k2⟩ := hk
    refine ⟨by omega, by omega, fun e => by have := (h.gb e).2; omega, ?_, fun e => by have := (h.tb e).2; omega⟩
    intro e
    rcases hat with h1 | h1
    · rw [h1] at e; have := (h.pb e).2; omega
    · rw [h1] at e; injection e with e; omega
theorem St.addT (h : St wA b gv pv tv gq pq lg lp tl) (hg : (wA.alloc obj).grownBy w3 tv.ownBlock)
    (hrow : w3.ownsRow b 24 3 tv' (tl.length + 1) (tl.flatMap tvs ++ tvs y)) (hat : tv'.ownBlock = tv.ownBlock ∨ tv'.ownBlock = some (wA.alloc obj).heap.size) :
    St w3 b gv pv tv' gq pq lg lp (tl ++ [y]) ∧ Chg (fun k => some k = tv.ownBlock) wA w3 := by
  have hcL : Chg Non wA (wA.alloc obj) := (Chg.refl Non wA).alloc obj
  have hG := Chg.of_grown hg
  have hsz : wA.heap.size < (wA.alloc obj).heap.size := by simp
  have hs2 := hG.size
  have hn := at_new (n := wA.heap.size) hat (by omega)
  refine ⟨⟨h.gl, h.pl, row_chg (row_chg h.g hcL (fun _ _ h => h)) hG (own_ne2 h.g h.t (by decide)), row_chg (row_chg h.p hcL (fun _ _ h => h)) hG (own_ne2 h.p h.t (by decide)), ?_, ?_, ?_⟩, (chgN hcL).trans hG fun _ _ e => e⟩
  · rw [List.length_append, List.flatMap_append, List.flatMap_cons, List.flatMap_nil, List.append_nil]; exact hrow
  · exact ((h.eg.chg hcL (fun _ _ h => h)).chg hG fun k hk e => hk.2.2.2.2 e).mono fun k hk => hk.grow (by omega) (.inl rfl) (.inl rfl) hn
  · exact ((h.ep.chg hcL (fun _ _ h => h)).chg hG fun k hk e => hk.2.2.2.2 e).mono fun k hk => hk.grow (by omega) (.inl rfl) (.inl rfl) hn
end
end Go.Proofs.Ytpbgjldjipgfeaa

namespace Go.Proofs.Ytpbgjldjipgfeaa
open Go.RowKit
set_option linter.unusedVariables false

theorem RdTx.get {w : World} {F : Nat → Prop} {A : Option Addr} {n c : Nat} {l : List Tx} (h : RdTx w F (.slice A n c) l) {k : Nat} (hk : k < l.length) :
    ∃ ad, A = some ad ∧ w.cell? (ad.add (k * 3)) = some (.int .u64 (l[k].1 : Int)) ∧ w.cell? ⟨(ad.add (k * 3)).block, (ad.add (k * 3)).off + 1, none⟩ = some (.int .u64 (l[k].2.1 : Int)) ∧ w.cell? ⟨(ad.add (k * 3)).block, (ad.add (k * 3)).off + 2, none⟩ = some (.int .u64 (l[k].2.2 : Int)) := by
  have hs : l = l.take k ++ l[k] :: l.drop (k + 1) := by rw [List.getElem_cons_drop, List.take_append_drop]
  have hl : (l.take k).length = k := by rw [List.length_take]; omega
  obtain ⟨p, hp⟩ : ∃ p, p = l[k] := ⟨_, rfl⟩
  rw [← hp] at hs ⊢
  rw [hs] at h
  obtain ⟨ad, h1, h2⟩ := RdTx.at_ h
  rw [hl] at h2
  exact ⟨ad, h1, h2⟩
theorem RdP.c0 {w w' : World} {F : Nat → Prop} {v : Value} {ps : List (RcS × Nat)} (h : RdP w F v ps) (hc : Chg Non w w') : RdP w' F v ps := by
  obtain ⟨qs, h1, h2, h3⟩ := h
  exact ⟨qs, h1, h2.chg hc (fun _ _ h => h), h3.c0 hc⟩
theorem rdI_two {w : World} {g : Nat} {a b : Int} (h : Blk w g 3 #[.int .i64 a, .int .i64 b]) : RdI w (fun _ => True) (.slice (some ⟨g, 0, none⟩) 2 2) [a, b] := by
  refine ⟨rfl, _, 2, rfl, Nat.le_refl _, by simp [maxLen], fun _ => ⟨_, rfl, trivial, fun j u hu => ?_⟩⟩
  rw [add_none, h.cell, Nat.zero_add]
  rw [← hu]; exact List.getElem?_toArray
theorem zip_mid (k1 k2 : List RcS) (x : RcS) : (k1 ++ x :: k2).zipIdx = k1.zipIdx ++ (x, k1.length) :: k2.zipIdx (k1.length + 1) := by
  rw [List.zipIdx_append]; simp
theorem OwnP.at_ {w : World} {base n cp : Nat} {A : Option Addr} {qs : List Q4} {A1 A2 : List (RcS × Nat)} {x : RcS} {t k : Nat} (h : OwnP w base (.slice A n cp) qs (A1 ++ (x, t) :: A2)) (hk : k = A1.length) :
    ∃ a b c d xs ys, RecOwn w base x a b c d xs ys ∧ ∃ ad, A = some ad ∧ w.cell? (ad.add (k * 12)) = some (.int .i64 x.kind) ∧ w.cell? ⟨(ad.add (k * 12)).block, (ad.add (k * 12)).off + 1, none⟩ = some (.int .u64 (x.boot : Int)) ∧ w.cell? ⟨(ad.add (k * 12)).block, (ad.add (k * 12)).off + 2, none⟩ = some (.int .u64 (x.sess : Int)) ∧ w.cell? ⟨(ad.add (k * 12)).block, (ad.add (k * 12)).off + 3, none⟩ = some (.int .u64 (x.seq : Int)) ∧ w.cell? ⟨(ad.add (k * 12)).block, (ad.add (k * 12)).off + 4, none⟩ = some a ∧ w.cell? ⟨(ad.add (k * 12)).block, (ad.add (k * 12)).off + 5, none⟩ = some b ∧ w.cell? ⟨(ad.add (k * 12)).block, (ad.add (k * 12)).off + 6, none⟩ = some (.bool x.commit) ∧ w.cell? ⟨(ad.add (k * 12)).block, (ad.add (k * 12)).off + 7, none⟩ = some c ∧ w.cell? ⟨(ad.add (k * 12)).block, (ad.add (k * 12)).off + 8, none⟩ = some d ∧ w.cell? ⟨(ad.add (k * 12)).block, (ad.add (k * 12)).off + 9, none⟩ = some (.int .u64 (x.id : Int)) ∧ w.cell? ⟨(ad.add (k * 12)).block, (ad.add (k * 12)).off + 10, none⟩ = some (.string x.name) ∧ w.cell? ⟨(ad.add (k * 12)).block, (ad.add (k * 12)).off + 11, none⟩ = some (.int .u64 (t : Int)) := by
  obtain ⟨h1, h2, h3⟩ := h
  subst hk
  have hk : A1.length < qs.length := by rw [h1, List.length_append, List.length_cons]; omega
  have hs : qs = qs.take A1.length ++ qs[A1.length] :: qs.drop (A1.length + 1) := by rw [List.getElem_cons_drop, List.take_append_drop]
  have hl : (qs.take A1.length).length = A1.length := by rw [List.length_take]; omega
  have hq : qs[A1.length]? = some qs[A1.length] := List.getElem?_eq_getElem hk
  obtain ⟨q, hqe⟩ : ∃ q, q = qs[A1.length] := ⟨_, rfl⟩
  rw [← hqe] at hs hq
  obtain ⟨a, b, c, d⟩ := q
  obtain ⟨xs, ys, hR⟩ := h3 A1.length (a, b, c, d) (x, t) hq (by rw [List.getElem?_append_right (Nat.le_refl _), Nat.sub_self]; rfl)
  have hV := RdV.of_own h2
  rw [hs, flP_app hl, flP_cons] at hV
  exact ⟨a, b, c, d, xs, ys, hR, pos_at (k := A1.length) hV (flP_len _ _ hl)⟩
end Go.Proofs.Ytpbgjldjipgfeaa
