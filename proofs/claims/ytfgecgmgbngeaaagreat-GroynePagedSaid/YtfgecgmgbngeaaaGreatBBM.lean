/- Lists of byte lists that a call makes: append of one list onto them. Plain theorems, and append at this program's type. -/
import Derived.Test.YtfgecgmgbngeaaaGreatBase
import Derived.Test.YtfgecgmgbngeaaaGreatOrdX
set_option linter.unusedSimpArgs false
set_option maxRecDepth 100000
namespace Go.Proofs.YtfgecgmgbngeaaaGreat
open Go.RowKit

theorem info_bb : (Tryz.prog.info? 30).map (fun i => (i.zero, i.size, i.bytes)) = some (some (.slice none 0 0), 1, 24) := by kernel_rfl

theorem RdBB.front {w : World} {F : Nat → Prop} {A : Option Addr} {n c j : Nat} {ll : List (List UInt8)} (h : RdBB w F (.slice A n c) ll) (hj : j ≤ ll.length) : RdBB w F (.slice A j c) (ll.take j) := by
  obtain ⟨A', c', e, hc, hm⟩ := h.shape
  injection e with e1 e2 e3
  subst e1; subst e2; subst e3
  obtain ⟨vs, h1, ⟨h2, A2, c2, e, _, _, h3⟩, h4⟩ := h
  injection e with e1 e2 e3
  subst e1; subst e3
  have el : (ll.take j).length = j := by simp; omega
  refine ⟨vs.take j, by simp [h1], ?_, fun k x l hx hl => ?_⟩
  · rw [el]
    refine ⟨by simp; omega, A, c, rfl, by omega, hm, fun hn => ?_⟩
    obtain ⟨ad, rfl, hf, hcell⟩ := h3 (by omega)
    refine ⟨ad, rfl, hf, fun i u hu => hcell i u ?_⟩
    rw [List.getElem?_take] at hu
    split at hu
    · exact hu
    · cases hu
  · rw [List.getElem?_take] at hx hl
    split at hx
    · rename_i hk
      rw [if_pos hk] at hl
      exact h4 k x l hx hl
    · cases hx

/-- the slice value v, made by the call, owns the lists ll; what they read lies in F, and not in v's own block -/
def OwnBB (w : World) (base : Nat) (F : Nat → Prop) (v : Value) (ll : List (List UInt8)) : Prop :=
  ∃ vs : List Value, vs.length = ll.length ∧ w.ownsRow base 30 1 v ll.length vs ∧
    ∀ (k : Nat) (x : Value) (l : List UInt8), vs[k]? = some x → ll[k]? = some l → RdB w (fun b => F b ∧ b < w.heap.size ∧ v.ownBlock ≠ some b) x l

section
variable {w w' : World} {F F' S : Nat → Prop} {v : Value} {ll : List (List UInt8)} {base : Nat}
theorem OwnBB.nil_ (w : World) (base : Nat) (F : Nat → Prop) : OwnBB w base F (.slice none 0 0) [] := ⟨[], rfl, World.ownsRow_nil w base _ 1, fun k x l hx _ => by simp at hx⟩
theorem OwnBB.shape (h : OwnBB w base F v ll) : ∃ A c, v = .slice A ll.length c ∧ ll.length ≤ c ∧ c ≤ maxLen := by
  obtain ⟨vs, h1, h2, h3⟩ := h
  exact (RdV.of_own h2).shape
theorem OwnBB.lt (h : OwnBB w base F v ll) : ∀ k, v.ownBlock = some k → base ≤ k ∧ k < w.heap.size := by
  obtain ⟨vs, h1, h2, h3⟩ := h
  exact World.ownsRow.lt h2
theorem OwnBB.chg (h : OwnBB w base F v ll) (hc : Chg S w w') (hn : ∀ k, v.ownBlock = some k → ¬ S k) (hF : ∀ k, F k → ¬ S k) : OwnBB w' base F v ll := by
  obtain ⟨vs, h1, h2, h3⟩ := h
  refine ⟨vs, h1, ⟨h2.1, ?_⟩, fun k x l hx hl => ((h3 k x l hx hl).chg hc fun b hb => hF b hb.1).mono fun b hb => ⟨hb.1, Nat.lt_of_lt_of_le hb.2.1 hc.size, hb.2.2⟩⟩
  rcases h2.2 with hn' | ⟨g, cap, cur, rfl, hb, hg, rest⟩
  · exact .inl hn'
  · exact .inr ⟨g, cap, cur, rfl, hb, hc.heap hg (hn g rfl), rest⟩
theorem OwnBB.c0 (h : OwnBB w base F v ll) (hc : Chg Non w w') : OwnBB w' base F v ll := h.chg hc (fun _ _ h => h) fun _ _ h => h
theorem OwnBB.al (h : OwnBB w base F v ll) (o : Obj) : OwnBB (w.alloc o) base F v ll := h.c0 ((Chg.refl Non w).alloc o)
theorem OwnBB.dr (h : OwnBB w base F v ll) : OwnBB w.drew base F v ll := h.c0 ((Chg.refl Non w).drew)
theorem OwnBB.dn (h : OwnBB w base F v ll) (n : Nat) : OwnBB (w.drewN n) base F v ll := h
theorem OwnBB.mono (h : OwnBB w base F v ll) (hF : ∀ k, F k → F' k) : OwnBB w base F' v ll := by
  obtain ⟨vs, h1, h2, h3⟩ := h
  exact ⟨vs, h1, h2, fun k x l hx hl => (h3 k x l hx hl).mono fun b hb => ⟨hF b hb.1, hb.2⟩⟩
theorem OwnBB.low (h : OwnBB w base F v ll) {b' : Nat} (hb : b' ≤ base) : OwnBB w b' F v ll := by
  obtain ⟨vs, h1, h2, h3⟩ := h
  refine ⟨vs, h1, ⟨h2.1, ?_⟩, h3⟩
  rcases h2.2 with hn | ⟨g, cap, cur, rfl, hg, rest⟩
  · exact .inl hn
  · exact .inr ⟨g, cap, cur, rfl, by omega, rest⟩
/-- as a reading -/
theorem OwnBB.rd (h : OwnBB w base F v ll) : RdBB w (fun b => (F b ∨ v.ownBlock = some b) ∧ b < w.heap.size) v ll := by
  obtain ⟨vs, h1, h2, h3⟩ := h
  refine ⟨vs, h1, (RdV.of_own h2).mono fun b hb => ⟨.inr hb, (World.ownsRow.lt h2 b hb).2⟩, fun k x l hx hl => (h3 k x l hx hl).mono fun b hb => ⟨.inl hb.1, hb.2.1⟩⟩
theorem oneCell_slice {A : Option Addr} {n c : Nat} : (Value.slice A n c).oneCell' = true := rfl
/-- one list more, when the outer list has grown -/
theorem OwnBB.grow {x : Value} {l : List UInt8} {vs : List Value} (h1 : vs.length = ll.length)
    (h3 : ∀ (k : Nat) (x : Value) (l : List UInt8), vs[k]? = some x → ll[k]? = some l → RdB w (fun b => F b ∧ b < w.heap.size ∧ v.ownBlock ≠ some b) x l)
    (hx : RdB w (fun b => F b ∧ b < w.heap.size ∧ v.ownBlock ≠ some b) x l) {v' : Value}
    (hown : w'.ownsRow base 30 1 v' (ll.length + 1) (vs ++ [x])) (hg : w.grownBy w' v.ownBlock) (hat : v'.ownBlock = v.ownBlock ∨ v'.ownBlock = some w.heap.size) :
    OwnBB w' base F v' (ll ++ [l]) := by
  have hmv : ∀ (y : Value) (m : List UInt8), RdB w (fun b => F b ∧ b < w.heap.size ∧ v.ownBlock ≠ some b) y m → RdB w' (fun b => F b ∧ b < w'.heap.size ∧ v'.ownBlock ≠ some b) y m := fun y m h =>
    (h.chg (Chg.of_grown hg) fun b hb e => hb.2.2 e.symm).mono fun b hb => ⟨hb.1, Nat.lt_of_lt_of_le hb.2.1 hg.size, fun e => by
      rcases hat with hat | hat
      · exact hb.2.2 (hat ▸ e)
      · rw [hat] at e; injection e with e; omega⟩
  refine ⟨vs ++ [x], by simp [h1], by rw [List.length_append]; exact hown, fun k y m hy hm => ?_⟩
  rw [List.getElem?_append] at hy hm
  rw [h1] at hy
  split at hy
  · rename_i h
    rw [if_pos h] at hm
    exact hmv y m (h3 k y m hy hm)
  · rename_i h
    rw [if_neg h] at hm
    have e : k - ll.length = 0 := by
      have := (List.getElem?_eq_some_iff.1 hy).1
      simp at this; omega
    rw [e] at hy hm
    simp at hy hm
    subst hy; subst hm
    exact hmv _ _ hx
end

/-- append of one list of bytes, that stands in a literal's block, onto lists that the call owns -/
theorem append_BB {w : World} {ops : Array Oper} {rest : List Oper} {o : Oper} {a : Act} {Q : Exit → Act → World → Prop} (hgd : o.guard = none) (s x : Operand)
    (ho : o.op = .call { callee := .builtin .append, args := #[s, x], argTypes := #[22, 22] })
    {base : Nat} {F : Nat → Prop} {v : Value} {ll : List (List UInt8)} (hown : OwnBB w base F v ll) (hv : a.eval s = v)
    {u : Value} {l : List UInt8} (hu : RdB w (fun b => F b ∧ b < w.heap.size ∧ v.ownBlock ≠ some b) u l)
    {g : Nat} (hg : Blk w g 30 #[u]) (hy : a.eval x = .slice (some ⟨g, 0, none⟩) 1 1)
    (hb : ll.length + 1 ≤ 1000000000000) (hbase : base ≤ w.heap.size)
    (h : ∀ v' w', OwnBB w' base F v' (ll ++ [l]) → w.grownBy w' v.ownBlock → (v'.ownBlock = v.ownBlock ∨ v'.ownBlock = some w.heap.size) → wpList Tryz.prog ops Q rest (a.put o.dst v') w') : wpList Tryz.prog ops Q (o :: rest) a w := by
  obtain ⟨i, hi, hz, h1, h2⟩ := info_parts info_bb
  obtain ⟨vs, e1, e2, e3⟩ := hown
  have hr : RdV w (fun _ => True) 1 (.slice (some ⟨g, 0, none⟩) 1 1) 1 [u] := ⟨rfl, _, 1, rfl, Nat.le_refl _, by simp [maxLen], fun _ => ⟨_, rfl, trivial, fun j y hyj => by
    rw [add_none, hg.cell]
    match j, hyj with
    | 0, hyj => simpa using hyj
    | j + 1, hyj => simp at hyj⟩⟩
  have h1c : ∀ y ∈ [u], y.oneCell' = true := fun y hy => by
    obtain ⟨A, c, rfl, _, _⟩ := hu.shape
    simp at hy; subst hy; rfl
  refine wpList_append_rd w hgd s x _ ho base 30 i _ 1 24 Tryz.underlying22 hi hz h1 h2 rfl (by omega) v hv _ _ e2 _ _ hy _ _ hr h1c (by simp only [maxLen]; omega) (by omega) hbase ?_
  intro v' w' hown' hgr _ hat
  exact h v' w' (OwnBB.grow e1 e3 hu hown' hgr hat) hgr hat

/-! ### lists of byte lists, each of which is the call's own -/
/-- no two of the values lie in one block, and none in v's -/
def SepV (v : Value) (vs : List Value) : Prop :=
  (∀ (i j : Nat) (x y : Value) (b : Nat), i < j → vs[i]? = some x → vs[j]? = some y → x.ownBlock = some b → y.ownBlock ≠ some b) ∧
  ∀ (i : Nat) (x : Value) (b : Nat), vs[i]? = some x → x.ownBlock = some b → v.ownBlock ≠ some b
def OwnsBB (w : World) (base : Nat) (v : Value) (ll : List (List UInt8)) : Prop :=
  ∃ vs : List Value, vs.length = ll.length ∧ w.ownsRow base 30 1 v ll.length vs ∧ SepV v vs ∧
    ∀ (k : Nat) (x : Value) (l : List UInt8), vs[k]? = some x → ll[k]? = some l → OwnB w base x l
section
variable {w w' : World} {S : Nat → Prop} {v : Value} {ll : List (List UInt8)} {base : Nat}
theorem OwnsBB.nil_ (w : World) (base : Nat) : OwnsBB w base (.slice none 0 0) [] := ⟨[], rfl, World.ownsRow_nil w base _ 1, ⟨fun i j x y b _ h => by simp at h, fun i x b h => by simp at h⟩, fun k x l hx _ => by simp at hx⟩
theorem OwnsBB.shape (h : OwnsBB w base v ll) : ∃ A c, v = .slice A ll.length c ∧ ll.length ≤ c ∧ c ≤ maxLen := by
  obtain ⟨vs, h1, h2, h3⟩ := h
  exact (RdV.of_own h2).shape
theorem OwnsBB.lt (h : OwnsBB w base v ll) : ∀ k, v.ownBlock = some k → base ≤ k ∧ k < w.heap.size := by
  obtain ⟨vs, h1, h2, h3⟩ := h
  exact World.ownsRow.lt h2
theorem OwnsBB.chg (h : OwnsBB w base v ll) (hc : Chg S w w') (hn : ∀ k, base ≤ k → k < w.heap.size → ¬ S k) : OwnsBB w' base v ll := by
  obtain ⟨vs, h1, h2, h3, h4⟩ := h
  have hlt := World.ownsRow.lt h2
  refine ⟨vs, h1, ⟨h2.1, ?_⟩, h3, fun k x l hx hl => (h4 k x l hx hl).chg hc fun b hb => hn b ((h4 k x l hx hl).lt b hb).1 ((h4 k x l hx hl).lt b hb).2⟩
  rcases h2.2 with hn' | ⟨g, cap, cur, rfl, hb, hg, rest⟩
  · exact .inl hn'
  · exact .inr ⟨g, cap, cur, rfl, hb, hc.heap hg (hn g (hlt g rfl).1 (hlt g rfl).2), rest⟩
theorem OwnsBB.c0 (h : OwnsBB w base v ll) (hc : Chg Non w w') : OwnsBB w' base v ll := h.chg hc fun _ _ _ h => h
theorem OwnsBB.al (h : OwnsBB w base v ll) (o : Obj) : OwnsBB (w.alloc o) base v ll := h.c0 ((Chg.refl Non w).alloc o)
theorem OwnsBB.dn (h : OwnsBB w base v ll) (n : Nat) : OwnsBB (w.drewN n) base v ll := h
theorem OwnsBB.rd (h : OwnsBB w base v ll) : RdBB w (fun b => base ≤ b ∧ b < w.heap.size) v ll := by
  obtain ⟨vs, h1, h2, h3, h4⟩ := h
  exact ⟨vs, h1, (RdV.of_own h2).mono fun b hb => World.ownsRow.lt h2 b hb, fun k x l hx hl => (h4 k x l hx hl).rdB⟩
theorem OwnsBB.low (h : OwnsBB w base v ll) {b' : Nat} (hb : b' ≤ base) : OwnsBB w b' v ll := by
  obtain ⟨vs, h1, h2, h3, h4⟩ := h
  refine ⟨vs, h1, ⟨h2.1, ?_⟩, h3, fun k x l hx hl => (h4 k x l hx hl).low hb⟩
  rcases h2.2 with hn | ⟨g, cap, cur, rfl, hg, rest⟩
  · exact .inl hn
  · exact .inr ⟨g, cap, cur, rfl, by omega, rest⟩
/-- one list more -/
theorem OwnsBB.grow {x : Value} {l : List UInt8} {vs : List Value} {n0 : Nat} (h1 : vs.length = ll.length) (h3 : SepV v vs)
    (h4 : ∀ (k : Nat) (x : Value) (l : List UInt8), vs[k]? = some x → ll[k]? = some l → OwnB w base x l)
    (hx : OwnB w base x l) (hnew : ∀ b, x.ownBlock = some b → n0 ≤ b) (hold : ∀ (i : Nat) (y : Value) (b : Nat), vs[i]? = some y → y.ownBlock = some b → b < n0) (hv : ∀ b, v.ownBlock = some b → b < n0) {v' : Value}
    (hown : w'.ownsRow base 30 1 v' (ll.length + 1) (vs ++ [x])) (hg : w.grownBy w' v.ownBlock) (hat : v'.ownBlock = v.ownBlock ∨ v'.ownBlock = some w.heap.size) :
    OwnsBB w' base v' (ll ++ [l]) := by
  have hat' : ∀ b, v'.ownBlock = some b → v.ownBlock = some b ∨ b = w.heap.size := fun b hb => by
    rcases hat with e | e
    · exact .inl (e ▸ hb)
    · rw [e] at hb; injection hb with hb; exact .inr hb.symm
  have hget : ∀ (i : Nat) (y : Value), (vs ++ [x])[i]? = some y → vs[i]? = some y ∨ (i = vs.length ∧ y = x) := fun i y hy => by
    rw [List.getElem?_append] at hy
    split at hy
    · exact .inl hy
    · have e : i - vs.length = 0 := by
        have := (List.getElem?_eq_some_iff.1 hy).1
        simp at this; omega
      rw [e] at hy
      simp at hy
      exact .inr ⟨by omega, hy.symm⟩
  have hmv : ∀ (y : Value) (m : List UInt8), OwnB w base y m → (∀ b, y.ownBlock = some b → v.ownBlock ≠ some b) → OwnB w' base y m := fun y m h hn =>
    h.chg (Chg.of_grown hg) fun b hb e => hn b hb e.symm
  have hxv : ∀ b, x.ownBlock = some b → v.ownBlock ≠ some b := fun b hb e => by have := hnew b hb; have := hv b e; omega
  refine ⟨vs ++ [x], by simp [h1], by rw [List.length_append]; exact hown, ⟨fun i j y z b hij hy hz hb e => ?_, fun i y b hy hb e => ?_⟩, fun k y m hy hm => ?_⟩
  · rcases hget j z hz with hz' | ⟨_, rfl⟩
    · rcases hget i y hy with hy' | ⟨hi, rfl⟩
      · exact h3.1 i j y z b hij hy' hz' hb e
      · have := (List.getElem?_eq_some_iff.1 hz').1; omega
    · rcases hget i y hy with hy' | ⟨hi, rfl⟩
      · have h1 := hold i y b hy' hb
        have h2 := hnew b e
        omega
      · rename_i hj; omega
  · have hlt : b < w.heap.size := by
      rcases hget i y hy with hy' | ⟨_, rfl⟩
      · have hi := (List.getElem?_eq_some_iff.1 hy').1
        exact ((h4 i y _ hy' (List.getElem?_eq_getElem (by omega))).lt b hb).2
      · exact (hx.lt b hb).2
    rcases hat' b e with e' | e'
    · rcases hget i y hy with hy' | ⟨_, rfl⟩
      · exact h3.2 i y b hy' hb e'
      · exact hxv b hb e'
    · omega
  · rw [List.getElem?_append] at hm
    rcases hget k y hy with hy' | ⟨hk, rfl⟩
    · have hi := (List.getElem?_eq_some_iff.1 hy').1
      rw [if_pos (by omega)] at hm
      exact hmv y m (h4 k y m hy' hm) fun b hb => h3.2 k y b hy' hb
    · rw [if_neg (by omega), show k - ll.length = 0 by omega] at hm
      simp at hm
      subst hm
      exact hmv _ _ hx hxv
end

/-- append of one list of the call's own, that stands in a literal's block, onto such lists -/
theorem append_BBo {w : World} {ops : Array Oper} {rest : List Oper} {o : Oper} {a : Act} {Q : Exit → Act → World → Prop} (hgd : o.guard = none) (s x : Operand)
    (ho : o.op = .call { callee := .builtin .append, args := #[s, x], argTypes := #[22, 22] })
    {base n0 : Nat} {v : Value} {ll : List (List UInt8)} {w0 : World} (hown : OwnsBB w0 base v ll) (hw0 : w0.heap.size = n0) {S : Nat → Prop} (hch : Chg S w0 w) (hS : ∀ k, base ≤ k → k < w0.heap.size → ¬ S k) (hv : a.eval s = v)
    {u : Value} {l : List UInt8} (hu : OwnB w n0 u l) (hn0 : base ≤ n0)
    {g : Nat} (hg : Blk w g 30 #[u]) (hy : a.eval x = .slice (some ⟨g, 0, none⟩) 1 1)
    (hb : ll.length + 1 ≤ 1000000000000)
    (h : ∀ v' w', OwnsBB w' base v' (ll ++ [l]) → w.grownBy w' v.ownBlock → (v'.ownBlock = v.ownBlock ∨ v'.ownBlock = some w.heap.size) → wpList Tryz.prog ops Q rest (a.put o.dst v') w') : wpList Tryz.prog ops Q (o :: rest) a w := by
  obtain ⟨i, hi, hz, h1, h2⟩ := info_parts info_bb
  subst hw0
  have hown1 := hown.chg hch hS
  obtain ⟨vs0, f1, f2, f3, f4⟩ := hown
  have hvb : ∀ b, v.ownBlock = some b → b < w0.heap.size := fun b hb => (World.ownsRow.lt f2 b hb).2
  have e1 := f1
  have e2 : w.ownsRow base 30 1 v ll.length vs0 := by
    refine ⟨f2.1, ?_⟩
    have hlt := World.ownsRow.lt f2
    rcases f2.2 with hn' | ⟨g, cap, cur, rfl, hb, hg, rest⟩
    · exact .inl hn'
    · exact .inr ⟨g, cap, cur, rfl, hb, hch.heap hg (hS g (hlt g rfl).1 (hlt g rfl).2), rest⟩
  have e4 : ∀ (k : Nat) (x : Value) (l : List UInt8), vs0[k]? = some x → ll[k]? = some l → OwnB w base x l := fun k x l hx hl => (f4 k x l hx hl).chg hch fun b hb => hS b ((f4 k x l hx hl).lt b hb).1 ((f4 k x l hx hl).lt b hb).2
  have hold : ∀ (i : Nat) (y : Value) (b : Nat), vs0[i]? = some y → y.ownBlock = some b → b < w0.heap.size := fun i y b hy hb => by
    have hi := (List.getElem?_eq_some_iff.1 hy).1
    exact ((f4 i y _ hy (List.getElem?_eq_getElem (by omega))).lt b hb).2
  have hr : RdV w (fun _ => True) 1 (.slice (some ⟨g, 0, none⟩) 1 1) 1 [u] := ⟨rfl, _, 1, rfl, Nat.le_refl _, by simp [maxLen], fun _ => ⟨_, rfl, trivial, fun j y hyj => by
    rw [add_none, hg.cell]
    match j, hyj with
    | 0, hyj => simpa using hyj
    | j + 1, hyj => simp at hyj⟩⟩
  have h1c : ∀ y ∈ [u], y.oneCell' = true := fun y hy => by
    obtain ⟨A, c, rfl, _, _⟩ := hu.shape
    simp at hy; subst hy; rfl
  refine wpList_append_rd w hgd s x _ ho base 30 i _ 1 24 Tryz.underlying22 hi hz h1 h2 rfl (by omega) v hv _ _ e2 _ _ hy _ _ hr h1c (by simp only [maxLen]; omega) (by omega) (Nat.le_trans hn0 hch.size) ?_
  intro v' w' hown' hgr _ hat
  exact h v' w' (OwnsBB.grow e1 f3 e4 (hu.low hn0) (fun b hb => (hu.lt b hb).1) hold hvb hown' hgr hat) hgr hat

end Go.Proofs.YtfgecgmgbngeaaaGreat

set_option maxRecDepth 100000
namespace Go.Proofs.YtfgecgmgbngeaaaGreat
open Go.RowKit
set_option linter.unusedVariables false
/-- append inside AnyT.one, behind the question whether it is wanted -/
theorem oper_B {w : World} {o : Oper} {a : Act} {K : Act → World → Prop} {Q : Exit → Act → World → Prop} (s x : Operand)
    (ho : o.op = .call { callee := .builtin .append, args := #[s, x], argTypes := #[30, 30] })
    {base : Nat} {v : Value} {l : List UInt8} (hown : OwnB w base v l) (hv : a.eval s = v)
    {y : Value} {F : Nat → Prop} {m : List UInt8} (hr : RdB w F y m) (hy : a.eval x = y)
    (hb : l.length + m.length ≤ 140737488355328) (hbase : base ≤ w.heap.size)
    (h : ∀ v' w', OwnB w' base v' (l ++ m) → w.grownBy w' v.ownBlock → (v'.ownBlock = v.ownBlock ∨ v'.ownBlock = some w.heap.size) → K (a.put o.dst v') w') :
    Oper.wp Tryz.prog o a w K Q := by
  subst hv; subst hy
  obtain ⟨i, hi, hz, h1, h2⟩ := info_parts info_u8
  refine wp_append_rd w s x _ ho base 5 i _ 1 1 Tryz.underlying30 hi hz h1 h2 rfl (by omega) _ _ hown F _ _ hr (bvs_one m) (by simp only [maxLen]; omega) (by omega) hbase ?_
  intro v' w' hown' hg _ hat
  refine h v' w' ?_ hg hat
  unfold OwnB
  rw [List.length_append, bvs_append]
  exact hown'

/-- the same with a list of lists, one list more -/
theorem oper_BB {w : World} {o : Oper} {a : Act} {K : Act → World → Prop} {Q : Exit → Act → World → Prop} (s x : Operand)
    (ho : o.op = .call { callee := .builtin .append, args := #[s, x], argTypes := #[22, 22] })
    {base : Nat} {F : Nat → Prop} {v : Value} {ll : List (List UInt8)} (hown : OwnBB w base F v ll) (hv : a.eval s = v)
    {u : Value} {l : List UInt8} (hu : RdB w (fun b => F b ∧ b < w.heap.size ∧ v.ownBlock ≠ some b) u l)
    {g : Nat} (hg : Blk w g 30 #[u]) (hy : a.eval x = .slice (some ⟨g, 0, none⟩) 1 1)
    (hb : ll.length + 1 ≤ 1000000000000) (hbase : base ≤ w.heap.size)
    (h : ∀ v' w', OwnBB w' base F v' (ll ++ [l]) → w.grownBy w' v.ownBlock → (v'.ownBlock = v.ownBlock ∨ v'.ownBlock = some w.heap.size) → K (a.put o.dst v') w') : Oper.wp Tryz.prog o a w K Q := by
  obtain ⟨i, hi, hz, h1, h2⟩ := info_parts info_bb
  obtain ⟨vs, e1, e2, e3⟩ := hown
  have hr : RdV w (fun _ => True) 1 (.slice (some ⟨g, 0, none⟩) 1 1) 1 [u] := ⟨rfl, _, 1, rfl, Nat.le_refl _, by simp [maxLen], fun _ => ⟨_, rfl, trivial, fun j y hyj => by
    rw [add_none, hg.cell]
    match j, hyj with
    | 0, hyj => simpa using hyj
    | j + 1, hyj => simp at hyj⟩⟩
  have h1c : ∀ y ∈ [u], y.oneCell' = true := fun y hy => by
    obtain ⟨A, c, rfl, _, _⟩ := hu.shape
    simp at hy; subst hy; rfl
  subst hv
  rw [← hy] at hr
  refine wp_append_rd w s x _ ho base 30 i _ 1 24 Tryz.underlying22 hi hz h1 h2 rfl (by omega) _ _ e2 _ _ _ hr h1c (by simp only [maxLen]; omega) (by omega) hbase ?_
  intro v' w' hown' hgr _ hat
  exact h v' w' (OwnBB.grow e1 e3 hu hown' hgr hat) hgr hat
end Go.Proofs.YtfgecgmgbngeaaaGreat
