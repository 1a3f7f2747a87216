/- Lists of byte lists whose elements may lie anywhere: a literal, and append of several at once. -/
import Derived.Test.YtpbgjldjipgfeaaRecB
import Derived.Test.YtpbgjldjipgfeaaBB
import Derived.Test.YtpbgjldjipgfeaaRefJ
import Derived.Test.YtpbgjldjipgfeaaWtr
namespace Go.Proofs.Ytpbgjldjipgfeaa
open Go.RowKit

/-- the call's own list of lists, whose elements lie anywhere but in it -/
def OwnT (w : World) (base : Nat) (v : Value) (ll : List (List UInt8)) : Prop := OwnBB w base (fun _ => True) v ll
/-- values that read as lists, apart from v's own block -/
def RdsB (w : World) (v : Value) (us : List Value) (ls : List (List UInt8)) : Prop :=
  us.length = ls.length ∧ ∀ (k : Nat) (x : Value) (l : List UInt8), us[k]? = some x → ls[k]? = some l → RdB w (fun b => True ∧ b < w.heap.size ∧ v.ownBlock ≠ some b) x l
section
variable {w w' : World} {v x : Value} {us : List Value} {ls ll : List (List UInt8)} {l : List UInt8} {F : Nat → Prop} {base : Nat}
theorem RdsB.nil_ (w : World) (v : Value) : RdsB w v [] [] := ⟨rfl, fun k x l h => by simp at h⟩
theorem RdsB.cons (h : RdB w F x l) (hd : ∀ b, F b → v.ownBlock ≠ some b) (t : RdsB w v us ls) : RdsB w v (x :: us) (l :: ls) := by
  refine ⟨by simp [t.1], fun k y m hy hm => ?_⟩
  cases k with
  | zero =>
    simp at hy hm
    subst hy; subst hm
    exact h.lt.mono fun b hb => ⟨trivial, hb.2, hd b hb.1⟩
  | succ k => exact t.2 k y m (by simpa using hy) (by simpa using hm)
theorem OwnT.c0 (h : OwnT w base v ll) (hc : Chg Non w w') : OwnT w' base v ll := OwnBB.c0 h hc
theorem OwnT.al (h : OwnT w base v ll) (o : Obj) : OwnT (w.alloc o) base v ll := OwnBB.al h o
theorem OwnT.low (h : OwnT w base v ll) {b' : Nat} (hb : b' ≤ base) : OwnT w b' v ll := OwnBB.low h hb
theorem OwnT.lt (h : OwnT w base v ll) : ∀ k, v.ownBlock = some k → base ≤ k ∧ k < w.heap.size := OwnBB.lt h
theorem OwnT.rd (h : OwnT w base v ll) : RdBB w (fun b => b < w.heap.size) v ll := (OwnBB.rd h).mono fun b hb => hb.2
theorem OwnT.nil_ (w : World) (base : Nat) : OwnT w base (.slice none 0 0) [] := OwnBB.nil_ _ _ _
theorem OwnT.shape (h : OwnT w base v ll) : ∃ A c, v = .slice A ll.length c ∧ ll.length ≤ c ∧ c ≤ maxLen := OwnBB.shape h
theorem OwnT.dsj (h : OwnT w base v ll) {u : Value} {l : List UInt8} (h' : OwnB w' w.heap.size u l) : ∀ b, u.ownBlock = some b → v.ownBlock ≠ some b := fun b hb e => by
  have h1 := (h.lt b e).2
  have h2 := (h'.lt b hb).1
  omega
theorem cell_al {p : Addr} {u : Value} {o : Obj} (h : w.cell? p = some u) : (w.alloc o).cell? p = some u := ((Chg.refl Non w).alloc o).cell h fun h => h
theorem Chg.appT {a : World} (h : Chg Non a w) (hg : w.grownBy w' v.ownBlock) (ho : OwnT w base v ll) (hb : a.heap.size ≤ base) : Chg Non a w' :=
  h.own hg fun k hk => Nat.le_trans hb (ho.lt k hk).1
theorem szAl (w : World) (o : Obj) : w.heap.size ≤ (w.alloc o).heap.size := ((Chg.refl Non w).alloc o).size
/-- a literal of lists -/
theorem OwnT.lit {us : List Value} (hu : RdsB w (.slice none 0 0) us ls) (n : Nat) (hn : n = us.length) (hm : n ≤ maxLen) {cs : Array Value} (hcs : cs = us.toArray) :
    OwnT (w.alloc (.cells cs 28)) w.heap.size (.slice (some ⟨w.heap.size, 0, none⟩) n n) ls := by
  subst hn; subst hcs
  refine ⟨us, hu.1, ?_, fun k x l hx hl => ?_⟩
  · have := World.ownsRow_lit (base := w.heap.size) (e := 28) (size := 1) w us.toArray us.length (Nat.le_refl _) hm (by simp)
    rw [← hu.1]
    simpa using this
  · refine ((hu.2 k x l hx hl).al _).mono fun _ hb => ⟨trivial, Nat.lt_of_lt_of_le hb.2.1 (by simp), fun e => ?_⟩
    simp only [Value.ownBlock, Option.some.injEq] at e
    omega
/-- what append makes of several at once -/
theorem OwnT.grow {vs : List Value} (h1 : vs.length = ll.length)
    (h3 : ∀ (k : Nat) (x : Value) (l : List UInt8), vs[k]? = some x → ll[k]? = some l → RdB w (fun b => True ∧ b < w.heap.size ∧ v.ownBlock ≠ some b) x l)
    (hx : RdsB w v us ls) {v' : Value}
    (hown : w'.ownsRow base 28 1 v' (ll.length + us.length) (vs ++ us)) (hg : w.grownBy w' v.ownBlock) (hat : v'.ownBlock = v.ownBlock ∨ v'.ownBlock = some w.heap.size) :
    OwnT w' base v' (ll ++ ls) := by
  have hmv : ∀ (y : Value) (m : List UInt8), RdB w (fun b => True ∧ b < w.heap.size ∧ v.ownBlock ≠ some b) y m → RdB w' (fun b => True ∧ b < w'.heap.size ∧ v'.ownBlock ≠ some b) y m := fun y m h =>
    (h.chg (Chg.of_grown hg) fun b hb e => hb.2.2 e.symm).mono fun b hb => ⟨hb.1, Nat.lt_of_lt_of_le hb.2.1 hg.size, fun e => by
      rcases hat with hat | hat
      · exact hb.2.2 (hat ▸ e)
      · rw [hat] at e; injection e with e; omega⟩
  refine ⟨vs ++ us, by simp [h1, hx.1], by rw [List.length_append, ← hx.1]; exact hown, fun k y m hy hm => ?_⟩
  rw [List.getElem?_append] at hy hm
  rw [h1] at hy
  split at hy
  · rename_i h
    rw [if_pos h] at hm
    exact hmv y m (h3 k y m hy hm)
  · rename_i h
    rw [if_neg h] at hm
    exact hmv y m (hx.2 _ y m hy hm)
end
theorem run_T {w : World} {base : Nat} {v : Value} {ll : List (List UInt8)} (hown : OwnT w base v ll) {us : List Value} {ls : List (List UInt8)} (hu : RdsB w v us ls)
    {g n : Nat} {cs : Array Value} (hg : Blk w g 28 cs) (hcs : cs = us.toArray) (hn : n = us.length) (hb : ll.length + n ≤ 1000000000000) :
    ∃ vs, vs.length = ll.length ∧ w.ownsRow base 28 1 v ll.length vs ∧
      (∀ (k : Nat) (x : Value) (l : List UInt8), vs[k]? = some x → ll[k]? = some l → RdB w (fun b => True ∧ b < w.heap.size ∧ v.ownBlock ≠ some b) x l) ∧
      RdV w (fun _ => True) 1 (.slice (some ⟨g, 0, none⟩) n n) n us ∧ ∀ y ∈ us, y.oneCell' = true := by
  obtain ⟨vs, e1, e2, e3⟩ := hown
  subst hn; subst hcs
  refine ⟨vs, e1, e2, e3, ⟨by simp, _, _, rfl, Nat.le_refl _, by simp only [maxLen]; omega, fun _ => ⟨_, rfl, trivial, fun j y hyj => by rw [add_none, hg.cell]; simpa using hyj⟩⟩, fun y hy => ?_⟩
  obtain ⟨k, hk, rfl⟩ := List.mem_iff_getElem.1 hy
  obtain ⟨A, c, e, _, _⟩ := (hu.2 k _ _ (List.getElem?_eq_getElem hk) (List.getElem?_eq_getElem (hu.1 ▸ hk))).shape
  rw [e]; rfl
/-- append of several lists, that stand in a literal's block -/
theorem append_T {w : World} {ops : Array Oper} {rest : List Oper} {o : Oper} {a : Act} {Q : Exit → Act → World → Prop} (hgd : o.guard = none) (s x : Operand)
    (ho : o.op = .call { callee := .builtin .append, args := #[s, x], argTypes := #[54, 54] })
    {base : Nat} {v : Value} {ll : List (List UInt8)} (hown : OwnT w base v ll) (hv : a.eval s = v)
    {us : List Value} {ls : List (List UInt8)} (hu : RdsB w v us ls)
    {g n : Nat} {cs : Array Value} (hg : Blk w g 28 cs) (hcs : cs = us.toArray) (hn : n = us.length) (hy : a.eval x = .slice (some ⟨g, 0, none⟩) n n)
    (hb : ll.length + n ≤ 1000000000000) (hbase : base ≤ w.heap.size)
    (h : ∀ v' w', OwnT w' base v' (ll ++ ls) → w.grownBy w' v.ownBlock → (v'.ownBlock = v.ownBlock ∨ v'.ownBlock = some w.heap.size) → wpList Try.prog ops Q rest (a.put o.dst v') w') : wpList Try.prog ops Q (o :: rest) a w := by
  obtain ⟨i, hi, hz, h1, h2⟩ := info_parts info_bb
  obtain ⟨vs, e1, e2, e3, hr, h1c⟩ := run_T hown hu hg hcs hn hb
  refine wpList_append_rd w hgd s x _ ho base 28 i _ 1 24 Try.underlying54 hi hz h1 h2 rfl (by omega) v hv _ _ e2 _ _ hy _ _ hr h1c (by simp only [maxLen]; omega) (by omega) hbase ?_
  intro v' w' hown' hgr _ hat
  subst hn
  exact h v' w' (OwnT.grow e1 e3 hu hown' hgr hat) hgr hat
/-- the same in a region that draws its order -/
theorem step_T {w : World} {ops : Array Oper} {o : Oper} {a : Act} {K : Act → World → Prop} {Q : Exit → Act → World → Prop} {E : Prop} (hgd : o.guard = none) (s x : Operand)
    (ho : o.op = .call { callee := .builtin .append, args := #[s, x], argTypes := #[54, 54] })
    {base : Nat} {v : Value} {ll : List (List UInt8)} (hown : OwnT w base v ll) (hv : a.eval s = v)
    {us : List Value} {ls : List (List UInt8)} (hu : RdsB w v us ls)
    {g n : Nat} {cs : Array Value} (hg : Blk w g 28 cs) (hcs : cs = us.toArray) (hn : n = us.length) (hy : a.eval x = .slice (some ⟨g, 0, none⟩) n n)
    (hb : ll.length + n ≤ 1000000000000) (hbase : base ≤ w.heap.size)
    (h : ∀ v' w', OwnT w' base v' (ll ++ ls) → w.grownBy w' v.ownBlock → (v'.ownBlock = v.ownBlock ∨ v'.ownBlock = some w.heap.size) → K (a.put o.dst v') w') :
    if Region.wanted o (yielded ops a.tmps) = true then Oper.wp Try.prog o a w K Q else E := by
  have hw : Region.wanted o (yielded ops a.tmps) = true := by simp [Region.wanted, hgd]
  rw [if_pos hw]
  obtain ⟨i, hi, hz, h1, h2⟩ := info_parts info_bb
  obtain ⟨vs, e1, e2, e3, hr, h1c⟩ := run_T hown hu hg hcs hn hb
  subst hv
  rw [← hy] at hr
  refine wp_append_rd w s x _ ho base 28 i _ 1 24 Try.underlying54 hi hz h1 h2 rfl (by omega) _ _ e2 _ _ _ hr h1c (by simp only [maxLen]; omega) (by omega) hbase ?_
  intro v' w' hown' hgr _ hat
  subst hn
  exact h v' w' (OwnT.grow e1 e3 hu hown' hgr hat) hgr hat
end Go.Proofs.Ytpbgjldjipgfeaa
