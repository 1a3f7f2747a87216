/- Slices of ints that the call owns: append of one number. -/
import Derived.Test.YtfgecgmgbngeaaaGreatBase
set_option linter.unusedVariables false
set_option linter.unusedSimpArgs false
set_option maxRecDepth 100000
namespace Go.Proofs.YtfgecgmgbngeaaaGreat
open Go.RowKit

theorem info_int : (Tryz.prog.info? 3).map (fun i => (i.zero, i.size, i.bytes)) = some (some (.int .i64 0), 1, 8) := by kernel_rfl
def ivs (l : List Int) : List Value := l.map fun n => .int .i64 n
/-- the slice value v, made by the call, owns the ints l -/
def OwnI (w : World) (base : Nat) (v : Value) (l : List Int) : Prop := w.ownsRow base 3 1 v l.length (ivs l)
section
variable {w w' : World} {S : Nat → Prop} {v : Value} {l : List Int} {base : Nat}
theorem OwnI.nil_ (w : World) (base : Nat) : OwnI w base (.slice none 0 0) [] := World.ownsRow_nil w base _ 1
theorem OwnI.lt (h : OwnI w base v l) : ∀ k, v.ownBlock = some k → base ≤ k ∧ k < w.heap.size := World.ownsRow.lt h
theorem OwnI.chg (h : OwnI w base v l) (hc : Chg S w w') (hn : ∀ k, v.ownBlock = some k → ¬ S k) : OwnI w' base v l := by
  refine ⟨h.1, ?_⟩
  rcases h.2 with hn' | ⟨g, cap, cur, rfl, hb, hg, rest⟩
  · exact .inl hn'
  · exact .inr ⟨g, cap, cur, rfl, hb, hc.heap hg (hn g rfl), rest⟩
theorem OwnI.c0 (h : OwnI w base v l) (hc : Chg Non w w') : OwnI w' base v l := h.chg hc fun _ _ h => h
theorem OwnI.al (h : OwnI w base v l) (o : Obj) : OwnI (w.alloc o) base v l := h.c0 ((Chg.refl Non w).alloc o)
theorem OwnI.shape (h : OwnI w base v l) : ∃ A c, v = .slice A l.length c ∧ l.length ≤ c ∧ c ≤ maxLen := (RdV.of_own h).shape
theorem OwnI.at_ (h : OwnI w base v l) {k : Nat} (hk : k < l.length) : ∃ g c, v = .slice (some ⟨g, 0, none⟩) l.length c ∧ base ≤ g ∧ w.cell? ⟨g, k, none⟩ = some (.int .i64 l[k]) := by
  rcases h.2 with ⟨rfl, e⟩ | ⟨g, cap, cur, rfl, hb, hg, rest⟩
  · omega
  · refine ⟨g, cap, rfl, hb, ?_⟩
    have hx : (ivs l)[k]? = some (.int .i64 l[k]) := by simp [ivs, hk]
    have h2 := World.ownsRow.cellAt h k (by omega)
    rw [h2, hx]
end
theorem append_I {w : World} {ops : Array Oper} {rest : List Oper} {o : Oper} {a : Act} {Q : Exit → Act → World → Prop} (hgd : o.guard = none) (s x : Operand)
    (ho : o.op = .call { callee := .builtin .append, args := #[s, x], argTypes := #[23, 23] })
    {base : Nat} {v : Value} {l : List Int} (hown : OwnI w base v l) (hv : a.eval s = v)
    {n : Int} {g : Nat} (hg : Blk w g 3 #[.int .i64 n]) (hy : a.eval x = .slice (some ⟨g, 0, none⟩) 1 1)
    (hb : l.length + 1 ≤ 1000000000000) (hbase : base ≤ w.heap.size)
    (h : ∀ v' w', OwnI w' base v' (l ++ [n]) → w.grownBy w' v.ownBlock → (v'.ownBlock = v.ownBlock ∨ v'.ownBlock = some w.heap.size) → wpList Tryz.prog ops Q rest (a.put o.dst v') w') : wpList Tryz.prog ops Q (o :: rest) a w := by
  obtain ⟨i, hi, hz, h1, h2⟩ := info_parts info_int
  have hr : RdV w (fun _ => True) 1 (.slice (some ⟨g, 0, none⟩) 1 1) 1 [.int .i64 n] := ⟨rfl, _, 1, rfl, Nat.le_refl _, by simp [maxLen], fun _ => ⟨_, rfl, trivial, fun j y hyj => by
    rw [add_none, hg.cell]
    match j, hyj with
    | 0, hyj => simpa using hyj
    | j + 1, hyj => simp at hyj⟩⟩
  have h1c : ∀ y ∈ [Value.int .i64 n], y.oneCell' = true := fun y hy => by simp at hy; subst hy; rfl
  refine wpList_append_rd w hgd s x _ ho base 3 i _ 1 8 Tryz.underlying23 hi hz h1 h2 rfl (by omega) v hv _ _ hown _ _ hy _ _ hr h1c (by simp only [maxLen]; omega) (by omega) hbase ?_
  intro v' w' hown' hgr _ hat
  refine h v' w' ?_ hgr hat
  unfold OwnI
  rw [List.length_append]
  simpa [ivs] using hown'
end Go.Proofs.YtfgecgmgbngeaaaGreat
