/- Laws at this program's own types: append of bytes, and of slices of bytes. -/
import Derived.Test.YtfgecgmgbngeaaaGreatProg
import Derived.Test.YtfgecgmgbngeaaaGreatWords
set_option linter.unusedVariables false
set_option linter.unusedSimpArgs false
set_option maxRecDepth 100000
namespace Go.Proofs.YtfgecgmgbngeaaaGreat
open Go.RowKit

theorem info_u8 : (Tryz.prog.info? 5).map (fun i => (i.zero, i.size, i.bytes)) = some (some (.int .u8 0), 1, 1) := by kernel_rfl

/-- append of bytes onto bytes that the call owns -/
theorem append_B {w : World} {ops : Array Oper} {rest : List Oper} {o : Oper} {a : Act} {Q : Exit → Act → World → Prop} (hgd : o.guard = none) (s x : Operand)
    (ho : o.op = .call { callee := .builtin .append, args := #[s, x], argTypes := #[30, 30] })
    {base : Nat} {v : Value} {l : List UInt8} (hown : OwnB w base v l) (hv : a.eval s = v)
    {y : Value} {F : Nat → Prop} {m : List UInt8} (hr : RdB w F y m) (hy : a.eval x = y)
    (hb : l.length + m.length ≤ 140737488355328) (hbase : base ≤ w.heap.size)
    (h : ∀ v' w', OwnB w' base v' (l ++ m) → w.grownBy w' v.ownBlock → (v'.ownBlock = v.ownBlock ∨ v'.ownBlock = some w.heap.size) → wpList Tryz.prog ops Q rest (a.put o.dst v') w') : wpList Tryz.prog ops Q (o :: rest) a w := by
  obtain ⟨i, hi, hz, h1, h2⟩ := info_parts info_u8
  refine wpList_append_rd w hgd s x _ ho base 5 i _ 1 1 Tryz.underlying30 hi hz h1 h2 rfl (by omega) v hv _ _ hown F y hy _ _ hr (bvs_one m) (by simp only [maxLen]; omega) (by omega) hbase ?_
  intro v' w' hown' hg _ hat
  refine h v' w' ?_ hg hat
  unfold OwnB
  rw [List.length_append, bvs_append]
  exact hown'

/-- the same in a region that draws its order -/
theorem step_B {w : World} {ops : Array Oper} {o : Oper} {a : Act} {K : Act → World → Prop} {Q : Exit → Act → World → Prop} {E : Prop} (hgd : o.guard = none) (s x : Operand)
    (ho : o.op = .call { callee := .builtin .append, args := #[s, x], argTypes := #[30, 30] })
    {base : Nat} {v : Value} {l : List UInt8} (hown : OwnB w base v l) (hv : a.eval s = v)
    {y : Value} {F : Nat → Prop} {m : List UInt8} (hr : RdB w F y m) (hy : a.eval x = y)
    (hb : l.length + m.length ≤ 140737488355328) (hbase : base ≤ w.heap.size)
    (h : ∀ v' w', OwnB w' base v' (l ++ m) → w.grownBy w' v.ownBlock → (v'.ownBlock = v.ownBlock ∨ v'.ownBlock = some w.heap.size) → K (a.put o.dst v') w') :
    if Region.wanted o (yielded ops a.tmps) = true then Oper.wp Tryz.prog o a w K Q else E := by
  have hw : Region.wanted o (yielded ops a.tmps) = true := by simp [Region.wanted, hgd]
  rw [if_pos hw]
  subst hv; subst hy
  obtain ⟨i, hi, hz, h1, h2⟩ := info_parts info_u8
  refine wp_append_rd w s x _ ho base 5 i _ 1 1 Tryz.underlying30 hi hz h1 h2 rfl (by omega) _ _ hown F _ _ hr (bvs_one m) (by simp only [maxLen]; omega) (by omega) hbase ?_
  intro v' w' hown' hg _ hat
  refine h v' w' ?_ hg hat
  unfold OwnB
  rw [List.length_append, bvs_append]
  exact hown'

/-- one new byte, as a slice literal -/
theorem own_one (w : World) (b : UInt8) (n : Int) (hn : n = (b.toNat : Int)) : OwnB (w.alloc (.cells #[.int .u8 n] 5)) w.heap.size (.slice (some ⟨w.heap.size, 0, none⟩) 1 1) [b] := by
  subst hn
  exact World.ownsRow_lit (size := 1) w #[bv b] 1 (Nat.le_refl _) (by simp [maxLen]) rfl
/-- the empty literal '[]byte{}' -/
theorem own_zero (w : World) : OwnB (w.alloc (.cells #[] 5)) w.heap.size (.slice (some ⟨w.heap.size, 0, none⟩) 0 0) [] :=
  World.ownsRow_lit (size := 1) w #[] 0 (Nat.le_refl _) (by simp [maxLen]) rfl
/-- bytes as a string -/
theorem run_str {w : World} {F : Nat → Prop} {v : Value} {l : List UInt8} (h : RdB w F v l) : (convert 30 9 v).run Tryz.prog w = .ok (.string ⟨l.toArray⟩) w := by
  obtain ⟨A, c, rfl, hc, hm⟩ := h.shape
  rcases A with _ | ad
  · obtain rfl := h.is_nil
    rw [run_convert_bytes_string w _ _ _ none _ c Tryz.underlying30 Tryz.underlying5 Tryz.underlying9]
    rfl
  · refine run_convert_bytes_back w _ _ _ ad c l Tryz.underlying30 Tryz.underlying5 Tryz.underlying9 fun j hj => ?_
    obtain ⟨ad', e, _, hc⟩ := h.at_ hj
    injection e with e; subst e
    exact hc
theorem toList_mk (l : List UInt8) : (⟨l.toArray⟩ : ByteArray).toList = l := by rw [ByteArray.toList_eq]
theorem Chg.own {S : Nat → Prop} {a w w' : World} {v : Value} (h : Chg S a w) (hg : w.grownBy w' v.ownBlock) (hb : ∀ k, v.ownBlock = some k → a.heap.size ≤ k) : Chg S a w' :=
  h.grown hg fun k hk hlt => absurd (hb k hk) (by omega)
end Go.Proofs.YtfgecgmgbngeaaaGreat
