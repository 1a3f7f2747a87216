/- rpc.Read's deferred closure. -/
import Derived.Test.YtncchbcoldgpbaaRvQ
import Derived.Test.YtncchbcoldgpbaaRvB
import Derived.Recover
import Derived.Defers
import Derived.Laws.Pointers
import Derived.Laws.Tables
open List (getElem_toArray getElem_cons_succ getElem_cons_zero setIfInBounds_toArray set_cons_zero set_cons_succ)
namespace Go.Proofs.Ytncchbcoldgpbaa
open Go.RowKit
set_option linter.unusedVariables false
set_option linter.unusedSimpArgs false

theorem info_pkt : (Try.prog.info? 63).map (·.size) = some 65 := by kernel_rfl
theorem setRow_blk {w : World} {g : Nat} {t : TypeId} {old cells : Array Value} (h : Blk w g t old) : Blk (w.setRow g cells) g t cells ∧ Chg (fun k => k = g) w (w.setRow g cells) := by
  unfold Blk at h ⊢
  refine ⟨?_, rfl, rfl, rfl, by simp [World.setRow], fun k hk hn => ?_⟩
  · simp [World.setRow, Array.getElem?_modify, h]
  · simp [World.setRow, Array.getElem?_modify, Ne.symm hn]
theorem wp_store_pkt {o : Oper} {a : Act} {w : World} {K : Act → World → Prop} {Q : Exit → Act → World → Prop} (x y : Operand) (ho : o.op = .store 63 x y)
    (g : Nat) (cells : Array Value) (hx : a.eval x = .pointer (some ⟨g, 0, none⟩)) (hy : a.eval y = .agg cells) (old : Array Value) (hB : Blk w g 63 old) (hs : old.size = 65) (hc : cells.size = 65) (h1 : cells.all (·.oneCell') = true)
    (h : ∀ w', Blk w' g 63 cells → Chg (fun k => k = g) w w' → K (a.put o.dst undef) w') : o.wp Try.prog a w K Q :=
  wp_store_row (P := Try.prog) 63 x y ho g cells hx hy 63 old hB (by rw [hc]; exact info_pkt) (by omega) h1 (h _ (setRow_blk hB).1 (setRow_blk hB).2)
theorem wpList_store_pkt {ops : Array Oper} {rest : List Oper} {o : Oper} {a : Act} {w : World} {Q : Exit → Act → World → Prop} (hgd : o.guard = none) (x y : Operand) (ho : o.op = .store 63 x y)
    (g : Nat) (cells : Array Value) (hx : a.eval x = .pointer (some ⟨g, 0, none⟩)) (hy : a.eval y = .agg cells) (old : Array Value) (hB : Blk w g 63 old) (hs : old.size = 65) (hc : cells.size = 65) (h1 : cells.all (·.oneCell') = true)
    (h : ∀ w', Blk w' g 63 cells → Chg (fun k => k = g) w w' → wpList Try.prog ops Q rest (a.put o.dst undef) w') : wpList Try.prog ops Q (o :: rest) a w :=
  wpList_plain hgd fun _ hK => wp_store_pkt x y ho g cells hx hy old hB hs hc h1 fun w' h2 h3 => hK _ _ (h w' h2 h3)
theorem zeroP_one : zeroP.all (·.oneCell') = true := by kernel_rfl
theorem zeroP_size : zeroP.size = 65 := rfl
theorem run_buildP (w : World) : (Instr.build 63 #[]).run Try.prog w = .ok (.agg zeroP) w := by
  have : ∀ w, (Instr.build 63 #[]).run Try.prog w = .ok (.agg zeroP) w := fun _ => by kernel_rfl
  exact this w

set_option maxHeartbeats 4000000 in
set_option maxRecDepth 100000 in
theorem catch_panics {p q : Nat} {er z : Int} {older : List PanicEntry} {arr : Array Value} {w : World} (hP : Blk w p 63 arr) (hs : arr.size = 65) (hQ : Blk w q 39 #[.int .i64 z]) (hpq : p ≠ q) :
    CallsD Try.prog 29 #[.pointer (some ⟨p, 0, none⟩), .pointer (some ⟨q, 0, none⟩)] (.panicking ({ v := .iface 39 (.int .i64 er), recovered := false } :: older)) w fun e u' w' =>
      e = .returned (.tuple #[]) ∧ u' = .panicking ({ v := .iface 39 (.int .i64 er), recovered := true } :: older) ∧ Blk w' p 63 zeroP ∧ Blk w' q 39 #[.int .i64 er] ∧ Chg (fun k => k = p ∨ k = q) w w' := by
  refine callsD_of_wpS Try.func29 rfl fun c₀ cs hu => ?_
  apply wpS_seq
  apply wpS_region
  simp [wpOpsS, go_sem, recoverD, hu, Try.ntmps29, Exit.thenS]
  apply wpS_seq
  apply wpS_region
  simp [wpOpsS, go_sem, recoverD, hu, Try.ntmps29, Exit.thenS]
  refine wpS_cond (t := true) (by simp [Act.eval, Array.replicate]) ?_
  simp only [if_true]
  refine wpS_of_wp ?_
  have htm : #[Value.pointer (some { block := p, off := 0 }), Value.pointer (some { block := q, off := 0 })] ++
      ((((Array.replicate 7 undef).setIfInBounds 1 (Value.iface 39 (Value.int IntKind.i64 er))).setIfInBounds 0 (Value.iface 39 (Value.int IntKind.i64 er))).setIfInBounds 2 (Value.iface 39 (Value.int IntKind.i64 er))).setIfInBounds 3 (Value.bool true)
      = #[Value.pointer (some { block := p, off := 0 }), Value.pointer (some { block := q, off := 0 }), .iface 39 (.int .i64 er), .iface 39 (.int .i64 er), .iface 39 (.int .i64 er), .bool true, undef, undef, undef] := rfl
  rw [htm]
  clear htm
  have HP := hide hP
  have HQ := hide hQ
  have hb := run_buildP
  refine wp_region_T (fun _ => True) 99 (by kernel_rfl) ?_
  have HS := hide True.intro
  refine AnyT.take (i := 0) (v := .agg zeroP) rfl (by kernel_rfl) (by kernel_rfl) (fun _ _ _ h => h) (by kernel_rfl) (by kernel_rfl) (Or.inl ⟨by rfl, fun w9 _ => ?_⟩) HS.out ?_
  · kernel_rfl
  try simp only [getElem_toArray, getElem_cons_succ, getElem_cons_zero, Act.put, setIfInBounds_toArray, set_cons_zero, set_cons_succ]
  refine AnyT.take (i := 1) (v := ?_) rfl (by kernel_rfl) (by kernel_rfl) (fun _ _ _ h => h) (by kernel_rfl) (by kernel_rfl) (Or.inl ⟨by rfl, ?_⟩) HS.out ?_
  rotate_left
  · (intro w9 h9; go_simp; try with_reducible rfl)
  try simp only [getElem_toArray, getElem_cons_succ, getElem_cons_zero, Act.put, setIfInBounds_toArray, set_cons_zero, set_cons_succ]
  refine AnyT.take (i := 2) (v := .int .i64 er) rfl (by kernel_rfl) (by kernel_rfl) (fun _ _ _ h => h) (by kernel_rfl) (by kernel_rfl) (Or.inl ⟨by rfl, fun w9 _ => ?_⟩) HS.out ?_
  · kernel_rfl
  try simp only [getElem_toArray, getElem_cons_succ, getElem_cons_zero, Act.put, setIfInBounds_toArray, set_cons_zero, set_cons_succ]
  refine AnyT.one (i := 3) (by kernel_rfl) rfl (fun K hK => ?_)
  rw [if_pos (by rfl)]
  try simp only [getElem_toArray, getElem_cons_succ, getElem_cons_zero, Act.put, setIfInBounds_toArray, set_cons_zero, set_cons_succ]
  refine wp_store_pkt (.tmp 0) (.tmp 6) rfl p zeroP rfl rfl arr HP.out hs zeroP_size zeroP_one fun w1 hP1 hc1 => ?_
  refine hK.out _ _ (fun _ => trivial) ?_
  clear hK K
  try simp only [getElem_toArray, getElem_cons_succ, getElem_cons_zero, Act.put, setIfInBounds_toArray, set_cons_zero, set_cons_succ]
  have hc1 := ((Chg.refl (fun k => k = p) w).drew).trans hc1 fun _ _ h => h
  have hQ1 := HQ.out.chg hc1 (fun e => hpq e.symm)
  have cq : w1.cell? ⟨q, 0, none⟩ = some (.int .i64 z) := hQ1.cell 0
  have fq : w1.frozen? ⟨q, 0, none⟩ = false := hQ1.frozen 0
  refine AnyT.one (i := 4) (by kernel_rfl) rfl (fun K hK => ?_)
  rw [if_pos (by rfl)]
  try simp only [getElem_toArray, getElem_cons_succ, getElem_cons_zero, Act.put, setIfInBounds_toArray, set_cons_zero, set_cons_succ]
  go_simp
  refine hK.out _ _ (fun _ => trivial) ?_
  clear hK K
  try simp only [getElem_toArray, getElem_cons_succ, getElem_cons_zero, Act.put, setIfInBounds_toArray, set_cons_zero, set_cons_succ]
  refine AnyT.nil (by kernel_rfl) ?_
  refine ⟨rfl, _, rfl, .tuple #[], results_none rfl _ _ _, rfl, rfl, hP1.far hpq _, hQ1.set_ 0 _, ?_⟩
  exact Chg.setCell (hc1.mono fun _ _ h => .inl h) (p := ⟨q, 0, none⟩) (fun _ => .inr rfl) _
theorem catch_none {p q : Nat} {w : World} :
    CallsD Try.prog 29 #[.pointer (some ⟨p, 0, none⟩), .pointer (some ⟨q, 0, none⟩)] .returning w fun e u' w' => e = .returned (.tuple #[]) ∧ u' = .returning ∧ w' = w := by
  refine callsD_of_wpS Try.func29 rfl fun c₀ cs hu => ?_
  apply wpS_seq
  apply wpS_region
  simp [wpOpsS, go_sem, recoverD, hu, Try.ntmps29, Exit.thenS]
  apply wpS_seq
  apply wpS_region
  simp [wpOpsS, go_sem, recoverD, hu, Try.ntmps29, Exit.thenS]
  refine wpS_cond (t := false) (by simp [Act.eval, Array.replicate]) ?_
  simp only [Bool.false_eq_true, if_false]
  refine wpS_of_wp (wp_skip ?_)
  cases c₀
  simp_all [bodyPostS, results, Try.results29]
end Go.Proofs.Ytncchbcoldgpbaa
