/- The walk of pack's Writer.Flag, for one flag. -/
import Derived.Test.YtlklcdjhlpadiaaWtr
import Derived.LoopN
namespace Go.Proofs.Ytlklcdjhlpadiaa
open Go.RowKit

def flagB (f : Bool) : List UInt8 := [if f then 1 else 0]
set_option maxHeartbeats 1000000 in
theorem wtrFlag {base g h : Nat} {v : Value} {l : List UInt8} {f : Bool} {w : World} (hw : Wtr w base g v l) (hc : w.cell? ⟨h, 0, none⟩ = some (.bool f))
    (hl : l.length + 1 ≤ 140737488355328) :
    Calls Try.prog 43 #[.pointer (some ⟨g, 0, none⟩), .slice (some ⟨h, 0, none⟩) 1 1] w fun e w' =>
      e = .returned (.tuple #[]) ∧ ∃ v', Wtr w' base g v' (l ++ flagB f) ∧ Chg (WB g v) w w' := by
  have k0 := hw.blk.cell 0
  simp at k0
  have hown := hw.own
  have hbase : base ≤ w.heap.size := by have h1 := hw.blk.lt; have h2 := hw.le; omega
  cases f
  case false =>
    go_enter Try.func43, Try.ntmps43
    go_wp2_with fail
    refine wp_loop_rounds 2 ?_
    rw [rounds_succ]
    have hal := fun (o : Obj) => hw.al o
    have hownA := fun (o : Obj) => hown.al o
    have hszA := fun (o : Obj) => Nat.le_trans hbase ((Chg.refl Non w).alloc o).size
    have h1 := own_one w 0 0 rfl
    have hlen : l.length + ([0] : List UInt8).length ≤ 140737488355328 := by simpa using hl
    go_wp2_with (at_builtin; refine append_B rfl _ _ rfl (hownA _) rfl h1.rd rfl hlen (hszA _) ?_; intro v3 w3 hown3 hg3 hat3; obtain ⟨kx, fx⟩ := Wtr.cellx (hal _) (Chg.refl _ _) hg3; obtain ⟨A3, n3, c3, rfl⟩ := OwnB.shapeH hown3)
    obtain ⟨hW3, hc3⟩ := (hal _).put hg3 hat3 hown3
    rw [rounds_succ]
    go_wp2_with fail
    refine bodyPost_end (results_none rfl _ _ _) rfl ⟨rfl, _, hW3, ?_⟩
    exact ((Chg.refl (WB g v) w).alloc _).trans hc3 fun _ _ h => h
  case true =>
    go_enter Try.func43, Try.ntmps43
    go_wp2_with fail
    refine wp_loop_rounds 2 ?_
    rw [rounds_succ]
    have hal := fun (o : Obj) => hw.al o
    have hownA := fun (o : Obj) => hown.al o
    have hszA := fun (o : Obj) => Nat.le_trans hbase ((Chg.refl Non w).alloc o).size
    have h1 := own_one w 1 1 rfl
    have hlen : l.length + ([1] : List UInt8).length ≤ 140737488355328 := by simpa using hl
    go_wp2_with (at_builtin; refine append_B rfl _ _ rfl (hownA _) rfl h1.rd rfl hlen (hszA _) ?_; intro v3 w3 hown3 hg3 hat3; obtain ⟨kx, fx⟩ := Wtr.cellx (hal _) (Chg.refl _ _) hg3; obtain ⟨A3, n3, c3, rfl⟩ := OwnB.shapeH hown3)
    obtain ⟨hW3, hc3⟩ := (hal _).put hg3 hat3 hown3
    rw [rounds_succ]
    go_wp2_with fail
    refine bodyPost_end (results_none rfl _ _ _) rfl ⟨rfl, _, hW3, ?_⟩
    exact ((Chg.refl (WB g v) w).alloc _).trans hc3 fun _ _ h => h
end Go.Proofs.Ytlklcdjhlpadiaa
