/- The walks of Told and Trim. -/
import Derived.Test.YtpbgjldjipgfeaaRecIM
import Derived.Test.YtpbgjldjipgfeaaRecGM
namespace Go.Proofs.Ytpbgjldjipgfeaa
open Go.RowKit
set_option linter.unusedVariables false

theorem rfrz {w : World} {g : Nat} {t : TypeId} {cs : Array Value} (h : Blk w g t cs) :
    w.frozen? ⟨g, 0, none⟩ = false ∧ w.frozen? ⟨g, 1, none⟩ = false ∧ w.frozen? ⟨g, 2, none⟩ = false ∧ w.frozen? ⟨g, 3, none⟩ = false ∧ w.frozen? ⟨g, 4, none⟩ = false ∧ w.frozen? ⟨g, 5, none⟩ = false ∧ w.frozen? ⟨g, 6, none⟩ = false ∧ w.frozen? ⟨g, 7, none⟩ = false ∧ w.frozen? ⟨g, 8, none⟩ = false ∧ w.frozen? ⟨g, 9, none⟩ = false ∧ w.frozen? ⟨g, 10, none⟩ = false :=
  ⟨h.frozen 0, h.frozen 1, h.frozen 2, h.frozen 3, h.frozen 4, h.frozen 5, h.frozen 6, h.frozen 7, h.frozen 8, h.frozen 9, h.frozen 10⟩
theorem rput {w : World} {g : Nat} {t : TypeId} {b0 b1 b2 b3 b4 b5 b6 b7 b8 b9 b10 : Value} (h : Blk w g t #[b0, b1, b2, b3, b4, b5, b6, b7, b8, b9, b10]) (a0 a1 a2 a3 a4 a5 a6 a7 a8 a9 a10 : Value) :
    Blk (((((((((((w.setCell ⟨g, 0, none⟩ a0).setCell ⟨g, 1, none⟩ a1).setCell ⟨g, 2, none⟩ a2).setCell ⟨g, 3, none⟩ a3).setCell ⟨g, 4, none⟩ a4).setCell ⟨g, 5, none⟩ a5).setCell ⟨g, 6, none⟩ a6).setCell ⟨g, 7, none⟩ a7).setCell ⟨g, 8, none⟩ a8).setCell ⟨g, 9, none⟩ a9).setCell ⟨g, 10, none⟩ a10) g t #[a0, a1, a2, a3, a4, a5, a6, a7, a8, a9, a10] ∧
    Chg (fun k => k = g) w (((((((((((w.setCell ⟨g, 0, none⟩ a0).setCell ⟨g, 1, none⟩ a1).setCell ⟨g, 2, none⟩ a2).setCell ⟨g, 3, none⟩ a3).setCell ⟨g, 4, none⟩ a4).setCell ⟨g, 5, none⟩ a5).setCell ⟨g, 6, none⟩ a6).setCell ⟨g, 7, none⟩ a7).setCell ⟨g, 8, none⟩ a8).setCell ⟨g, 9, none⟩ a9).setCell ⟨g, 10, none⟩ a10) := by
  refine ⟨?_, ?_⟩
  · have hx := ((((((((((h.set_ 0 a0).set_ 1 a1).set_ 2 a2).set_ 3 a3).set_ 4 a4).set_ 5 a5).set_ 6 a6).set_ 7 a7).set_ 8 a8).set_ 9 a9).set_ 10 a10
    simp only [List.setIfInBounds_toArray, List.set_cons_succ, List.set_cons_zero] at hx
    exact hx
  · exact (((((((((((Chg.refl (fun k => k = g) w).setCell (p := ⟨g, 0, none⟩) (fun _ => rfl) a0).setCell (p := ⟨g, 1, none⟩) (fun _ => rfl) a1).setCell (p := ⟨g, 2, none⟩) (fun _ => rfl) a2).setCell (p := ⟨g, 3, none⟩) (fun _ => rfl) a3).setCell (p := ⟨g, 4, none⟩) (fun _ => rfl) a4).setCell (p := ⟨g, 5, none⟩) (fun _ => rfl) a5).setCell (p := ⟨g, 6, none⟩) (fun _ => rfl) a6).setCell (p := ⟨g, 7, none⟩) (fun _ => rfl) a7).setCell (p := ⟨g, 8, none⟩) (fun _ => rfl) a8).setCell (p := ⟨g, 9, none⟩) (fun _ => rfl) a9).setCell (p := ⟨g, 10, none⟩) (fun _ => rfl) a10
theorem RdV.sl {w : World} {F : Nat → Prop} {sz n : Nat} {v : Value} {xs : List Value} (h : RdV w F sz v n xs) : ∃ A n c, v = .slice A n c := by obtain ⟨A, c, e, _⟩ := h.shape; exact ⟨A, _, c, e⟩
theorem RdW.sl {w : World} {F : Nat → Prop} {v : Value} {l : List WrS} (h : RdW w F v l) : ∃ A n c, v = .slice A n c := by obtain ⟨A, c, e, _⟩ := h.shape; exact ⟨A, _, c, e⟩
/-- the cells of a record that is nothing -/
def zeroC : Array Value := #[.int .i64 0, .int .u64 0, .int .u64 0, .int .u64 0, .slice none 0 0, .slice none 0 0, .bool false, .slice none 0 0, .slice none 0 0, .int .u64 0, .string ⟨#[]⟩]
theorem box2 (w : World) (cs zs : Array Value) (t u : TypeId) : Blk ((w.alloc (.cells cs t)).alloc (.cells zs u)) w.heap.size t cs ∧ Blk ((w.alloc (.cells cs t)).alloc (.cells zs u)) (w.heap.size + 1) u zs ∧ Chg Non w ((w.alloc (.cells cs t)).alloc (.cells zs u)) := by
  have h := Blk.new (w.alloc (.cells cs t)) u zs
  rw [show (w.alloc (.cells cs t)).heap.size = w.heap.size + 1 from by simp] at h
  exact ⟨(Blk.new w _ _).al _, h, ((Chg.refl Non w).alloc _).alloc _⟩

set_option maxHeartbeats 4000000 in
set_option maxRecDepth 100000 in
theorem lawTold {x : RcS} {av bv cv dv : Value} {F : Nat → Prop} {w : World} (hr : RecR w F x av bv cv dv) :
    Calls Try.prog 13 #[.agg (recC x av bv cv dv)] w fun e w' => e = .returned (.agg (recC x av bv cv dv)) ∧ Chg Non w w' := by
  obtain ⟨A1, n1, k1, rfl⟩ := hr.ws.sl
  obtain ⟨A2, n2, k2, rfl⟩ := hr.rs.sl
  obtain ⟨A3, n3, k3, rfl⟩ := RdV.sl hr.sh
  obtain ⟨A4, n4, k4, rfl⟩ := hr.rep.sl
  clear hr
  obtain ⟨hb0, hb1, hk0⟩ := box2 w (recC x (.slice A1 n1 k1) (.slice A2 n2 k2) (.slice A3 n3 k3) (.slice A4 n4 k4)) zeroC 32 30
  unfold recC zeroC at *
  go_enter Try.func13, Try.ntmps13
  go_upto_region 1 with fail
  generalize World.alloc _ _ = w0 at hb0 hb1 hk0 ⊢
  obtain ⟨c0, c1, c2, c3, c4, c5, c6, c7, c8, c9, c10⟩ := rblk hb0
  obtain ⟨f0, f1, f2, f3, f4, f5, f6, f7, f8, f9, f10⟩ := rfrz hb1
  obtain ⟨z0, z1, z2, z3, z4, z5, z6, z7, z8, z9, z10⟩ := rblk hb1
  obtain ⟨hB9, hC9⟩ := rput hb1 (.int .i64 x.kind) (.int .u64 (x.boot : Int)) (.int .u64 (x.sess : Int)) (.int .u64 (x.seq : Int)) (.slice A1 n1 k1) (.slice A2 n2 k2) (.bool x.commit) (.slice A3 n3 k3) (.slice A4 n4 k4) (.int .u64 (x.id : Int)) (.string x.name)
  go_wp2_with fail
  generalize World.setCell _ _ _ = w9 at hB9 hC9 ⊢
  clear c0 c1 c2 c3 c4 c5 c6 c7 c8 c9 c10 f0 f1 f2 f3 f4 f5 f6 f7 f8 f9 f10 z0 z1 z2 z3 z4 z5 z6 z7 z8 z9 z10
  obtain ⟨a0, a1, a2, a3, a4, a5, a6, a7, a8, a9, a10⟩ := rblk hB9
  refine bodyPost_ret (v := .agg #[.int .i64 x.kind, .int .u64 (x.boot : Int), .int .u64 (x.sess : Int), .int .u64 (x.seq : Int), .slice A1 n1 k1, .slice A2 n2 k2, .bool x.commit, .slice A3 n3 k3, .slice A4 n4 k4, .int .u64 (x.id : Int), .string x.name]) (by simp [results, Try.results13, go_sem, a0, a1, a2, a3, a4, a5, a6, a7, a8, a9, a10]) rfl ⟨rfl, ?_⟩
  exact hk0.trans hC9 fun k hk e => by omega
end Go.Proofs.Ytpbgjldjipgfeaa
