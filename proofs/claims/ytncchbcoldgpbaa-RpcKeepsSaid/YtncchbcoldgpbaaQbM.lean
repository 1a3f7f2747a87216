/- The walks of groyneref06.SameWrites, SameRanges and Same at records that are alike. -/
import Derived.Test.YtncchbcoldgpbaaQaM
import Derived.Test.YtncchbcoldgpbaaBaM
namespace Go.Proofs.Ytncchbcoldgpbaa
open Go.RowKit
set_option linter.unusedVariables false

theorem RdW.dn {w : World} {F : Nat → Prop} {v : Value} {l : List WrS} (h : RdW w F v l) (n : Nat) : RdW (w.drewN n) F v l := h.c0 ((Chg.refl Non w).drewN n)

end Go.Proofs.Ytncchbcoldgpbaa

namespace Go.Proofs.Ytncchbcoldgpbaa
open Go.RowKit
set_option linter.unusedVariables false

theorem ba_ne (s : ByteArray) : (s != s) = false := by
  show (!(s.data == s.data)) = false
  simp

end Go.Proofs.Ytncchbcoldgpbaa

namespace Go.Proofs.Ytncchbcoldgpbaa
open Go.RowKit
set_option linter.unusedVariables false

theorem OwnT.newk {w w' : World} {base : Nat} {v : Value} {ll : List (List UInt8)} (h : OwnT w base v ll) (hc : Chg Non w w') : ∀ b, b = w'.heap.size → v.ownBlock ≠ some b := fun b hb e => by
  have := (h.lt b e).2
  have := hc.size
  omega
theorem run_conv (s : ByteArray) : ∀ w, (convert 9 26 (.string s)).run Try.prog w = .ok (.slice (some ⟨w.heap.size, 0, none⟩) s.size (grownCap w s.size 0 5)) (Lib.bytesWorld w 5 s) := fun w => conv_bytes w s

end Go.Proofs.Ytncchbcoldgpbaa

namespace Go.Proofs.Ytncchbcoldgpbaa
open Go.RowKit
set_option linter.unusedVariables false

theorem hasT_not {k : Int} (h : ¬ (1 ≤ k ∧ k ≤ 9)) : hasT k = false := by
  unfold hasT
  have h6 : (k == 6) = false := beq_eq_false_iff_ne.2 (by omega)
  have h9 : (k == 9) = false := beq_eq_false_iff_ne.2 (by omega)
  rw [h6, h9]
  by_cases h1 : 1 ≤ k
  · rw [decide_eq_false (by omega : ¬ k ≤ 4)]; simp
  · rw [decide_eq_false h1]; simp
theorem fldR_not {x : RcS} (h : ¬ (1 ≤ x.kind ∧ x.kind ≤ 9)) : fldR x = [] := by
  rw [fldR, if_neg (by omega), if_neg (by omega), if_neg (by omega), if_neg (by omega), if_neg (by omega)]

end Go.Proofs.Ytncchbcoldgpbaa

namespace Go.Proofs.Ytncchbcoldgpbaa
open Go.RowKit
set_option linter.unusedVariables false

theorem rfrz {w : World} {g : Nat} {t : TypeId} {cs : Array Value} (h : Blk w g t cs) :
    w.frozen? ⟨g, 0, none⟩ = false ∧ w.frozen? ⟨g, 1, none⟩ = false ∧ w.frozen? ⟨g, 2, none⟩ = false ∧ w.frozen? ⟨g, 3, none⟩ = false ∧ w.frozen? ⟨g, 4, none⟩ = false ∧ w.frozen? ⟨g, 5, none⟩ = false ∧ w.frozen? ⟨g, 6, none⟩ = false ∧ w.frozen? ⟨g, 7, none⟩ = false ∧ w.frozen? ⟨g, 8, none⟩ = false ∧ w.frozen? ⟨g, 9, none⟩ = false ∧ w.frozen? ⟨g, 10, none⟩ = false :=
  ⟨h.frozen 0, h.frozen 1, h.frozen 2, h.frozen 3, h.frozen 4, h.frozen 5, h.frozen 6, h.frozen 7, h.frozen 8, h.frozen 9, h.frozen 10⟩
theorem rput {w : World} {g : Nat} {t : TypeId} {b0 b1 b2 b3 b4 b5 b6 b7 b8 b9 b10 : Value} (h : Blk w g t #[b0, b1, b2, b3, b4, b5, b6, b7, b8, b9, b10]) (a0 a1 a2 a3 a4 a5 a6 a7 a8 a9 a10 : Value) :
    Blk (((((((((((w.setCell ⟨g, 0, none⟩ a0).setCell ⟨g, 1, none⟩ a1).setCell ⟨g, 2, none⟩ a2).setCell ⟨g, 3, none⟩ a3).setCell ⟨g, 4, none⟩ a4).setCell ⟨g, 5, none⟩ a5).setCell ⟨g, 6, none⟩ a6).setCell ⟨g, 7, none⟩ a7).setCell ⟨g, 8, none⟩ a8).setCell ⟨g, 9, none⟩ a9).setCell ⟨g, 10, none⟩ a10) g t #[a0, a1, a2, a3, a4, a5, a6, a7, a8, a9, a10] ∧
    Chg (fun k => k = g) w (((((((((((w.setCell ⟨g, 0, none⟩ a0).setCell ⟨g, 1, none⟩ a1).setCell ⟨g, 2, none⟩ a2).setCell ⟨g, 3, none⟩ a3).setCell ⟨g, 4, none⟩ a4).setCell ⟨g, 5, none⟩ a5).setCell ⟨g, 6, none⟩ a6).setCell ⟨g, 7, none⟩ a7).setCell ⟨g, 8, none⟩ a8).setCell ⟨g, 9, none⟩ a9).setCell ⟨g, 10, none⟩ a10) := by
  refine ⟨?_, ?_⟩
  · have hx := ((((((((((h.set_ 0 a0).set_ 1 a1).set_ 2 a2).set_ 3 a3).set_ 4 a4).set_ 5 a5).set_ 6 a6).set_ 7 a7).set_ 8 a8).set_ 9 a9).set_ 10 a10
    simp only [List.setIfInBounds_toArray, List.set_cons_succ, List.set_cons_zero] at hx
    exact hx
  · exact (((((((((((Chg.refl (fun k => k = g) w).setCell (p := ⟨g, 0, none⟩) (fun _ => rfl) a0).setCell (p := ⟨g, 1, none⟩) (fun _ => rfl) a1).setCell (p := ⟨g, 2, none⟩) (fun _ => rfl) a2).setCell (p := ⟨g, 3, none⟩) (fun _ => rfl) a3).setCell (p := ⟨g, 4, none⟩) (fun _ => rfl) a4).setCell (p := ⟨g, 5, none⟩) (fun _ => rfl) a5).setCell (p := ⟨g, 6, none⟩) (fun _ => rfl) a6).setCell (p := ⟨g, 7, none⟩) (fun _ => rfl) a7).setCell (p := ⟨g, 8, none⟩) (fun _ => rfl) a8).setCell (p := ⟨g, 9, none⟩) (fun _ => rfl) a9).setCell (p := ⟨g, 10, none⟩) (fun _ => rfl) a10
theorem RdV.sl {w : World} {F : Nat → Prop} {sz n : Nat} {v : Value} {xs : List Value} (h : RdV w F sz v n xs) : ∃ A n c, v = .slice A n c := by obtain ⟨A, c, e, _⟩ := h.shape; exact ⟨A, _, c, e⟩
theorem RdW.sl {w : World} {F : Nat → Prop} {v : Value} {l : List WrS} (h : RdW w F v l) : ∃ A n c, v = .slice A n c := by obtain ⟨A, c, e, _⟩ := h.shape; exact ⟨A, _, c, e⟩
/-- the cells of a record that is nothing -/
def zeroC : Array Value := #[.int .i64 0, .int .u64 0, .int .u64 0, .int .u64 0, .slice none 0 0, .slice none 0 0, .bool false, .slice none 0 0, .slice none 0 0, .int .u64 0, .string ⟨#[]⟩]
theorem box2 (w : World) (cs zs : Array Value) (t u : TypeId) : Blk ((w.alloc (.cells cs t)).alloc (.cells zs u)) w.heap.size t cs ∧ Blk ((w.alloc (.cells cs t)).alloc (.cells zs u)) (w.heap.size + 1) u zs ∧ Chg Non w ((w.alloc (.cells cs t)).alloc (.cells zs u)) := by
  have h := Blk.new (w.alloc (.cells cs t)) u zs
  rw [show (w.alloc (.cells cs t)).heap.size = w.heap.size + 1 from by simp] at h
  exact ⟨(Blk.new w _ _).al _, h, ((Chg.refl Non w).alloc _).alloc _⟩

end Go.Proofs.Ytncchbcoldgpbaa

namespace Go.Proofs.Ytncchbcoldgpbaa
open Go.RowKit
set_option linter.unusedVariables false

theorem box3 (w : World) (cs zs ls : Array Value) (t u s : TypeId) : Blk (((w.alloc (.cells cs t)).alloc (.cells zs u)).alloc (.cells ls s)) w.heap.size t cs ∧ Blk (((w.alloc (.cells cs t)).alloc (.cells zs u)).alloc (.cells ls s)) (w.heap.size + 1) u zs ∧ Blk (((w.alloc (.cells cs t)).alloc (.cells zs u)).alloc (.cells ls s)) (w.heap.size + 1 + 1) s ls ∧ Chg Non w (((w.alloc (.cells cs t)).alloc (.cells zs u)).alloc (.cells ls s)) := by
  obtain ⟨h1, h2, h3⟩ := box2 w cs zs t u
  have h := Blk.new ((w.alloc (.cells cs t)).alloc (.cells zs u)) s ls
  rw [show ((w.alloc (.cells cs t)).alloc (.cells zs u)).heap.size = w.heap.size + 1 + 1 from by simp] at h
  exact ⟨h1.al _, h2.al _, h, h3.alloc _⟩
theorem trimR_not {x : RcS} (h : ¬ (1 ≤ x.kind ∧ x.kind ≤ 9)) : trimR x = { zeroR with kind := x.kind } := by
  rw [trimR, if_neg (by omega), if_neg (by omega), if_neg (by omega), if_neg (by omega), if_neg (by omega)]
theorem u64_0 : U64 0 := by unfold U64; decide
/-- one cell of the local box is set -/
theorem loc1 {w a : World} {gl gr : Nat} {t u : TypeId} {cs zs : Array Value} (h : Blk w gl t cs ∧ Blk w gr u zs ∧ Chg Non a w) (hne : gr ≠ gl) (hnew : a.heap.size ≤ gl) (i : Nat) (v : Value) :
    Blk (w.setCell ⟨gl, i, none⟩ v) gl t (cs.setIfInBounds i v) ∧ Blk (w.setCell ⟨gl, i, none⟩ v) gr u zs ∧ Chg Non a (w.setCell ⟨gl, i, none⟩ v) :=
  ⟨h.1.set_ i v, h.2.1.far (p := ⟨gl, i, none⟩) hne v, h.2.2.setCell (p := ⟨gl, i, none⟩) (fun hk => absurd hnew (by simpa using hk)) v⟩

end Go.Proofs.Ytncchbcoldgpbaa
