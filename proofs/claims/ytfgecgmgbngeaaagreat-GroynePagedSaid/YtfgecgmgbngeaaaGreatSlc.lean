/- Pieces of byte slices, as the walk meets them. -/
import Derived.Test.YtfgecgmgbngeaaaGreatBase
set_option linter.unusedVariables false
set_option linter.unusedSimpArgs false
set_option maxRecDepth 100000
namespace Go.Proofs.YtfgecgmgbngeaaaGreat
open Go.RowKit

theorem size_u8 (w : World) : (sizeOf (Tryz.prog.elem 30)).run Tryz.prog w = .ok 1 w := by kernel_rfl
theorem under_elem8 : Tryz.prog.underlying 30 = some (.slice (Tryz.prog.elem 30)) := by kernel_rfl

/-- 's[i:j]' of a slice whose value is kept closed -/
theorem run_cut {w : World} {F : Nat → Prop} {v : Value} {l : List UInt8} (h : RdB w F v l) {i j : Nat} {x y : Int} (hx : x = (i : Int)) (hy : y = (j : Int)) (hi : i ≤ j) (hj : j ≤ l.length) :
    ∃ sv, RdB w F sv ((l.drop i).take (j - i)) ∧ ∀ w' : World, (Instr.slice 30 v (some (.int .i64 x)) (some (.int .i64 y)) none).run Tryz.prog w' = .ok sv w' := by
  obtain ⟨A, c, rfl, hc, hm⟩ := h.shape
  subst hx; subst hy
  refine ⟨_, h.piece hi hj, fun w' => ?_⟩
  rw [run_slice_lh (P := Tryz.prog) w' 30 A l.length c under_elem8 .i64 .i64 (i : Int) (j : Int) (by omega) (by omega) (by omega), size_u8]
  simp only [Result.andThen, sliced, Int.toNat_natCast, Nat.mul_one]
/-- 's[i:]' -/
theorem run_cut_l {w : World} {F : Nat → Prop} {v : Value} {l : List UInt8} (h : RdB w F v l) {i : Nat} {x : Int} (hx : x = (i : Int)) (hi : i ≤ l.length) :
    ∃ sv, RdB w F sv (l.drop i) ∧ ∀ w' : World, (Instr.slice 30 v (some (.int .i64 x)) none none).run Tryz.prog w' = .ok sv w' := by
  obtain ⟨A, c, rfl, hc, hm⟩ := h.shape
  subst hx
  have hp := h.piece hi (Nat.le_refl _)
  rw [List.take_of_length_le (by simp)] at hp
  refine ⟨_, hp, fun w' => ?_⟩
  rw [run_slice_l (P := Tryz.prog) w' 30 A l.length c under_elem8 .i64 (i : Int) (by omega) (by omega), size_u8]
  simp only [Result.andThen, sliced, Int.toNat_natCast, Nat.mul_one]
/-- 's[:j]' -/
theorem run_cut_h {w : World} {F : Nat → Prop} {v : Value} {l : List UInt8} (h : RdB w F v l) {j : Nat} {y : Int} (hy : y = (j : Int)) (hj : j ≤ l.length) :
    ∃ sv, RdB w F sv (l.take j) ∧ ∀ w' : World, (Instr.slice 30 v none (some (.int .i64 y)) none).run Tryz.prog w' = .ok sv w' := by
  obtain ⟨A, c, rfl, hc, hm⟩ := h.shape
  subst hy
  have hp := h.piece (Nat.zero_le j) hj
  rw [List.drop_zero, Nat.sub_zero] at hp
  refine ⟨_, hp, fun w' => ?_⟩
  rw [run_slice_h (P := Tryz.prog) w' 30 A l.length c under_elem8 .i64 (j : Int) (by omega) (by omega), size_u8]
  simp only [Result.andThen, sliced, Int.toNat_natCast, Nat.zero_mul, Nat.sub_zero]
/-- 'len(s)' -/
theorem run_len8 {w : World} {F : Nat → Prop} {v : Value} {l : List UInt8} (h : RdB w F v l) (w' : World) (ty : TypeId) : (Builtin.len_ #[30] ty #[v]).run Tryz.prog w' = .ok (.int .i64 (l.length : Int)) w' := by
  obtain ⟨A, c, rfl, hc, hm⟩ := h.shape
  simp [Builtin.len_, run_underlying under_elem8, goInt]

/-! ### worlds that differ by draws alone -/
def Quiet (w w' : World) : Prop := ∃ k, w' = w.drewN k
theorem Quiet.dn {w w' : World} (h : Quiet w w') (q : Nat) : Quiet w (w'.drewN q) := by
  obtain ⟨k, rfl⟩ := h
  exact ⟨k + q, World.drewN_drewN w k q⟩
theorem Quiet.rdbb {w w' : World} (h : Quiet w w') {F : Nat → Prop} {v : Value} {ll : List (List UInt8)} (hr : RdBB w F v ll) : RdBB w' F v ll := by
  obtain ⟨k, rfl⟩ := h
  exact hr.dn k
theorem Quiet.rdb {w w' : World} (h : Quiet w w') {F : Nat → Prop} {v : Value} {l : List UInt8} (hr : RdB w F v l) : RdB w' F v l := by
  obtain ⟨k, rfl⟩ := h
  exact hr.dn k
theorem Quiet.refl (w : World) : Quiet w w := ⟨0, rfl⟩
theorem Quiet.trans {w w' w'' : World} (h : Quiet w w') (h' : Quiet w' w'') : Quiet w w'' := by
  obtain ⟨k, rfl⟩ := h'
  exact h.dn k
end Go.Proofs.YtfgecgmgbngeaaaGreat
