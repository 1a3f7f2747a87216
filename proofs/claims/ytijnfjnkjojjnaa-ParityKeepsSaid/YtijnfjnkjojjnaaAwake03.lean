/- The fixed fact of groynelaw03. -/
import Derived.Test.YtijnfjnkjojjnaaGood
import Derived.Test.YtijnfjnkjojjnaaRefMul
import Derived.ChangeKeysEq
import Derived.Laws.StructEq
namespace Go.Proofs.Ytijnfjnkjojjnaa
open Go.RowKit

theorem run_eq_u8 (d : Nat) (a b : UInt8) (w : World) : (Op.equalIn (d + 1) 5 (bv a) (bv b)).run Try.prog w = .ok (decide (a = b)) w := by
  simp only [Op.equalIn, Sem.run_bind, run_underlying Try.underlying5, Result.andThen_ok, bv, if_true, Sem.run_pure]
  congr 1
  rw [Bool.eq_iff_iff, beq_iff_eq, decide_eq_true_iff]
  constructor
  · intro h; exact UInt8.toNat_inj.1 (by omega)
  · rintro rfl; rfl
theorem run_part_u8 (xs : Array Value) (i : Nat) (v : Value) (h : xs[i]? = some v) (w : World) : (part 5 xs i).run Try.prog w = .ok v w := by
  have h0 : (isAgg 5).run Try.prog w = .ok false w := by kernel_rfl
  simp only [part, Sem.run_bind, h0, Result.andThen_ok, h]
  rfl
theorem run_eqItem_u8 (xs ys : Array Value) (i : Nat) (is : List Nat) (a b : UInt8) (hx : xs[i]? = some (bv a)) (hy : ys[i]? = some (bv b)) (w : World) :
    (Op.eqItems 9999 5 1 xs ys (i :: is)).run Try.prog w = if a = b then (Op.eqItems 9999 5 1 xs ys is).run Try.prog w else .ok false w := by
  simp only [Op.eqItems, Sem.run_bind, Nat.mul_one, run_part_u8 xs i _ hx, run_part_u8 ys i _ hy, Result.andThen_ok]
  rw [show (9999 : Nat) = 9998 + 1 from rfl, run_eq_u8]
  by_cases h : a = b <;> simp [h]
theorem run_eqIn_quad (p q : Quad) (w : World) : (Op.equalIn 10000 28 (qv p) (qv q)).run Try.prog w = .ok (decide (p = q)) w := by
  obtain ⟨i, hi, hz, h1, h2⟩ := info_parts info_u8
  unfold qv
  rw [show (10000 : Nat) = 9999 + 1 from rfl, run_equalIn_array w 9999 _ _ Try.underlying28 hi]
  rw [show List.range 4 = [0, 1, 2, 3] from rfl, show Try.prog.cellsOf 5 = 1 by kernel_rfl]
  rw [run_eqItem_u8 _ _ 0 _ p.1 q.1 rfl rfl, run_eqItem_u8 _ _ 1 _ p.2.1 q.2.1 rfl rfl, run_eqItem_u8 _ _ 2 _ p.2.2.1 q.2.2.1 rfl rfl, run_eqItem_u8 _ _ 3 _ p.2.2.2 q.2.2.2 rfl rfl]
  obtain ⟨p1, p2, p3, p4⟩ := p
  obtain ⟨q1, q2, q3, q4⟩ := q
  by_cases e1 : p1 = q1 <;> by_cases e2 : p2 = q2 <;> by_cases e3 : p3 = q3 <;> by_cases e4 : p4 = q4 <;> simp [e1, e2, e3, e4, Op.eqItems]
theorem run_eqIn_quad_same (p : Quad) (w : World) : (Op.equalIn 10000 28 (qv p) (qv p)).run Try.prog w = .ok true w := by
  rw [run_eqIn_quad, decide_eq_true rfl]

set_option maxRecDepth 100000 in
set_option maxHeartbeats 400000 in
theorem awake03 {w : World} : Calls Try.prog 12 #[] w fun e w' => e = .returned (.bool true) ∧ Chg Non w w' := by
  have h1 := RdBB.one (RdB.lit w 5 (0, 0) #[.int .u8 1] [1] 1 rfl rfl (by simp [maxLen])) 26
  rw [show (w.alloc (.cells #[.int .u8 1] 5)).heap.size = w.heap.size + 1 by simp] at h1
  have e4 : chk [1] = (15, 54, 120, 64) := by decide +kernel
  have e5 : goodB [1, 15, 54, 120, 64] = true := by decide +kernel
  have e6 : mulB 2 128 = 29 := by decide +kernel
  go_enter Try.func12, Try.ntmps12
  go_wp2_with fail
  refine (parityCheck h1).mono ?_
  rintro e w1 ⟨rfl, hg⟩
  simp only [List.flatten_cons, List.flatten_nil, List.append_nil, e4, qv, bv]
  have q4 : ∀ w, (Op.equalIn 10000 28 (.agg #[.int .u8 15, .int .u8 54, .int .u8 120, .int .u8 64]) (.agg #[.int .u8 15, .int .u8 54, .int .u8 120, .int .u8 64])).run Try.prog w = .ok true w := run_eqIn_quad_same (15, 54, 120, 64)
  go_wp2_with fail
  have hA := RdB.litAt (w := w1.alloc (.cells #[.int .u8 15, .int .u8 54, .int .u8 120, .int .u8 64] 28)) (g := w1.heap.size + 1) (by simp) 5 (0, 0) #[.int .u8 1, .int .u8 15, .int .u8 54, .int .u8 120, .int .u8 64] [1, 15, 54, 120, 64] 5 rfl rfl (by simp [maxLen])
  refine (parityGood hA).mono ?_
  rintro e w2 ⟨rfl, hg2⟩
  rw [e5]
  go_wp2_with fail
  refine (parityMul (a := 2) (b := 128)).mono ?_
  rintro e w' ⟨rfl, rfl⟩
  rw [e6]
  go_wp2_with fail
  go_ret
  exact ⟨rfl, ((((((Chg.refl Non w).alloc _).alloc _).trans0 hg).alloc _).alloc _).trans0 hg2⟩
end Go.Proofs.Ytijnfjnkjojjnaa
