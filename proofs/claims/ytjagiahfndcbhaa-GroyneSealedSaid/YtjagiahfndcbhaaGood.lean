/- The walks of bytes.Equal and parity.Good. -/
import Derived.Test.YtjagiahfndcbhaaCheck
import Derived.Test.YtjagiahfndcbhaaPoly
import Derived.Deep.RegionHeld3
namespace Go.Proofs.Ytjagiahfndcbhaa
open Go.RowKit

set_option maxHeartbeats 400000 in
theorem bytesEqual {v u : Value} {xs ys : List UInt8} {F G : Nat → Prop} {w : World} (ha : RdB w F v xs) (hb : RdB w G u ys) :
    Calls Try.prog 41 #[v, u] w fun e w' => e = .returned (.bool (decide (xs = ys))) ∧ ∃ k, w' = w.drewN k := by
  have h1 := run_str ha
  have h2 := run_str hb
  go_enter Try.func41, Try.ntmps41
  go_wp2
  go_ret
  refine ⟨ret_bool ?_, 0, rfl⟩
  rw [Bool.eq_iff_iff]; simp

abbrev qlist := ql
theorem len4 : Try.prog.arrayLen 75 = 4 := by kernel_rfl
theorem slice_arr4 (w : World) (g : Nat) : (Instr.sliceAt 75 (.pointer (some ⟨g, 0, none⟩)) none none none).run Try.prog w = .ok (.slice (some ⟨g, 0, none⟩) 4 4) w := by
  rw [run_sliceAt_array_all (P := Try.prog) w 75 ⟨g, 0, none⟩ (by kernel_rfl)]
  rw [len4]
  have h1 : (sizeOf (Try.prog.elem 75)).run Try.prog w = .ok 1 w := by kernel_rfl
  rw [h1]
  simp only [Result.andThen, slicedAt, Nat.zero_mul]
  rfl

set_option maxHeartbeats 1000000 in
theorem parityGood {v : Value} {l : List UInt8} {F : Nat → Prop} {w : World} (hr : RdB w F v l) :
    Calls Try.prog 40 #[v] w fun e w' => e = .returned (.bool (goodB l)) ∧ Chg Non w w' := by
  obtain ⟨A, c, rfl, hc, hm⟩ := hr.shape
  unfold maxLen at hm
  by_cases h1 : 4 ≤ l.length
  · have hp := RdBB.one (hr.front (j := l.length - 4) (by omega)) 27
    go_enter Try.func40, Try.ntmps40
    go_wp2_with fail
    refine (parityCheck hp).mono ?_
    rintro e w1 ⟨rfl, hg⟩
    simp only [List.flatten_cons, List.flatten_nil, List.append_nil]
    obtain ⟨q, hq⟩ : ∃ q, q = chk (l.take (l.length - 4)) := ⟨_, rfl⟩
    rw [← hq]
    have HQ := hide hq
    clear hq hp
    simp only [qv, bv]
    go_wp2_with fail
    have hs4 := fun w => slice_arr4 w w1.heap.size
    have hA4 : RdB (w1.alloc (.cells #[bv q.1, bv q.2.1, bv q.2.2.1, bv q.2.2.2] 75)) (fun k => k = w1.heap.size) (.slice (some ⟨w1.heap.size, 0, none⟩) 4 4) (qlist q) :=
      RdB.lit w1 75 (0, 0) _ (qlist q) 4 rfl rfl (by simp [maxLen])
    simp only [bv] at hA4
    have hg2 := (((Chg.refl Non w).alloc (.cells #[.slice A (l.length - 4) c] 27)).trans0 hg).alloc (.cells #[.int .u8 (q.1.toNat : Int), .int .u8 (q.2.1.toNat : Int), .int .u8 (q.2.2.1.toNat : Int), .int .u8 (q.2.2.2.toNat : Int)] 75)
    generalize w1.alloc (.cells #[.int .u8 (q.1.toNat : Int), .int .u8 (q.2.1.toNat : Int), .int .u8 (q.2.2.1.toNat : Int), .int .u8 (q.2.2.2.toNat : Int)] 75) = w2 at hA4 hg2 ⊢
    generalize w1.heap.size = g at hs4 hA4 ⊢
    have hr2 := (hr.c0 hg2).piece (i := l.length - 4) (j := l.length) (by omega) (Nat.le_refl _)
    rw [if_neg (by omega), List.take_of_length_le (by simp)] at hr2
    clear hg
    go_quiet ((go_at_call 41; exact Calls.quiet_of (bytesEqual (hA4.dn _) (hr2.dn _))))
    go_wp2_with fail
    go_ret
    refine ⟨ret_bool ?_, hg2.drewN _⟩
    rw [goodB, decide_eq_true h1, HQ.out]; rfl
  · go_enter Try.func40, Try.ntmps40
    go_wp2_with fail
    go_ret
    exact ⟨by rw [goodB, decide_eq_false h1]; rfl, Chg.refl _ _⟩
end Go.Proofs.Ytjagiahfndcbhaa
