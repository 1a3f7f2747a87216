/- groyneref06.Bytes at kinds that are none, and at all. -/
import Derived.Test.YtpbgjldjipgfeaaRecG
namespace Go.Proofs.Ytpbgjldjipgfeaa
open Go.RowKit
set_option linter.unusedVariables false

theorem hasT_not {k : Int} (h : ¬ (1 ≤ k ∧ k ≤ 9)) : hasT k = false := by
  unfold hasT
  have h6 : (k == 6) = false := beq_eq_false_iff_ne.2 (by omega)
  have h9 : (k == 9) = false := beq_eq_false_iff_ne.2 (by omega)
  rw [h6, h9]
  by_cases h1 : 1 ≤ k
  · rw [decide_eq_false (by omega : ¬ k ≤ 4)]; simp
  · rw [decide_eq_false h1]; simp
theorem fldR_not {x : RcS} (h : ¬ (1 ≤ x.kind ∧ x.kind ≤ 9)) : fldR x = [] := by
  rw [fldR, if_neg (by omega), if_neg (by omega), if_neg (by omega), if_neg (by omega), if_neg (by omega)]

set_option maxHeartbeats 8000000 in
set_option maxRecDepth 100000 in
theorem ref6BytesO {x : RcS} {wv rv sv pv : Value} {F : Nat → Prop} {w : World} (hr : RecR w F x wv rv sv pv) (hk : ¬ (1 ≤ x.kind ∧ x.kind ≤ 9)) :
    Calls Try.prog 11 #[.agg (recC x wv rv sv pv)] w fun e w' => ∃ u, e = .returned u ∧ OwnB w' w.heap.size u (recY x) ∧ Chg Non w w' := by
  have hk0 : Chg Non w (w.alloc (.cells (recC x wv rv sv pv) 30)) := (Chg.refl Non w).alloc _
  have hb0 := Blk.new w 30 (recC x wv rv sv pv)
  have HF := hide (show recY x = joinB [[kiB x.kind]] from by rw [recY, fldR_not hk])
  have hhas := fun (w' : World) => ref6HasTxn (k := x.kind) (w := w')
  simp only [hasT_not hk] at hhas
  have HH := hide hhas
  have hki := kiB_int x.kind
  have hj1 := joinB_len [[kiB x.kind]]
  have q1 : (x.kind == 1) = false := beq_eq_false_iff_ne.2 (by omega)
  have q4 : (x.kind == 4) = false := beq_eq_false_iff_ne.2 (by omega)
  have q5 : (x.kind == 5) = false := beq_eq_false_iff_ne.2 (by omega)
  have q7 : (x.kind == 7) = false := beq_eq_false_iff_ne.2 (by omega)
  have q8 : (x.kind == 8) = false := beq_eq_false_iff_ne.2 (by omega)
  have q6 : (x.kind == 6) = false := beq_eq_false_iff_ne.2 (by omega)
  clear hr hhas hk
  unfold recC at hk0 hb0 ⊢
  go_enter Try.func11, Try.ntmps11
  go_upto_region 1 with fail
  generalize World.alloc _ _ = w0 at hb0 hk0 ⊢
  have hsz := hk0.size
  obtain ⟨c0, c1, c2, c3, c4, c5, c6, c7, c8, c9, c10⟩ := rblk hb0
  have hlast := hb0
  clear hb0
  go_upto_region 2 with fail
  have k1 : Chg Non w0 ((w0.alloc (.cells #[.int .u8 ((kiB x.kind).toNat : Int)] 5)).alloc (.cells #[.slice (some ⟨w0.heap.size, 0, none⟩) 1 1] 28)) := ((Chg.refl Non w0).alloc _).alloc _
  have hO : OwnT ((w0.alloc (.cells #[.int .u8 ((kiB x.kind).toNat : Int)] 5)).alloc (.cells #[.slice (some ⟨w0.heap.size, 0, none⟩) 1 1] 28)) (w0.alloc (.cells #[.int .u8 ((kiB x.kind).toNat : Int)] 5)).heap.size (.slice (some ⟨(w0.alloc (.cells #[.int .u8 ((kiB x.kind).toNat : Int)] 5)).heap.size, 0, none⟩) 1 1) [[kiB x.kind]] :=
    OwnT.lit (us := [.slice (some ⟨w0.heap.size, 0, none⟩) 1 1]) (RdsB.cons (own_one w0 (kiB x.kind) _ rfl).rd (fun b hb => by simp [Value.ownBlock]) (RdsB.nil_ _ _)) 1 rfl (by simp [maxLen]) rfl
  rw [show (w0.alloc (.cells #[.int .u8 ((kiB x.kind).toNat : Int)] 5)).heap.size = w0.heap.size + 1 from by simp] at hO
  have hlast := hlast.c0 k1
  clear c0 c1 c2 c3 c4 c5 c6 c7 c8 c9 c10 hki
  generalize World.alloc _ _ = w1 at k1 hO hlast ⊢
  generalize Value.slice (some ⟨w0.heap.size + 1, 0, none⟩) 1 1 = p0 at hO ⊢
  obtain ⟨c0, c1, c2, c3, c4, c5, c6, c7, c8, c9, c10⟩ := rblk hlast
  have HJ : Hid ((joinB [[kiB x.kind]]).length + 18 ≤ 140737488355328) := hide (by simp at hj1 ⊢; omega)
  clear hj1
  go_wp2_with fail
  refine (HH.out _).mono ?_
  rintro e w2 ⟨rfl, rfl⟩
  have hj := refJoin hO.rd HJ.out
  go_wp2_with fail
  refine hj.mono ?_
  rintro e w12 ⟨u12, rfl, hu12, hc12⟩
  go_wp2_with fail
  go_ret
  rw [HF.out]
  exact ⟨_, rfl, hu12.low (Nat.le_trans hsz k1.size), (hk0.trans0 k1).trans0 hc12⟩
theorem ref6Bytes {x : RcS} {wv rv sv pv : Value} {F : Nat → Prop} {w : World} (hr : RecR w F x wv rv sv pv) (hs : RcSm x) :
    Calls Try.prog 11 #[.agg (recC x wv rv sv pv)] w fun e w' => ∃ u, e = .returned u ∧ OwnB w' w.heap.size u (recY x) ∧ Chg Non w w' := by
  by_cases h : 1 ≤ x.kind ∧ x.kind ≤ 9
  · rcases (show x.kind = 1 ∨ x.kind = 2 ∨ x.kind = 3 ∨ x.kind = 4 ∨ x.kind = 5 ∨ x.kind = 6 ∨ x.kind = 7 ∨ x.kind = 8 ∨ x.kind = 9 by omega) with h | h | h | h | h | h | h | h | h
    · exact ref6Bytes1 hr hs h
    · exact ref6Bytes2 hr hs h
    · exact ref6Bytes3 hr hs h
    · exact ref6Bytes4 hr hs h
    · exact ref6Bytes5 hr hs h
    · exact ref6Bytes6 hr hs h
    · exact ref6Bytes7 hr hs h
    · exact ref6Bytes8 hr hs h
    · exact ref6Bytes9 hr hs h
  · exact ref6BytesO hr h
end Go.Proofs.Ytpbgjldjipgfeaa
