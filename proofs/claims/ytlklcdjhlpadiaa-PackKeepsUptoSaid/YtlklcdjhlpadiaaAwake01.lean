/- The fixed fact of groynelaw01. -/
import Derived.Test.YtlklcdjhlpadiaaPackC
import Derived.Lib.SlBytesConst
namespace Go.Proofs.Ytlklcdjhlpadiaa
open Go.RowKit

theorem convert_const (w : World) (C : Array Value) (n c : Nat) : (convert 22 22 (.slice (some ⟨w.heap.size, 0, none⟩) n c)).run Try.prog (w.alloc (.cells C 5)) = .ok (.slice (some ⟨w.heap.size, 0, none⟩) n c) (w.alloc (.cells C 5 (C.size, C.size + 1))) :=
  Lib.run_convert_bytes_const (P := Try.prog) w 22 5 C n c Try.underlying22 Try.underlying5
theorem convert_const_dn (w : World) (q : Nat) (C : Array Value) (n c : Nat) : (convert 22 22 (.slice (some ⟨w.heap.size, 0, none⟩) n c)).run Try.prog ((w.alloc (.cells C 5)).drewN q) = .ok (.slice (some ⟨w.heap.size, 0, none⟩) n c) ((w.alloc (.cells C 5 (C.size, C.size + 1))).drewN q) :=
  convert_const (w.drewN q) C n c

set_option maxRecDepth 100000 in
set_option maxHeartbeats 400000 in
theorem awake01 {w : World} : Calls Try.prog 10 #[] w fun e w' => e = .returned (.bool true) ∧ Chg Non w w' := by
  go_enter Try.func10, Try.ntmps10
  go_wp2_with fail
  refine (packNumber (RdU.lit w 29 (0, 0) _ [5, 247, 248, 70000] 4 rfl rfl (by simp [maxLen]) (by unfold U64; simp)) (by simp)).mono ?_
  rintro e w1 ⟨u, rfl, hu, hc1⟩
  go_wp2_with fail
  have e8 : numsB [5, 247, 248, 70000] = [5, 247, 248, 248, 250, 1, 17, 112] := by decide +kernel
  rw [e8] at hu
  refine (refEqual_true (hu.rd.al _) (RdB.lit w1 5 (0, 0) _ [5, 247, 248, 248, 250, 1, 17, 112] 8 rfl rfl (by simp [maxLen]))).mono ?_
  rintro e w2 ⟨rfl, q, rfl⟩
  generalize hw3 : (World.alloc w1 _).drewN q = w3
  have hc3 : Chg Non w w3 := by rw [← hw3]; exact ((((Chg.refl Non w).alloc _).trans0 hc1).alloc _).drewN q
  clear hw3
  have k1 := convert_const w3 #[.int .u8 97] 1 1
  have k2 := convert_const (w3.alloc (.cells #[.int .u8 97] 5 (1, 2))) #[.int .u8 98] 1 1
  have e1 : (w3.alloc (.cells #[.int .u8 97] 5 (1, 2))).heap.size = w3.heap.size + 1 := by simp
  rw [e1] at k2
  have ha := (RdB.lit w3 5 (1, 2) #[.int .u8 97] [97] 1 rfl rfl (by simp [maxLen])).al (.cells #[.int .u8 98] 5 (1, 2))
  have hb := RdB.lit (w3.alloc (.cells #[.int .u8 97] 5 (1, 2))) 5 (1, 2) #[.int .u8 98] [98] 1 rfl rfl (by simp [maxLen])
  rw [e1] at hb
  clear e1
  go_wp2_with fail
  refine (packCompare ha hb).mono ?_
  rintro e w4 ⟨rfl, q2, rfl⟩
  have e9 : cmpB [97] [98] = -1 := by decide +kernel
  rw [e9]
  go_wp2_with fail
  go_ret
  exact ⟨rfl, ((hc3.alloc _).alloc _).drewN _⟩
end Go.Proofs.Ytlklcdjhlpadiaa
