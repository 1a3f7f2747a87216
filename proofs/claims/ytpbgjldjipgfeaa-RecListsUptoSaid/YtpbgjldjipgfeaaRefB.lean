/- The walks of groyneref01.Number and Take. -/
import Derived.Test.YtpbgjldjipgfeaaRefA
import Derived.Test.YtpbgjldjipgfeaaPackC
namespace Go.Proofs.Ytpbgjldjipgfeaa
open Go.RowKit

set_option maxRecDepth 100000 in
set_option maxHeartbeats 400000 in
theorem refNumber {n : Nat} {w : World} (hn : U64 n) :
    Calls Try.prog 30 #[.int .u64 (n : Int)] w fun e w' => ∃ u, e = .returned u ∧ OwnB w' w.heap.size u (numB n) ∧ Chg Non w w' := by
  have HU := hide hn
  clear hn
  by_cases h1 : n < 248
  · have HN := hide (numB_small n (by omega))
    go_enter Try.func30, Try.ntmps30
    go_wp2
    go_ret
    refine ⟨_, rfl, ?_, (Chg.refl _ _).alloc _⟩
    rw [HN.out]
    exact own_one w (UInt8.ofNat n) _ (by rw [UInt8.toNat_ofNat']; omega)
  · have HN := hide (numB_large n (by omega))
    go_enter Try.func30, Try.ntmps30
    go_wp2
    go_loopw [3, 4] (fun rv mv wr => ∃ (m f : Nat) (r : List UInt8), f ≤ 8 ∧ mv = .int .u64 m ∧ Hid (beF f m ++ r = be n) ∧ Hid (m < 256 ^ f) ∧ r.length ≤ 8 - f ∧ OwnB wr w.heap.size rv r ∧ Chg Non w wr) (fun _ mv _ => (intOf mv).toNat)
    case atStart => exact ⟨n, 8, [], Nat.le_refl _, rfl, hide (by rw [List.append_nil]; rfl), hide (by have := HU.out; unfold U64 at this; omega), by simp, OwnB.nil_ _ _, Chg.refl _ _⟩
    case round =>
      obtain ⟨m, f, r, hf, rfl, hbe, hm, hr8, hown, hchg⟩ := hrel
      obtain ⟨A, c, rfl, hc, hcm⟩ := hown.shape
      by_cases h3 : 0 < m
      · cases f with
        | zero => have := hm.out; simp at this; omega
        | succ f =>
        have HS := hide (beF_step hbe.out h3)
        go_wp2_with (at_builtin; refine append_B rfl _ _ rfl (own_one wr (UInt8.ofNat (m % 256)) _ ?_) rfl (hown.rd.al _) rfl ?_ ?_ ?_; rotate_left 3; intro v1 w1 hown1 hg1 hat1)
        · have hw : IntKind.u64.wrap ((m : Int) / 256) = ((m / 256 : Nat) : Int) := by
            rw [show ((m : Int) / 256) = ((m / 256 : Nat) : Int) from by omega]
            exact wrap_u64n (U64.le (U64.of_pow hm.out hf) (Nat.div_le_self _ _))
          rw [hw]
          go_roundw
          case rel =>
            refine ⟨m / 256, f, UInt8.ofNat (m % 256) :: r, by omega, rfl, hide HS.out, hide ?_, by simp; omega, ?_, (hchg.alloc _).own hg1 ?_⟩
            · have := hm.out
              rw [Nat.pow_succ] at this
              exact Nat.div_lt_of_lt_mul (by rw [Nat.mul_comm]; exact this)
            · exact hown1.low hchg.size
            · intro q hq; simp [Value.ownBlock] at hq; have := hchg.size; omega
          case measure => simp [intOf]; omega
        · rw [UInt8.toNat_ofNat']; omega
        · simp; omega
        · simp
      · have h4 : m = 0 := by omega
        subst h4
        have HB := hide (beF_stop hbe.out)
        go_wp2_with (at_builtin; refine append_B rfl _ _ rfl (own_one wr (UInt8.ofNat (247 + r.length)) _ ?_) rfl (hown.rd.al _) rfl ?_ ?_ ?_; rotate_left 3; intro v1 w1 hown1 hg1 hat1)
        · go_ret
          refine ⟨_, rfl, ?_, (hchg.alloc _).own hg1 ?_⟩
          · rw [HN.out, ← HB.out]; exact hown1.low hchg.size
          · intro q hq; simp [Value.ownBlock] at hq; have := hchg.size; omega
        · rw [UInt8.toNat_ofNat']; omega
        · simp; omega
        · simp
end Go.Proofs.Ytpbgjldjipgfeaa
