/- The walk of groyneref01.Kept. -/
import Derived.Test.YtnedinbgibjjoaaSpare
namespace Go.Proofs.Ytnedinbgibjjoaa
open Go.RowKit

set_option maxRecDepth 100000 in
set_option maxHeartbeats 1000000 in
theorem refKept {v u : Value} {b : List UInt8} {F G : Nat → Prop} {w : World} (hv : RdB w F v (spareL b)) (hu : RdB w G u b) (hbl : b.length ≤ 1000000000000) :
    Calls Try.prog 17 #[v, u] w fun e w' => e = .returned (.bool true) ∧ ∃ k, w' = w.drewN k := by
  have hsl := spareL_len b
  obtain ⟨A, c, rfl, hcc, hcm⟩ := hv.shape
  obtain ⟨B, d, rfl, hdc, hdm⟩ := hu.shape
  unfold maxLen at hcm hdm
  have HSL := hide hsl
  have HLT := fun (k : Nat) (h : k < (spareL b).length) (hk : ¬ k < b.length) => hide (spareL_tint b k h hk)
  have HLH := fun (k : Nat) (h : k < (spareL b).length) (hk : k < b.length) => hide (spareL_head b k h hk)
  have HT2 := hide HLT
  have HH2 := hide HLH
  clear HLT HLH
  obtain ⟨s, hs⟩ : ∃ s, s = spareL b := ⟨_, rfl⟩
  rw [← hs] at hv hcc hsl ⊢
  have HS := hide hs
  have hw : IntKind.i64.wrap ((b.length : Int) + 33) = (s.length : Int) := by rw [IntWalk.i64_in _ (by omega)]; omega
  have hsl2 := hide hsl
  have hsb : s.length ≤ 2000000000000 := by omega
  clear hs hsl
  go_enter Try.func17, Try.ntmps17
  go_wp2_with fail
  go_loopw [5] (fun iv wr => ∃ (k : Nat), k ≤ s.length ∧ iv = .int .i64 k ∧ Quiet w wr) (fun iv _ => s.length - (intOf iv).toNat)
  case atStart => exact ⟨0, Nat.zero_le _, rfl, ⟨0, rfl⟩⟩
  case round =>
    obtain ⟨k, hk, rfl, hq⟩ := hrel
    by_cases h1 : k < s.length
    · obtain ⟨ad, rfl, _, hc1⟩ := (hq.rdb hv).at_ h1
      have hk1 : (k : Int) < (s.length : Int) := by omega
      have hk0 : (0 : Int) ≤ (k : Int) := by omega
      have htint := fun (w' : World) => (refTint (i := k) (w := w') (by omega)).mono fun e w'' h => (⟨h.1, 0, h.2⟩ : e = .returned (.int .u8 ((tintB k).toNat : Int)) ∧ ∃ q, w'' = w'.drewN q)
      by_cases h2 : k < b.length
      · obtain ⟨bd, rfl, _, hc2⟩ := (hq.rdb hu).at_ h2
        have he : s[k] = b[k] := by
          have h := (HH2.out k (by rw [← HS.out]; exact h1) h2).out
          simp only [← HS.out] at h
          exact h
        obtain ⟨y, hy⟩ : ∃ y, y = b[k] := ⟨_, rfl⟩
        rw [he, ← hy] at hc1
        rw [← hy] at hc2
        have hk2 : (k : Int) < (b.length : Int) := by omega
        have hd2 : decide ((k : Int) < (b.length : Int)) = true := decide_eq_true hk2
        have hd3 : decide ((b.length : Int) ≤ (k : Int)) = false := decide_eq_false (by omega)
        have hd3n : ¬ b.length ≤ k := by omega
        clear he hy hw
        go_wp2_with fail
        go_quiet ((go_at_call 30; exact Calls.quiet_of (htint _)))
        go_wp2_with fail
        go_roundw
        case rel => exact ⟨k + 1, by omega, by go_num, hq.dn _⟩
        case measure => simp [intOf]; omega
      · have he : s[k] = tintB k := by
          have h := (HT2.out k (by rw [← HS.out]; exact h1) h2).out
          simp only [← HS.out] at h
          exact h
        rw [he] at hc1
        have hd2 : decide ((k : Int) < (b.length : Int)) = false := decide_eq_false (by omega)
        have hd3 : decide ((b.length : Int) ≤ (k : Int)) = true := decide_eq_true (by omega)
        have hd3n : b.length ≤ k := by omega
        clear he hw
        go_wp2_with fail
        go_quiet ((go_at_call 30; exact Calls.quiet_of (htint _)))
        go_wp2_with fail
        go_roundw
        case rel => exact ⟨k + 1, by omega, by go_num, hq.dn _⟩
        case measure => simp [intOf]; omega
    · go_wp2_with fail
      go_ret
      exact ⟨rfl, hq⟩
end Go.Proofs.Ytnedinbgibjjoaa
