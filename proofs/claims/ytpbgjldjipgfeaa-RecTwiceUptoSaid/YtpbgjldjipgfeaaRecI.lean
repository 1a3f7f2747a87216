/- The walks of groyneref06.SameWrites, SameRanges and Same at records that are alike. -/
import Derived.Test.YtpbgjldjipgfeaaRecF
import Derived.Test.YtpbgjldjipgfeaaRefA
namespace Go.Proofs.Ytpbgjldjipgfeaa
open Go.RowKit
set_option linter.unusedVariables false

theorem RdW.dn {w : World} {F : Nat → Prop} {v : Value} {l : List WrS} (h : RdW w F v l) (n : Nat) : RdW (w.drewN n) F v l := h.c0 ((Chg.refl Non w).drewN n)

set_option maxHeartbeats 4000000 in
theorem ref6SameW {v u : Value} {l : List WrS} {F G : Nat → Prop} {w : World} (ha : RdW w F v l) (hb : RdW w G u l) :
    Calls Try.prog 33 #[v, u] w fun e w' => e = .returned (.bool true) ∧ ∃ k, w' = w.drewN k := by
  obtain ⟨A, c, rfl, hc, hm⟩ := ha.shape
  obtain ⟨B, d, rfl, hd, hn⟩ := hb.shape
  unfold maxLen at hm hn
  have he : ((l.length : Int) != (l.length : Int)) = false := by simp
  go_enter Try.func33, Try.ntmps33
  go_wp2_with fail
  go_loopw [5] (fun iv wr => ∃ (k : Nat), k ≤ l.length ∧ iv = .int .i64 k ∧ Quiet w wr) (fun iv _ => l.length - (intOf iv).toNat)
  case atStart => exact ⟨0, Nat.zero_le _, rfl, ⟨0, rfl⟩⟩
  case round =>
    obtain ⟨k, hk, rfl, hq⟩ := hrel
    have hcq := (Chg.refl Non w).quiet hq
    by_cases h1 : k < l.length
    · obtain ⟨ad, p, r, rfl, _, a1, a2, a3, rp, rr⟩ := (ha.c0 hcq).at_ h1
      obtain ⟨bd, p2, r2, rfl, _, b1, b2, b3, rp2, rr2⟩ := (hb.c0 hcq).at_ h1
      have hcall1 := fun (j : Nat) => (refEqual_true (rp.dn j) (rp2.dn j))
      have hcall2 := fun (j : Nat) => (refEqual_true (rr.dn j) (rr2.dn j))
      obtain ⟨f, hf⟩ : ∃ f, f = l[k].f := ⟨_, rfl⟩
      rw [← hf] at a3 b3
      have hff : (f != f) = false := by simp
      have h1i : (k : Int) < (l.length : Int) := by omega
      have h0i : (0 : Int) ≤ (k : Int) := by omega
      clear hf rp rr rp2 rr2
      go_wp2_with fail
      go_quiet ((go_at_call 10; first | exact Calls.quiet_of (hcall1 _) | exact Calls.quiet_of (hcall2 _)))
      go_wp2_with fail
      go_roundw
      case rel => exact ⟨k + 1, by omega, by go_num, hq.dn _⟩
      case measure => simp [intOf]; omega
    · go_wp2_with fail
      go_ret
      exact ⟨rfl, hq⟩

set_option maxHeartbeats 4000000 in
theorem ref6SameR {v u : Value} {l : List WrS} {F G : Nat → Prop} {w : World} (ha : RdW w F v l) (hb : RdW w G u l) :
    Calls Try.prog 34 #[v, u] w fun e w' => e = .returned (.bool true) ∧ ∃ k, w' = w.drewN k := by
  obtain ⟨A, c, rfl, hc, hm⟩ := ha.shape
  obtain ⟨B, d, rfl, hd, hn⟩ := hb.shape
  unfold maxLen at hm hn
  have he : ((l.length : Int) != (l.length : Int)) = false := by simp
  go_enter Try.func34, Try.ntmps34
  go_wp2_with fail
  go_loopw [5] (fun iv wr => ∃ (k : Nat), k ≤ l.length ∧ iv = .int .i64 k ∧ Quiet w wr) (fun iv _ => l.length - (intOf iv).toNat)
  case atStart => exact ⟨0, Nat.zero_le _, rfl, ⟨0, rfl⟩⟩
  case round =>
    obtain ⟨k, hk, rfl, hq⟩ := hrel
    have hcq := (Chg.refl Non w).quiet hq
    by_cases h1 : k < l.length
    · obtain ⟨ad, p, r, rfl, _, a1, a2, a3, rp, rr⟩ := (ha.c0 hcq).at_ h1
      obtain ⟨bd, p2, r2, rfl, _, b1, b2, b3, rp2, rr2⟩ := (hb.c0 hcq).at_ h1
      have hcall1 := fun (j : Nat) => (refEqual_true (rp.dn j) (rp2.dn j))
      have hcall2 := fun (j : Nat) => (refEqual_true (rr.dn j) (rr2.dn j))
      obtain ⟨f, hf⟩ : ∃ f, f = l[k].f := ⟨_, rfl⟩
      rw [← hf] at a3 b3
      have hff : (f != f) = false := by simp
      have h1i : (k : Int) < (l.length : Int) := by omega
      have h0i : (0 : Int) ≤ (k : Int) := by omega
      clear hf rp rr rp2 rr2
      go_wp2_with fail
      go_quiet ((go_at_call 10; first | exact Calls.quiet_of (hcall1 _) | exact Calls.quiet_of (hcall2 _)))
      go_wp2_with fail
      go_roundw
      case rel => exact ⟨k + 1, by omega, by go_num, hq.dn _⟩
      case measure => simp [intOf]; omega
    · go_wp2_with fail
      go_ret
      exact ⟨rfl, hq⟩
end Go.Proofs.Ytpbgjldjipgfeaa
