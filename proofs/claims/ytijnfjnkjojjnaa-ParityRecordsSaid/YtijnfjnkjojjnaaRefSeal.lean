/- The walk of groyneref03.Seal. -/
import Derived.Test.YtijnfjnkjojjnaaRefCell
namespace Go.Proofs.Ytijnfjnkjojjnaa
open Go.RowKit

set_option maxRecDepth 100000 in
set_option maxHeartbeats 1000000 in
theorem refSeal {u : Value} {b : List UInt8} {F : Nat → Prop} {w : World} (hr : RdB w F u b) :
    Calls Try.prog 25 #[u] w fun e w' => ∃ v', e = .returned (.tuple #[v', .int .i64 (if 1048576 < b.length then 2 else 0)]) ∧ OwnB w' w.heap.size v' (if 1048576 < b.length then [] else sealB b) ∧ Chg Non w w' := by
  have hlen8 := fun (w' : World) (ty : TypeId) => run_len8 hr w' ty
  have hml : b.length ≤ 9223372036854775807 := by obtain ⟨A, c, _, h1, h2⟩ := hr.shape; unfold maxLen at h2; omega
  by_cases h1 : 1048576 < b.length
  · rw [if_pos h1, if_pos h1]
    have hd : decide ((1048576 : Int) < (b.length : Int)) = true := decide_eq_true (by omega)
    go_enter Try.func25, Try.ntmps25
    go_wp2_with fail
    go_ret2
    exact ⟨_, rfl, OwnB.nil_ _ _, Chg.refl _ _⟩
  · rw [if_neg h1, if_neg h1]
    have hd : decide ((1048576 : Int) < (b.length : Int)) = false := decide_eq_false (by omega)
    have hr0 := hr.lt
    have hlit := RdB.lit w 5 (0, 0) #[.int .u8 ((b.length : Int) / 16777216), .int .u8 ((b.length : Int) / 65536), .int .u8 ((b.length : Int) / 256 % 256), .int .u8 ((b.length : Int) % 256)] (lenB b.length) 4 (litlen _ (by omega)) rfl (by simp [maxLen])
    have hcell := refCell hlit (by simp [lenB]) (by simp [lenB])
    have c1 := (Chg.refl Non w).alloc (.cells #[.int .u8 ((b.length : Int) / 16777216), .int .u8 ((b.length : Int) / 65536), .int .u8 ((b.length : Int) / 256 % 256), .int .u8 ((b.length : Int) % 256)] 5)
    have hsl := sealB_length b
    clear hlit
    go_enter Try.func25, Try.ntmps25
    go_wp2_with fail
    refine hcell.mono ?_
    rintro e w2 ⟨v2, rfl, hown2, k2⟩
    have c2 := c1.trans0 k2
    have hown2 := hown2.low c1.size
    have hr2 := hr0.c0 c2
    clear hcell c1 k2 hr0 hr
    go_wp2_with fail
    go_loopw [5, 6] (fun ov iv wr => ∃ (i : Nat) (out : List UInt8), iv = .int .i64 (i : Int) ∧ i ≤ 2000000 ∧ RdB wr (fun k => F k ∧ k < w.heap.size) u b ∧ OwnB wr w.heap.size ov out ∧ Hid (out ++ cellsB (b.drop i) = sealB b) ∧ Chg Non w wr) (fun _ iv _ => b.length - (intOf iv).toNat)
    case atStart => exact ⟨0, _, rfl, by omega, hr2, hown2, hide rfl, c2⟩
    case round =>
      clear hr2 hown2 c2
      obtain ⟨i, out, rfl, hi, hr, hown, hsp, hcw⟩ := hrel
      by_cases h2 : i < b.length
      · have hol := congrArg List.length hsp.out
        rw [List.length_append, cellsB_length _ _ (Nat.le_refl _), List.length_drop] at hol
        have HSP := hide (hsp.out.symm.trans (by rw [cellsB_step (by rw [List.length_drop]; omega), List.drop_drop, ← List.append_assoc]))
        obtain ⟨n, hn, hcase⟩ : ∃ n, n = min (i + 251) b.length ∧ ((i + 251 ≤ b.length ∧ n = i + 251) ∨ (¬ i + 251 ≤ b.length ∧ n = b.length)) := ⟨_, rfl, by omega⟩
        obtain ⟨s1, hs1, hc1⟩ := run_cut hr (i := i) (j := n) (x := (i : Int)) (y := (n : Int)) rfl rfl (by omega) (by omega)
        have hns : (b.drop i).take (n - i) = (b.drop i).take 251 := by
          rcases hcase with ⟨_, rfl⟩ | ⟨h, rfl⟩
          · congr 1; omega
          · rw [List.take_of_length_le (by rw [List.length_drop]; omega), List.take_of_length_le (by rw [List.length_drop]; omega)]
        rw [hns] at hs1
        have hl251 : ((b.drop i).take 251).length ≤ 251 := by rw [List.length_take]; omega
        have hcell := refCell hs1 (by omega) (by omega)
        have hlen : out.length + (cellB ((b.drop i).take 251)).length ≤ 140737488355328 := by rw [cellB_length]; omega
        have hsz := hcw.size
        clear hn hol hns
        rcases hcase with ⟨h3, rfl⟩ | ⟨h3, rfl⟩
        case' inl =>
          have h3' : decide ((b.length : Int) < (i : Int) + 251) = false := decide_eq_false (by omega)
          have h3n : ¬ b.length < i + 251 := by omega
          rw [show ((i + 251 : Nat) : Int) = (i : Int) + 251 from rfl] at hc1
        case' inr =>
          have h3' : decide ((b.length : Int) < (i : Int) + 251) = true := decide_eq_true (by omega)
          have h3n : b.length < i + 251 := by omega
        all_goals
          go_wp2_with fail
          refine hcell.mono ?_
          rintro e w3 ⟨v3, rfl, hown3, k3⟩
          have hownw := hown.chg k3 fun _ _ h => h
          have hr3 := hr.c0 k3
          have hcw3 := hcw.trans0 k3
          have hsz3 := hcw3.size
          clear hcell hr hown hcw hs1 hc1
          go_wp2_with (at_builtin; refine append_B rfl _ _ rfl hownw rfl hown3.rd rfl hlen hsz3 ?_; intro v4 w4 hown4 hg4 hat4)
          have hrow4 : ∀ k, u5.ownBlock = some k → w.heap.size ≤ k := fun k hk => (hownw.lt k hk).1
          have hr4 := hr3.chg (Chg.of_grown hg4) fun k hk e => by have := hrow4 k e.symm; have := hk.2; omega
          have hcw4 := hcw3.own hg4 hrow4
          go_round
          case rel => exact ⟨i + 251, _, by go_num, by omega, hr4, hown4, HSP.out.symm |> hide, hcw4⟩
          case measure => simp [intOf]; omega
      · have hnil := cellsB_nil (b := b.drop i) (by rw [List.length_drop]; omega)
        have hsp2 := hsp.out
        rw [hnil, List.append_nil] at hsp2
        rw [hsp2] at hown
        clear hnil hsp2 hsp
        go_wp2_with fail
        go_ret2
        exact ⟨_, rfl, hown, hcw⟩
end Go.Proofs.Ytijnfjnkjojjnaa
