/- The walks of groyneref01's Copies, Equals, Join and Split. -/
import Derived.Test.YtijnfjnkjojjnaaRefA
import Derived.Test.YtijnfjnkjojjnaaBB
import Derived.Test.YtijnfjnkjojjnaaSlc
namespace Go.Proofs.Ytijnfjnkjojjnaa
open Go.RowKit

set_option maxHeartbeats 1000000 in
theorem refCopies {v : Value} {ll : List (List UInt8)} {F : Nat → Prop} {w : World} (hr : RdBB w F v ll) (hl : ∀ l ∈ ll, l.length ≤ 140737488355328) (hn : ll.length ≤ 1000000000000) :
    Calls Try.prog 17 #[v] w fun e w' => ∃ u, e = .returned u ∧ OwnsBB w' w.heap.size u ll ∧ Chg Non w w' := by
  obtain ⟨A, c, rfl, hc, hm⟩ := hr.shape
  unfold maxLen at hm
  have hr0 := hr.lt
  clear hr
  go_enter Try.func17, Try.ntmps17
  go_wp2_with fail
  go_loopw [3, 4] (fun ov iv wr => ∃ (k : Nat), k ≤ ll.length ∧ iv = .int .i64 k ∧ OwnsBB wr w.heap.size ov (ll.take k) ∧ RdBB wr (fun j => F j ∧ j < w.heap.size) (.slice A ll.length c) ll ∧ Chg Non w wr) (fun _ iv _ => ll.length - (intOf iv).toNat)
  case atStart => exact ⟨0, Nat.zero_le _, rfl, OwnsBB.nil_ _ _, hr0, Chg.refl _ _⟩
  case round =>
    clear hr0
    obtain ⟨k, hk, rfl, hO, hr, hcw⟩ := hrel
    by_cases h1 : k < ll.length
    · obtain ⟨ad, p, rfl, _, hp, hrp⟩ := hr.at_ h1
      have hlk := hl _ (List.getElem_mem h1)
      have HT := hide (show ll.take (k + 1) = ll.take k ++ [ll[k]] from List.take_succ_eq_append_getElem h1)
      obtain ⟨q, hq⟩ : ∃ q, q = ll[k] := ⟨_, rfl⟩
      rw [← hq] at hrp hlk HT
      have hdl : (ll.take k).length + 1 ≤ 1000000000000 := by rw [List.length_take]; omega
      have hS : ∀ j, w.heap.size ≤ j → j < wr.heap.size → ¬ Non j := fun _ _ _ h => h
      have hsz := hcw.size
      obtain ⟨P, cp, rfl, hcp, hmp⟩ := hrp.shape
      clear hq
      go_wp2_with fail
      refine (refCopy hrp hlk).mono ?_
      rintro e w3 ⟨u3, rfl, hown3, hc3⟩
      obtain ⟨A3, n3, c3, rfl⟩ : ∃ A n c, u3 = .slice A n c := by obtain ⟨A, c, e, _⟩ := hown3.shape; exact ⟨A, _, c, e⟩
      have hc4 := hc3.alloc (.cells #[.slice A3 n3 c3] 26)
      have hblk := Blk.new w3 26 #[.slice A3 n3 c3]
      have hown4 := hown3.al (.cells #[.slice A3 n3 c3] 26)
      go_wp2_with (at_builtin; refine append_BBo rfl _ _ rfl hO rfl hc4 hS rfl hown4 hsz hblk rfl hdl ?_; intro v5 w5 hO5 hg5 hat5)
      have hcr : Chg (fun j => w.heap.size ≤ j) wr w5 := (hc4.mono fun _ _ h => h.elim).grown hg5 fun j hj _ => (hO.lt j hj).1
      have hr5 := hr.chg hcr fun j hj e => by have := hj.2; omega
      have hcw5 := hcw.trans hcr fun j hj e => by omega
      go_round
      case rel => exact ⟨k + 1, by omega, by go_num, by rw [HT.out]; exact hO5, hr5, hcw5⟩
      case measure => simp [intOf]; omega
    · have HK := hide (show ll.take k = ll from List.take_of_length_le (by omega))
      rw [HK.out] at hO
      go_wp2_with fail
      go_ret
      exact ⟨_, rfl, hO, hcw⟩
end Go.Proofs.Ytijnfjnkjojjnaa
