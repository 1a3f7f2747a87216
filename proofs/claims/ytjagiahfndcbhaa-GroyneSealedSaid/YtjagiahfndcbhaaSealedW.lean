/- The walk of GroyneSealed's short. -/
import Derived.Test.YtjagiahfndcbhaaSealedL
import Derived.Test.YtjagiahfndcbhaaBB
import Derived.Deep.Cut
import Derived.Deep.CutRange
namespace Go.Proofs.Ytjagiahfndcbhaa
open Go.RowKit

set_option maxHeartbeats 1000000 in
theorem topShort {w : World} {F : Nat → Prop} {v : Value} {ll : List (List UInt8)} (hr : RdBB w F v ll) :
    Calls Try.prog 4 #[v, .int .i64 8, .int .i64 400] w fun e w' => ∃ u, e = .returned u ∧ OwnBB w' w.heap.size (fun b => F b ∧ b < w.heap.size) u (shortL ll) ∧ Chg Non w w' := by
  have hr0 := hr.lt
  obtain ⟨A, c, rfl, hc, hm⟩ := hr.shape
  unfold maxLen at hm
  clear hr
  go_enter Try.func4, Try.ntmps4
  go_wp2_with fail
  go_loopw [7, 8] (fun ov iv wr => ∃ (i : Nat), i ≤ ll.length ∧ i ≤ 8 ∧ iv = .int .i64 i ∧ OwnBB wr w.heap.size (fun b => F b ∧ b < w.heap.size) ov ((ll.take i).map (·.take 400)) ∧ Chg Non w wr) (fun _ iv _ => 8 - (intOf iv).toNat)
  case atStart => exact ⟨0, Nat.zero_le _, Nat.zero_le _, rfl, OwnBB.nil_ _ _ _, Chg.refl _ _⟩
  case round =>
    obtain ⟨i, hi, hi8, rfl, hown, hcw⟩ := hrel
    by_cases h1 : i < ll.length
    · have d1 : decide ((i : Int) < (ll.length : Int)) = true := decide_eq_true (by omega)
      by_cases h2 : i < 8
      · have d2 : decide ((i : Int) < 8) = true := decide_eq_true (by omega)
        obtain ⟨ad, x, rfl, _, hcx, hx⟩ := (hr0.c0 hcw).at_ h1
        obtain ⟨l, hl⟩ : ∃ l, l = ll[i] := ⟨_, rfl⟩
        rw [← hl] at hx
        have HS := hide (show (ll.take (i + 1)).map (·.take 400) = (ll.take i).map (·.take 400) ++ [l.take 400] by rw [List.take_succ_eq_append_getElem h1, List.map_append, ← hl]; rfl)
        obtain ⟨X, cx, rfl, hcx2, hmx⟩ := hx.shape
        unfold maxLen at hmx
        obtain ⟨m, hm0⟩ : ∃ m, m = (l.take 400).length := ⟨_, rfl⟩
        have hmm := hide (show m = 400 ∧ 400 < l.length ∨ m = l.length ∧ ¬ 400 < l.length by rw [hm0, List.length_take]; omega)
        have hml : m ≤ l.length := by rw [hm0, List.length_take]; omega
        have hxm := hx.front hml
        rw [show l.take m = l.take 400 by
          rcases hmm.out with ⟨e, _⟩ | ⟨e, _⟩
          · rw [e]
          · rw [e, List.take_of_length_le (Nat.le_refl _), List.take_of_length_le (by omega)]] at hxm
        have HM := hide hm0
        clear hl hm0 hx
        obtain ⟨w1, rfl⟩ : ∃ w', w' = wr := ⟨_, rfl⟩
        go_upto_if 28 with fail
        go_cut [9] from 10 to 35 (fun v9 wx => v9 = .slice X m cx ∧ wx = w1)
        case first =>
          rcases hmm.out with ⟨e, hn⟩ | ⟨e, hn⟩
          · have he := hide e
            have hi1 : (400 : Int) < (l.length : Int) := by omega
            have hi2 : (400 : Int) ≤ (cx : Int) := by omega
            have hi3 : 400 ≤ cx := by omega
            clear e
            go_wp2_with fail
            go_meet
            case rel => rw [he.out]; exact ⟨rfl, rfl⟩
          · have he := hide e
            have hi1 : ¬ (400 : Int) < (l.length : Int) := by omega
            clear e
            go_wp2_with fail
            go_meet
            case rel => rw [he.out]; exact ⟨rfl, rfl⟩
        case rest =>
          obtain ⟨rfl, hq2⟩ := hcut
          subst wc
          have hal := (Chg.refl Non w1).alloc (.cells #[.slice X m cx] 27)
          have hownA := hown.c0 hal
          have hblk := Blk.new w1 27 #[.slice X m cx]
          have hw1 := hcw.size
          have hub := ((hxm.c0 hal).mono (F' := fun b => (F b ∧ b < w.heap.size) ∧ b < (w1.alloc (.cells #[.slice X m cx] 27)).heap.size ∧ u7.ownBlock ≠ some b) fun b hb => ⟨hb, by simp; omega, fun e => by have := (hown.lt b e).1; omega⟩)
          have hlen : ((ll.take i).map (·.take 400)).length + 1 ≤ 1000000000000 := by rw [List.length_map, List.length_take]; omega
          have hbase : w.heap.size ≤ (w1.alloc (.cells #[.slice X m cx] 27)).heap.size := by simp; omega
          have hlt := hown.lt
          have hcwA := hcw.trans0 hal
          clear hxm hown hcw hcx
          go_wp2_with (at_builtin; refine append_BB rfl _ _ rfl hownA rfl hub hblk rfl hlen hbase ?_; intro va wa howna hga hata)
          have hcwa : Chg Non w wa := hcwA.grown hga fun b hb hlt2 => by have := (hlt b hb).1; omega
          clear hub hownA hblk hga hata
          go_roundw
          case rel => exact ⟨i + 1, by omega, by omega, by go_num, by rw [HS.out]; exact howna, hcwa⟩
          case measure => simp [intOf]; omega
      · have d2 : decide ((i : Int) < 8) = false := decide_eq_false (by omega)
        obtain rfl : i = 8 := by omega
        go_wp2_with fail
        go_ret
        exact ⟨_, rfl, hown, hcw⟩
    · have d1 : decide ((i : Int) < (ll.length : Int)) = false := decide_eq_false (by omega)
      obtain rfl : i = ll.length := by omega
      have HT := hide (show ll.take ll.length = ll.take 8 by rw [List.take_of_length_le (Nat.le_refl _), List.take_of_length_le (by omega)])
      go_wp2_with fail
      go_ret
      rw [HT.out] at hown
      exact ⟨_, rfl, hown, hcw⟩
end Go.Proofs.Ytjagiahfndcbhaa
