/- The walks of the small functions of rec and groyneref06: truth, flag, fields, HasTxn, numbers, txn. -/
import Derived.Test.YtpbgjldjipgfeaaRecM
import Derived.Test.YtpbgjldjipgfeaaPackB
import Derived.Test.YtpbgjldjipgfeaaRefB
import Derived.Deep.RegionHeld3
namespace Go.Proofs.Ytpbgjldjipgfeaa
open Go.RowKit

theorem own_flB (w : World) (b : Bool) (n : Int) (h : n = if b then 1 else 0) : OwnB (w.alloc (.cells #[.int .u8 n] 5)) w.heap.size (.slice (some ⟨w.heap.size, 0, none⟩) 1 1) (flB b) := by
  cases b
  · exact own_one w 0 n (by simpa using h)
  · exact own_one w 1 n (by simpa using h)
theorem recTruth {b : Bool} {w : World} :
    Calls Try.prog 44 #[.bool b] w fun e w' => ∃ u, e = .returned u ∧ OwnB w' w.heap.size u (flB b) ∧ Chg Non w w' := by
  cases b
  all_goals
    go_enter Try.func44, Try.ntmps44
    go_wp2_with fail
    go_ret
    exact ⟨_, rfl, own_flB w _ _ (by simp), (Chg.refl _ _).alloc _⟩
theorem ref6Flag {b : Bool} {w : World} :
    Calls Try.prog 31 #[.bool b] w fun e w' => ∃ u, e = .returned u ∧ OwnB w' w.heap.size u (flB b) ∧ Chg Non w w' := by
  cases b
  all_goals
    go_enter Try.func31, Try.ntmps31
    go_wp2_with fail
    go_ret
    exact ⟨_, rfl, own_flB w _ _ (by simp), (Chg.refl _ _).alloc _⟩
/-- the letters of a kind's fields -/
def fldS (k : Int) : ByteArray :=
  if k = 1 then ⟨#[84, 87, 82]⟩ else if k = 2 ∨ k = 3 ∨ k = 9 then ⟨#[84]⟩ else if k = 4 then ⟨#[84, 87, 65]⟩
  else if k = 5 ∨ k = 7 ∨ k = 8 then ⟨#[73, 78]⟩ else if k = 6 then ⟨#[84, 67, 83, 65]⟩ else ⟨#[]⟩
theorem recFields {k : Int} {w : World} :
    Calls Try.prog 23 #[.int .i64 k] w fun e w' => e = .returned (.string (fldS k)) ∧ w' = w := by
  by_cases h1 : k = 1
  · subst h1
    go_enter Try.func23, Try.ntmps23
    go_wp2_with fail
    go_ret
    exact ⟨rfl, rfl⟩
  by_cases h2 : k = 2 ∨ k = 3 ∨ k = 9
  · rcases h2 with rfl | rfl | rfl
    all_goals
      go_enter Try.func23, Try.ntmps23
      go_wp2_with fail
      go_ret
      exact ⟨rfl, rfl⟩
  by_cases h4 : k = 4
  · subst h4
    go_enter Try.func23, Try.ntmps23
    go_wp2_with fail
    go_ret
    exact ⟨rfl, rfl⟩
  by_cases h5 : k = 5 ∨ k = 7 ∨ k = 8
  · rcases h5 with rfl | rfl | rfl
    all_goals
      go_enter Try.func23, Try.ntmps23
      go_wp2_with fail
      go_ret
      exact ⟨rfl, rfl⟩
  by_cases h6 : k = 6
  · subst h6
    go_enter Try.func23, Try.ntmps23
    go_wp2_with fail
    go_ret
    exact ⟨rfl, rfl⟩
  have HF := hide (show fldS k = ⟨#[]⟩ by rw [fldS, if_neg h1, if_neg h2, if_neg h4, if_neg h5, if_neg h6])
  have e1 : (k == 1) = false := beq_eq_false_iff_ne.2 h1
  have e2 : (k == 2) = false := beq_eq_false_iff_ne.2 fun e => h2 (.inl e)
  have e3 : (k == 3) = false := beq_eq_false_iff_ne.2 fun e => h2 (.inr (.inl e))
  have e9 : (k == 9) = false := beq_eq_false_iff_ne.2 fun e => h2 (.inr (.inr e))
  have e4 : (k == 4) = false := beq_eq_false_iff_ne.2 h4
  have e5 : (k == 5) = false := beq_eq_false_iff_ne.2 fun e => h5 (.inl e)
  have e7 : (k == 7) = false := beq_eq_false_iff_ne.2 fun e => h5 (.inr (.inl e))
  have e8 : (k == 8) = false := beq_eq_false_iff_ne.2 fun e => h5 (.inr (.inr e))
  have e6 : (k == 6) = false := beq_eq_false_iff_ne.2 h6
  clear h1 h2 h4 h5 h6
  go_enter Try.func23, Try.ntmps23
  go_wp2_with fail
  go_ret
  rw [HF.out]
  exact ⟨rfl, rfl⟩
def hasT (k : Int) : Bool := decide (1 ≤ k) && decide (k ≤ 4) || k == 6 || k == 9
theorem ref6HasTxn {k : Int} {w : World} :
    Calls Try.prog 21 #[.int .i64 k] w fun e w' => e = .returned (.bool (hasT k)) ∧ w' = w := by
  have HT := hide (show hasT k = (decide (1 ≤ k) && decide (k ≤ 4) || k == 6 || k == 9) from rfl)
  by_cases h1 : 1 ≤ k
  · have d1 : decide (1 ≤ k) = true := decide_eq_true h1
    by_cases h2 : k ≤ 4
    · have d2 : decide (k ≤ 4) = true := decide_eq_true h2
      rw [d1, d2] at HT
      clear h1 h2
      go_enter Try.func21, Try.ntmps21
      go_wp2_with fail
      go_ret
      rw [HT.out]
      exact ⟨rfl, rfl⟩
    · have d2 : decide (k ≤ 4) = false := decide_eq_false h2
      rw [d1, d2] at HT
      clear h1 h2
      by_cases h6 : k = 6
      · subst h6
        go_enter Try.func21, Try.ntmps21
        go_wp2_with fail
        go_ret
        exact ⟨rfl, rfl⟩
      · have d6 : (k == 6) = false := beq_eq_false_iff_ne.2 h6
        rw [d6] at HT
        go_enter Try.func21, Try.ntmps21
        go_wp2_with fail
        go_ret
        rw [HT.out]
        exact ⟨rfl, rfl⟩
  · have d1 : decide (1 ≤ k) = false := decide_eq_false h1
    have d6 : (k == 6) = false := beq_eq_false_iff_ne.2 (by omega)
    have d9 : (k == 9) = false := beq_eq_false_iff_ne.2 (by omega)
    rw [d1, d6, d9] at HT
    clear h1
    go_enter Try.func21, Try.ntmps21
    go_wp2_with fail
    go_ret
    rw [HT.out]
    exact ⟨rfl, rfl⟩

theorem recNumbers {v : Value} {l : List Nat} {F : Nat → Prop} {w : World} (hr : RdU w F v l) (hl : l.length ≤ 1000000000) :
    Calls Try.prog 43 #[v] w fun e w' => ∃ u, e = .returned u ∧ OwnB w' w.heap.size u (numsB l) ∧ Chg Non w w' := by
  obtain ⟨A, c, rfl, hc, hm⟩ := hr.shape
  unfold maxLen at hm
  go_enter Try.func43, Try.ntmps43
  go_wp2_with fail
  go_loopw [3, 8] (fun ov iv wr => ∃ k : Nat, k ≤ l.length ∧ iv = .int .i64 k ∧ OwnB wr w.heap.size ov (numsB (l.take k)) ∧ Chg Non w wr) (fun _ i _ => l.length - (intOf i).toNat)
  case atStart => exact ⟨0, Nat.zero_le _, rfl, OwnB.nil_ _ _, Chg.refl _ _⟩
  case round =>
    obtain ⟨k, hk, rfl, hown, hchg⟩ := hrel
    by_cases h1 : k < l.length
    · obtain ⟨ad, rfl, _, hu, hca⟩ := (hr.c0 hchg).at_ h1
      have HT := hide (numsB_take l k h1)
      have hnn := numsB_length (l.take k)
      rw [List.length_take, Nat.min_eq_left hk] at hnn
      obtain ⟨n, hn⟩ : ∃ n, n = l[k] := ⟨_, rfl⟩
      rw [← hn] at HT hu hca
      have hn9 := numB_length n
      have hlit := RdU.lit wr 22 (0, 0) #[.int .u64 (n : Int)] [n] 1 rfl rfl (by simp [maxLen]) (by simpa using hu)
      have hcall := packNumber hlit (by simp)
      have hs := hchg.size
      have h1n : numsB [n] = numB n := by simp [numsB]
      rw [h1n] at hcall
      have HC := hide hcall
      have hlen : (numsB (l.take k)).length + (numB n).length ≤ 140737488355328 := by omega
      clear hn hcall h1n hu hlit
      go_wp2_with (first
        | (go_at_call 45; refine HC.out.mono ?_; rintro e w2 ⟨u2, rfl, hu2, hc2⟩; have hc3 := ((Chg.refl Non wr).alloc (.cells #[.int .u64 (n : Int)] 22)).trans0 hc2; have hs3 := hc3.size)
        | (at_builtin; refine append_B rfl _ _ rfl (hown.chg hc3 fun _ _ h => h) rfl hu2.rd rfl hlen (Nat.le_trans hs hs3) ?_; intro v3 w3 hO3 hg3 hat3))
      go_roundw
      case rel =>
        refine ⟨k + 1, by omega, by go_num, ?_, (hchg.trans0 hc3).own hg3 fun q hq => (hown.lt q hq).1⟩
        rw [HT.out]; exact hO3
      case measure => simp [intOf]; omega
    · have HK := hide (show l.take k = l from List.take_of_length_le (by omega))
      rw [HK.out] at hown
      go_wp2_with fail
      go_ret
      exact ⟨_, rfl, hown, hchg⟩
end Go.Proofs.Ytpbgjldjipgfeaa
