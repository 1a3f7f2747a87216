/- The walks of groyneref01's Copies, Equals, Join and Split. -/
import Derived.Test.YtpbgjldjipgfeaaRefA
import Derived.Test.YtpbgjldjipgfeaaBB
import Derived.Test.YtpbgjldjipgfeaaSlc
import Derived.Test.YtpbgjldjipgfeaaRefB
import Derived.Test.YtpbgjldjipgfeaaRefC
import Derived.Test.YtpbgjldjipgfeaaPkJoin
namespace Go.Proofs.Ytpbgjldjipgfeaa
open Go.RowKit

theorem resF_bad {m : Nat} {done : List (List UInt8)} {l : List UInt8} {a n u : Nat} {er : Int} (h : hd (l.drop a) = (n, u, er)) (he : er ≠ 0) : resF (m + 1) done (l.drop a) = ([], er) := by
  rw [resF, h, if_pos he]
theorem resF_end {m : Nat} {done : List (List UInt8)} {l : List UInt8} {a n u : Nat} (h : hd (l.drop a) = (n, u, 0)) (hx : l.length - (a + u) < n) : resF (m + 1) done (l.drop a) = ([], 5) := by
  rw [resF, h, if_neg (by simp), List.drop_drop, List.length_drop, if_pos hx]
theorem resF_ok {m : Nat} {done : List (List UInt8)} {l : List UInt8} {a n u : Nat} (h : hd (l.drop a) = (n, u, 0)) (hx : ¬ l.length - (a + u) < n) : resF (m + 1) done (l.drop a) = resF m (done ++ [(l.drop (a + u)).take n]) (l.drop (a + u + n)) := by
  rw [resF, h, if_neg (by simp), List.drop_drop, List.length_drop, if_neg hx, List.drop_drop]
  simp only [Nat.add_assoc]

theorem flatB_le (ll : List (List UInt8)) (k : Nat) : (flatB (ll.take k)).length ≤ (flatB ll).length := by
  have h : flatB ll = flatB (ll.take k) ++ flatB (ll.drop k) := by
    unfold flatB
    rw [← List.flatMap_append, List.take_append_drop]
  rw [h, List.length_append]; omega

set_option maxHeartbeats 1000000 in
theorem refJoin {x : Value} {ll : List (List UInt8)} {F : Nat → Prop} {w : World} (hr : RdBB w F x ll) (hl : (joinB ll).length + 18 ≤ 140737488355328) :
    Calls Try.prog 32 #[x] w fun e w' => ∃ u, e = .returned u ∧ OwnB w' w.heap.size u (joinB ll) ∧ Chg Non w w' := by
  obtain ⟨A, c, rfl, hc, hm⟩ := hr.shape
  unfold maxLen at hm
  have hr0 := hr.lt
  have hwl : IntKind.u64.wrap (ll.length : Int) = (ll.length : Int) := wrap_u64n (by unfold U64; omega)
  have hnum := refNumber (n := ll.length) (w := w) (by unfold U64; omega)
  clear hr
  go_enter Try.func32, Try.ntmps32
  go_wp2_with fail
  refine hnum.mono ?_
  rintro e w1 ⟨u1, rfl, hu1, hc1⟩
  go_wp2_with fail
  go_loopw [3, 4] (fun ov iv wr => ∃ (k : Nat), k ≤ ll.length ∧ iv = .int .i64 k ∧ OwnB wr w.heap.size ov (numB ll.length ++ flatB (ll.take k)) ∧ RdBB wr (fun j => F j ∧ j < w.heap.size) (.slice A ll.length c) ll ∧ Chg Non w wr) (fun _ iv _ => ll.length - (intOf iv).toNat)
  case atStart => exact ⟨0, Nat.zero_le _, rfl, by simpa [flatB] using hu1, hr0.c0 hc1, hc1⟩
  case round =>
    clear hr0 hu1 hc1 hnum
    obtain ⟨k, hk, rfl, hO, hr, hcw⟩ := hrel
    by_cases h1 : k < ll.length
    · obtain ⟨ad, p, rfl, hadF, hp, hrp⟩ := hr.at_ h1
      have htk := flatB_take ll k h1
      have hle := flatB_le ll (k + 1)
      rw [htk] at hle
      obtain ⟨q, hq⟩ : ∃ q, q = ll[k] := ⟨_, rfl⟩
      rw [← hq] at hrp htk hle
      have HT := hide htk
      clear hq htk
      obtain ⟨cur, hcur⟩ : ∃ cur, cur = numB ll.length ++ flatB (ll.take k) := ⟨_, rfl⟩
      have hcl : cur.length + (partB q).length ≤ 140737488355328 := by rw [hcur]; simp only [joinB, List.length_append] at hl hle ⊢; omega
      simp only [partB, List.length_append] at hcl
      have HC := hide hcur
      rw [← hcur] at hO
      clear hcur hle
      obtain ⟨P, cp, rfl, hcp, hmp⟩ := hrp.shape
      unfold maxLen at hmp
      have hwq : IntKind.u64.wrap (q.length : Int) = (q.length : Int) := wrap_u64n (by unfold U64; omega)
      have hnum := refNumber (n := q.length) (w := wr) (by unfold U64; omega)
      have hlen1 : cur.length + (numB q.length).length ≤ 140737488355328 := by omega
      have hlen2 : (cur ++ numB q.length).length + q.length ≤ 140737488355328 := by rw [List.length_append]; omega
      have hsz := hcw.size
      go_wp2_with fail
      refine hnum.mono ?_
      rintro e w2 ⟨u2, rfl, hu2, hc2⟩
      have hO2 := hO.chg hc2 fun _ _ h => h
      have hcw2 := hcw.trans0 hc2
      have hr2 := hr.c0 hc2
      have hrp2 := hrp.c0 hc2
      have hsz2 := hcw2.size
      have hp2 := hc2.cell hp id
      clear hO hr hrp hcw hnum hcl
      have hrow : ∀ j, u3.ownBlock = some j → w.heap.size ≤ j := fun j hj => (hO2.lt j hj).1
      have hnot : ¬ (some (ad.add k).block = u3.ownBlock) := by rw [block_of_add]; intro e; have := hrow _ e.symm; have := hadF.2; omega
      have hnotF : ∀ b, (F b ∧ b < w.heap.size) → ¬ (some b = u3.ownBlock) := fun b hb e => by have := hrow b e.symm; have := hb.2; omega
      go_wp2_with (first
        | (at_builtin; refine append_B rfl _ _ rfl hO2 rfl hu2.rd rfl hlen1 hsz2 ?_; intro v3 w3 hO3 hg3 hat3; have hp3 := (Chg.of_grown hg3).cell hp2 hnot)
        | (at_builtin; refine append_B rfl _ _ rfl hO3 rfl (hrp2.chg (Chg.of_grown hg3) hnotF) rfl hlen2 (Nat.le_trans hsz2 hg3.size) ?_; intro v4 w4 hO4 hg4 hat4))
      have hr3 := hr2.chg (Chg.of_grown hg3) hnotF
      have hcw3 := hcw2.own hg3 hrow
      have hrow4 : ∀ j, v3.ownBlock = some j → w.heap.size ≤ j := fun j hj => (hO3.lt j hj).1
      have hr4 := hr3.chg (Chg.of_grown hg4) fun b hb e => by have := hrow4 b e.symm; have := hb.2; omega
      have hcw4 := hcw3.own hg4 hrow4
      go_round
      case rel => exact ⟨k + 1, by omega, by go_num, by rw [HT.out, partB, ← List.append_assoc, ← List.append_assoc, ← HC.out]; exact hO4, hr4, hcw4⟩
      case measure => simp [intOf]; omega
    · have HK := hide (show ll.take k = ll from List.take_of_length_le (by omega))
      rw [HK.out] at hO
      go_wp2_with fail
      go_ret
      exact ⟨_, rfl, hO, hcw⟩
end Go.Proofs.Ytpbgjldjipgfeaa
