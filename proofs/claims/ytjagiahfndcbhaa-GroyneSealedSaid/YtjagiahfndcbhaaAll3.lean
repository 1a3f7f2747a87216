/- The walk of parity.OpenAll, and which records a beginning of some opens. -/
import Derived.Test.YtjagiahfndcbhaaOpen3
namespace Go.Proofs.Ytjagiahfndcbhaa
open Go.RowKit

theorem opN_rest : ∀ (m n : Nat) (done r x r' : List UInt8), n ≤ m → opN n done r = (x, r', 0) → ∃ k, r' = r.drop k ∧ k ≤ r.length
  | m, n, done, r, x, r', hm, h => by
    rcases Nat.eq_zero_or_pos n with h0 | h0
    · subst h0
      rw [opN_zero] at h
      injection h with _ h
      injection h with h _
      exact ⟨0, by simp [h], Nat.zero_le _⟩
    · match m, hm with
      | 0, hm => omega
      | m + 1, hm =>
        by_cases ht : tkE r (min 251 n) = 0
        · have hl := tkE_len ht
          rw [opN_ok h0 ht] at h
          obtain ⟨k, e, hk⟩ := opN_rest m _ _ _ _ _ (by omega) h
          rw [List.length_drop] at hk
          exact ⟨min 251 n + 4 + k, by rw [e, List.drop_drop], by omega⟩
        · rw [opN_bad h0 ht] at h
          injection h with _ h
          injection h with _ h
          exact absurd h ht
theorem openR_rest {r x r' : List UInt8} (h : openR r = (x, r', 0)) : ∃ k, r' = r.drop k ∧ 8 ≤ k ∧ k ≤ r.length := by
  by_cases ht : tkE r 4 = 0
  · have hl := tkE_len ht
    by_cases hn : 1048576 < be4 (r.take 4)
    · rw [openR_size ht hn] at h
      injection h with _ h
      injection h with _ h
      exact absurd h (by decide)
    · rw [openR_ok ht hn] at h
      obtain ⟨k, e, hk⟩ := opN_rest _ _ _ _ _ _ (Nat.le_refl _) h
      rw [List.length_drop] at hk
      exact ⟨8 + k, by rw [e, List.drop_drop], by omega, by omega⟩
  · rw [openR_bad ht] at h
    injection h with _ h
    injection h with _ h
    exact absurd h ht

/-! ### all records -/
def allF : Nat → List (List UInt8) → List UInt8 → List (List UInt8) × List UInt8
  | 0, done, r => (done, r)
  | f + 1, done, r => if (openR r).2.2 ≠ 0 then (done, r) else allF f (done ++ [(openR r).1]) (openR r).2.1
theorem allF_fuel : ∀ (f g : Nat) (done : List (List UInt8)) (r : List UInt8), r.length < f → r.length < g → allF f done r = allF g done r
  | 0, _, _, _, h, _ => by omega
  | _, 0, _, _, _, h => by omega
  | f + 1, g + 1, done, r, hf, hg => by
    rw [allF, allF]
    split
    · rfl
    · rename_i h
      have h0 : (openR r).2.2 = 0 := Decidable.not_not.1 h
      obtain ⟨k, e, h8, hk⟩ := openR_rest (r := r) (x := (openR r).1) (r' := (openR r).2.1) (by rw [← h0])
      exact allF_fuel f g _ _ (by rw [e, List.length_drop]; omega) (by rw [e, List.length_drop]; omega)
def allN (done : List (List UInt8)) (r : List UInt8) : List (List UInt8) × List UInt8 := allF (r.length + 1) done r
theorem allN_bad {done : List (List UInt8)} {r x y : List UInt8} {er : Int} (h : openR r = (x, y, er)) (he : er ≠ 0) : allN done r = (done, r) := by
  rw [allN, allF, h, if_pos he]
theorem allN_ok {done : List (List UInt8)} {r x y : List UInt8} (h : openR r = (x, y, 0)) : allN done r = allN (done ++ [x]) y := by
  obtain ⟨k, e, h8, hk⟩ := openR_rest h
  rw [allN, allF, h, if_neg (by simp), allN]
  exact allF_fuel _ _ _ _ (by show y.length < _; rw [e, List.length_drop]; omega) (by show y.length < _; omega)

set_option maxRecDepth 100000 in
set_option maxHeartbeats 1000000 in
theorem parityOpenAll {u : Value} {b : List UInt8} {F : Nat → Prop} {w : World} (hr : RdB w F u b) (hbl : b.length < 1000000000000) :
    Calls Try.prog 13 #[u] w fun e w' => ∃ v, e = .returned (.tuple #[v, .int .i64 ((b.length - (allN [] b).2.length : Nat) : Int)]) ∧ OwnsBB w' w.heap.size v (allN [] b).1 ∧ Chg Non w w' := by
  have hr0 := hr.lt
  clear hr
  go_enter Try.func13, Try.ntmps13
  go_wp2_with fail
  go_loopw [4, 5] (fun ov av wr => ∃ (a : Nat) (done : List (List UInt8)), av = .int .i64 (a : Int) ∧ a ≤ b.length ∧ Hid (done.length ≤ a) ∧ Hid (allN [] b = allN done (b.drop a)) ∧ OwnsBB wr w.heap.size ov done ∧ RdB wr (fun k => F k ∧ k < w.heap.size) u b ∧ Chg Non w wr) (fun _ av _ => b.length - (intOf av).toNat)
  case atStart => exact ⟨0, [], rfl, Nat.zero_le _, hide (Nat.le_refl _), hide (by simp), OwnsBB.nil_ _ _, hr0, Chg.refl _ _⟩
  case round =>
    clear hr0
    obtain ⟨a, done, rfl, ha, hda, hal, hO, hr, hcw⟩ := hrel
    have hopen := parityOpen (at_ := (a : Int)) hr (by omega)
    obtain ⟨x, y, er, hop⟩ : ∃ x y er, openR (b.drop a) = (x, y, er) := ⟨_, _, _, rfl⟩
    by_cases he : er = 0
    · subst he
      obtain ⟨k, e, h8, hk⟩ := openR_rest hop
      rw [List.length_drop] at hk
      have hA := openA_ok ha hop
      rw [e, List.length_drop, List.length_drop, show (b.length : Int) - ((b.length - a - k : Nat) : Int) = ((a + k : Nat) : Int) by omega] at hA
      rw [hA] at hopen
      simp only [opA] at hopen
      have HN := hide (hal.out.trans (allN_ok hop))
      rw [e, List.drop_drop] at HN
      have hdl : done.length + 1 ≤ 1000000000000 := by have := hda.out; omega
      have hda2 := hide (show (done ++ [x]).length ≤ a + k by have := hda.out; simp; omega)
      have hsz := hcw.size
      have hS : ∀ j, w.heap.size ≤ j → j < wr.heap.size → ¬ Non j := fun _ _ _ h => h
      have hak : a + k ≤ b.length := by omega
      have hk8 := hide h8
      clear hA hop e hal hda hk
      go_wp2_with fail
      refine hopen.mono ?_
      rintro e w3 ⟨u3, rfl, hown3, k3⟩
      obtain ⟨A3, n3, c3, rfl⟩ : ∃ A n c, u3 = .slice A n c := by obtain ⟨A, c, e, _⟩ := hown3.shape; exact ⟨A, _, c, e⟩
      have k4 := k3.alloc (.cells #[.slice A3 n3 c3] 27)
      have hblk := Blk.new w3 27 #[.slice A3 n3 c3]
      have hown4 := hown3.al (.cells #[.slice A3 n3 c3] 27)
      clear hopen
      go_wp2_with (at_builtin; refine append_BBo rfl _ _ rfl hO rfl k4 hS rfl hown4 hsz hblk rfl hdl ?_; intro v5 w5 hO5 hg5 hat5)
      have hcr : Chg (fun j => w.heap.size ≤ j) wr w5 := (k4.mono fun _ _ h => h.elim).grown hg5 fun j hj _ => (hO.lt j hj).1
      have hr5 := hr.chg hcr fun j hj e => by have := hj.2; omega
      have hcw5 := hcw.trans hcr fun j hj e => by omega
      go_round
      case rel => exact ⟨a + k, _, by go_num, hak, hda2, HN, hO5, hr5, hcw5⟩
      case measure => have := hk8.out; simp [intOf]; omega
    · have hA := openA_bad ha hop he
      rw [hA] at hopen
      simp only [opA] at hopen
      have HN := hide (hal.out.trans (allN_bad hop he))
      have hne : (er != 0) = true := by simp [he]
      clear hA hop he hal hda
      go_wp2_with fail
      refine hopen.mono ?_
      rintro e w3 ⟨u3, rfl, hown3, k3⟩
      go_wp2_with fail
      go_ret2
      rw [HN.out]
      refine ⟨_, ?_, hO.c0 k3, hcw.trans0 k3⟩
      rw [show (b.length - (b.drop a).length : Nat) = a by rw [List.length_drop]; omega]
      rfl

/-! ### a beginning of some records -/
def sealsB (ll : List (List UInt8)) : List UInt8 := ll.flatMap sealB
theorem sealsB_cons (l : List UInt8) (ll : List (List UInt8)) : sealsB (l :: ll) = sealB l ++ sealsB ll := rfl
theorem sealsB_take (ll : List (List UInt8)) (k : Nat) (h : k < ll.length) : sealsB (ll.take (k + 1)) = sealsB (ll.take k) ++ sealB ll[k] := by
  rw [List.take_succ_eq_append_getElem h, sealsB, List.flatMap_append]; simp [sealsB]
theorem openR_nil : openR [] = ([], [], 5) := by
  rw [openR_bad (by rw [tkE, if_pos (by simp)]; decide)]
  rw [tkE, if_pos (by simp)]
theorem sealB_pos (b : List UInt8) : 8 ≤ (sealB b).length := by rw [sealB_length]; omega
/-- what opens of the first m bytes -/
theorem allN_take : ∀ (ll : List (List UInt8)) (done : List (List UInt8)) (m : Nat), (∀ l ∈ ll, l.length ≤ 1048576) → m ≤ (sealsB ll).length →
    ∃ j r, j ≤ ll.length ∧ allN done ((sealsB ll).take m) = (done ++ ll.take j, r) ∧ (sealsB (ll.take j)).length + r.length = m ∧ (j < ll.length → m < (sealsB (ll.take (j + 1))).length) ∧ openR r = ([], [], 5) ∧ r = ((sealsB ll).take m).drop (sealsB (ll.take j)).length
  | [], done, m, _, hm => by
    have h0 : m = 0 := by simpa [sealsB] using hm
    subst h0
    exact ⟨0, [], Nat.le_refl _, by rw [List.take_zero, allN_bad openR_nil (by decide)]; simp, by simp [sealsB], fun h => absurd h (by simp), openR_nil, by simp⟩
  | l :: ll, done, m, hl, hm => by
    have hl0 := hl l (by simp)
    rw [sealsB_cons, List.length_append] at hm
    by_cases h1 : m < (sealB l).length
    · have e : (sealsB (l :: ll)).take m = (sealB l).take m := by rw [sealsB_cons, List.take_append_of_le_length (by omega)]
      have ho := openR_short hl0 m h1
      refine ⟨0, (sealB l).take m, Nat.zero_le _, by rw [e, allN_bad ho (by decide)]; simp, by simp [sealsB]; omega, fun _ => by simp [sealsB]; omega, ho, by rw [e]; simp [sealsB]⟩
    · have e : (sealsB (l :: ll)).take m = sealB l ++ (sealsB ll).take (m - (sealB l).length) := by
        rw [sealsB_cons, List.take_append, List.take_of_length_le (by omega)]
      obtain ⟨j, r, h2, h3, h4, h5, h6, h7⟩ := allN_take ll (done ++ [l]) (m - (sealB l).length) (fun x hx => hl x (by simp [hx])) (by omega)
      refine ⟨j + 1, r, by simp; omega, by rw [e, allN_ok (openR_sealB hl0 _), h3]; simp, ?_, fun h => ?_, h6, ?_⟩
      · rw [List.take_succ_cons, sealsB_cons, List.length_append]; omega
      · have := h5 (by simpa using h)
        rw [List.take_succ_cons, sealsB_cons, List.length_append]; omega
      · rw [e, List.take_succ_cons, sealsB_cons, List.length_append, ← List.drop_drop, List.drop_left, h7]
theorem sealsB_mono (ll : List (List UInt8)) {i j : Nat} (h : i ≤ j) : (sealsB (ll.take i)).length ≤ (sealsB (ll.take j)).length := by
  have e : ll.take j = ll.take i ++ (ll.take j).drop i := by
    conv => lhs; rw [← List.take_append_drop i (ll.take j)]
    rw [List.take_take, Nat.min_eq_left h]
  rw [e]
  unfold sealsB
  rw [List.flatMap_append, List.length_append]; omega
end Go.Proofs.Ytjagiahfndcbhaa
