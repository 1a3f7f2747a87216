/- The walk of parity.OpenAll, and which records a beginning of some opens. -/
import Derived.Test.YtfgecgmgbngeaaaGreatSealM
import Derived.Test.YtfgecgmgbngeaaaGreatCheckM
set_option linter.unusedVariables false
set_option linter.unusedSimpArgs false
set_option maxRecDepth 100000
namespace Go.Proofs.YtfgecgmgbngeaaaGreat
open Go.RowKit

theorem opN_rest : ∀ (m n : Nat) (done r x r' : List UInt8), n ≤ m → opN n done r = (x, r', 0) → ∃ k, r' = r.drop k ∧ k ≤ r.length
  | m, n, done, r, x, r', hm, h => by
    rcases Nat.eq_zero_or_pos n with h0 | h0
    · subst h0
      rw [opN_zero] at h
      injection h with _ h
      injection h with h _
      exact ⟨0, by simp [h], Nat.zero_le _⟩
    · match m, hm with
      | 0, hm => omega
      | m + 1, hm =>
        by_cases ht : tkE r (min 251 n) = 0
        · have hl := tkE_len ht
          rw [opN_ok h0 ht] at h
          obtain ⟨k, e, hk⟩ := opN_rest m _ _ _ _ _ (by omega) h
          rw [List.length_drop] at hk
          exact ⟨min 251 n + 4 + k, by rw [e, List.drop_drop], by omega⟩
        · rw [opN_bad h0 ht] at h
          injection h with _ h
          injection h with _ h
          exact absurd h ht
theorem openR_rest {r x r' : List UInt8} (h : openR r = (x, r', 0)) : ∃ k, r' = r.drop k ∧ 8 ≤ k ∧ k ≤ r.length := by
  by_cases ht : tkE r 4 = 0
  · have hl := tkE_len ht
    by_cases hn : 1048576 < be4 (r.take 4)
    · rw [openR_size ht hn] at h
      injection h with _ h
      injection h with _ h
      exact absurd h (by decide)
    · rw [openR_ok ht hn] at h
      obtain ⟨k, e, hk⟩ := opN_rest _ _ _ _ _ _ (Nat.le_refl _) h
      rw [List.length_drop] at hk
      exact ⟨8 + k, by rw [e, List.drop_drop], by omega, by omega⟩
  · rw [openR_bad ht] at h
    injection h with _ h
    injection h with _ h
    exact absurd h ht

/-! ### all records -/
def allF : Nat → List (List UInt8) → List UInt8 → List (List UInt8) × List UInt8
  | 0, done, r => (done, r)
  | f + 1, done, r => if (openR r).2.2 ≠ 0 then (done, r) else allF f (done ++ [(openR r).1]) (openR r).2.1
theorem allF_fuel : ∀ (f g : Nat) (done : List (List UInt8)) (r : List UInt8), r.length < f → r.length < g → allF f done r = allF g done r
  | 0, _, _, _, h, _ => by omega
  | _, 0, _, _, _, h => by omega
  | f + 1, g + 1, done, r, hf, hg => by
    rw [allF, allF]
    split
    · rfl
    · rename_i h
      have h0 : (openR r).2.2 = 0 := Decidable.not_not.1 h
      obtain ⟨k, e, h8, hk⟩ := openR_rest (r := r) (x := (openR r).1) (r' := (openR r).2.1) (by rw [← h0])
      exact allF_fuel f g _ _ (by rw [e, List.length_drop]; omega) (by rw [e, List.length_drop]; omega)
def allN (done : List (List UInt8)) (r : List UInt8) : List (List UInt8) × List UInt8 := allF (r.length + 1) done r
theorem allN_bad {done : List (List UInt8)} {r x y : List UInt8} {er : Int} (h : openR r = (x, y, er)) (he : er ≠ 0) : allN done r = (done, r) := by
  rw [allN, allF, h, if_pos he]
theorem allN_ok {done : List (List UInt8)} {r x y : List UInt8} (h : openR r = (x, y, 0)) : allN done r = allN (done ++ [x]) y := by
  obtain ⟨k, e, h8, hk⟩ := openR_rest h
  rw [allN, allF, h, if_neg (by simp), allN]
  exact allF_fuel _ _ _ _ (by show y.length < _; rw [e, List.length_drop]; omega) (by show y.length < _; omega)

def sealsB (ll : List (List UInt8)) : List UInt8 := ll.flatMap sealB
theorem sealsB_cons (l : List UInt8) (ll : List (List UInt8)) : sealsB (l :: ll) = sealB l ++ sealsB ll := rfl
theorem sealsB_take (ll : List (List UInt8)) (k : Nat) (h : k < ll.length) : sealsB (ll.take (k + 1)) = sealsB (ll.take k) ++ sealB ll[k] := by
  rw [List.take_succ_eq_append_getElem h, sealsB, List.flatMap_append]; simp [sealsB]
theorem openR_nil : openR [] = ([], [], 5) := by
  rw [openR_bad (by rw [tkE, if_pos (by simp)]; decide)]
  rw [tkE, if_pos (by simp)]
theorem sealB_pos (b : List UInt8) : 8 ≤ (sealB b).length := by rw [sealB_length]; omega
/-- what opens of the first m bytes -/
theorem allN_take : ∀ (ll : List (List UInt8)) (done : List (List UInt8)) (m : Nat), (∀ l ∈ ll, l.length ≤ 1048576) → m ≤ (sealsB ll).length →
    ∃ j r, j ≤ ll.length ∧ allN done ((sealsB ll).take m) = (done ++ ll.take j, r) ∧ (sealsB (ll.take j)).length + r.length = m ∧ (j < ll.length → m < (sealsB (ll.take (j + 1))).length) ∧ openR r = ([], [], 5) ∧ r = ((sealsB ll).take m).drop (sealsB (ll.take j)).length
  | [], done, m, _, hm => by
    have h0 : m = 0 := by simpa [sealsB] using hm
    subst h0
    exact ⟨0, [], Nat.le_refl _, by rw [List.take_zero, allN_bad openR_nil (by decide)]; simp, by simp [sealsB], fun h => absurd h (by simp), openR_nil, by simp⟩
  | l :: ll, done, m, hl, hm => by
    have hl0 := hl l (by simp)
    rw [sealsB_cons, List.length_append] at hm
    by_cases h1 : m < (sealB l).length
    · have e : (sealsB (l :: ll)).take m = (sealB l).take m := by rw [sealsB_cons, List.take_append_of_le_length (by omega)]
      have ho := openR_short hl0 m h1
      refine ⟨0, (sealB l).take m, Nat.zero_le _, by rw [e, allN_bad ho (by decide)]; simp, by simp [sealsB]; omega, fun _ => by simp [sealsB]; omega, ho, by rw [e]; simp [sealsB]⟩
    · have e : (sealsB (l :: ll)).take m = sealB l ++ (sealsB ll).take (m - (sealB l).length) := by
        rw [sealsB_cons, List.take_append, List.take_of_length_le (by omega)]
      obtain ⟨j, r, h2, h3, h4, h5, h6, h7⟩ := allN_take ll (done ++ [l]) (m - (sealB l).length) (fun x hx => hl x (by simp [hx])) (by omega)
      refine ⟨j + 1, r, by simp; omega, by rw [e, allN_ok (openR_sealB hl0 _), h3]; simp, ?_, fun h => ?_, h6, ?_⟩
      · rw [List.take_succ_cons, sealsB_cons, List.length_append]; omega
      · have := h5 (by simpa using h)
        rw [List.take_succ_cons, sealsB_cons, List.length_append]; omega
      · rw [e, List.take_succ_cons, sealsB_cons, List.length_append, ← List.drop_drop, List.drop_left, h7]
theorem sealsB_mono (ll : List (List UInt8)) {i j : Nat} (h : i ≤ j) : (sealsB (ll.take i)).length ≤ (sealsB (ll.take j)).length := by
  have e : ll.take j = ll.take i ++ (ll.take j).drop i := by
    conv => lhs; rw [← List.take_append_drop i (ll.take j)]
    rw [List.take_take, Nat.min_eq_left h]
  rw [e]
  unfold sealsB
  rw [List.flatMap_append, List.length_append]; omega
end Go.Proofs.YtfgecgmgbngeaaaGreat

set_option maxRecDepth 100000
namespace Go.Proofs.YtfgecgmgbngeaaaGreat

def wrapF : Nat → List UInt8 → List UInt8
  | 0, b => sealB b
  | f + 1, b => if 4096 ≤ b.length then sealB (b.take 4096) ++ wrapF f (b.drop 4096) else sealB b
theorem wrapF_fuel : ∀ (f g : Nat) (b : List UInt8), b.length ≤ f → b.length ≤ g → wrapF f b = wrapF g b
  | 0, 0, _, _, _ => rfl
  | 0, g + 1, b, h, _ => by rw [wrapF, wrapF, if_neg (by omega)]
  | f + 1, 0, b, _, h => by rw [wrapF, wrapF, if_neg (by omega)]
  | f + 1, g + 1, b, hf, hg => by
    rw [wrapF, wrapF]
    split
    · rw [wrapF_fuel f g (b.drop 4096) (by simp; omega) (by simp; omega)]
    · rfl
def wrapB (b : List UInt8) : List UInt8 := wrapF b.length b
theorem wrapB_small {b : List UInt8} (h : ¬ 4096 ≤ b.length) : wrapB b = sealB b := by
  unfold wrapB
  cases b.length with
  | zero => rfl
  | succ n => rw [wrapF, if_neg h]
theorem wrapB_big {b : List UInt8} (h : 4096 ≤ b.length) : wrapB b = sealB (b.take 4096) ++ wrapB (b.drop 4096) := by
  obtain ⟨n, hn⟩ : ∃ n, b.length = n + 1 := ⟨b.length - 1, by omega⟩
  rw [wrapB, hn, wrapF, if_pos h, wrapB]
  congr 1
  exact wrapF_fuel _ _ _ (by simp; omega) (Nat.le_refl _)
theorem wrapB_len : ∀ (n : Nat) (b : List UInt8), b.length ≤ n → (wrapB b).length ≤ 2 * b.length + 16
  | n, b, h => by
    by_cases h1 : 4096 ≤ b.length
    · match n, h with
      | 0, h => omega
      | n + 1, h =>
        have h2 := wrapB_len n (b.drop 4096) (by simp; omega)
        rw [wrapB_big h1, List.length_append, sealB_length, List.length_take]
        rw [List.length_drop] at h2
        omega
    · rw [wrapB_small h1, sealB_length]; omega

/-- record by record: what is unwrapped, the error -/
def unwF : Nat → List UInt8 → List UInt8 → List UInt8 × Int
  | 0, _, _ => ([], 5)
  | f + 1, done, r =>
    if (openR r).2.2 ≠ 0 then ([], (openR r).2.2)
    else if (openR r).1.length < 4096 then (if 0 < (openR r).2.1.length then ([], 3) else (done ++ (openR r).1, 0))
    else unwF f (done ++ (openR r).1) (openR r).2.1
theorem unwF_fuel : ∀ (f g : Nat) (done r : List UInt8), r.length < f → r.length < g → unwF f done r = unwF g done r
  | 0, _, _, _, h, _ => by omega
  | _, 0, _, _, _, h => by omega
  | f + 1, g + 1, done, r, hf, hg => by
    rw [unwF, unwF]
    split
    · rfl
    · rename_i h
      have h0 : (openR r).2.2 = 0 := Decidable.not_not.1 h
      obtain ⟨k, e, h8, hk⟩ := openR_rest (r := r) (x := (openR r).1) (r' := (openR r).2.1) (by rw [← h0])
      rw [unwF_fuel f g _ _ (by rw [e, List.length_drop]; omega) (by rw [e, List.length_drop]; omega)]
def unwN (done r : List UInt8) : List UInt8 × Int := unwF (r.length + 1) done r
theorem unwN_bad {done r x y : List UInt8} {er : Int} (h : openR r = (x, y, er)) (he : er ≠ 0) : unwN done r = ([], er) := by
  rw [unwN, unwF, h, if_pos he]
theorem unwN_form {done r x y : List UInt8} (h : openR r = (x, y, 0)) (hx : x.length < 4096) (hy : 0 < y.length) : unwN done r = ([], 3) := by
  rw [unwN, unwF, h, if_neg (by simp), if_pos hx, if_pos hy]
theorem unwN_end {done r x y : List UInt8} (h : openR r = (x, y, 0)) (hx : x.length < 4096) (hy : ¬ 0 < y.length) : unwN done r = (done ++ x, 0) := by
  rw [unwN, unwF, h, if_neg (by simp), if_pos hx, if_neg hy]
theorem unwN_ok {done r x y : List UInt8} (h : openR r = (x, y, 0)) (hx : ¬ x.length < 4096) : unwN done r = unwN (done ++ x) y := by
  obtain ⟨k, e, h8, hk⟩ := openR_rest h
  rw [unwN, unwF, h, if_neg (by simp), if_neg hx, unwN]
  exact unwF_fuel _ _ _ _ (by show y.length < _; rw [e, List.length_drop]; omega) (by show y.length < _; omega)
theorem unwN_wrapB : ∀ (n : Nat) (b done : List UInt8), b.length ≤ n → unwN done (wrapB b) = (done ++ b, 0)
  | n, b, done, h => by
    by_cases h1 : 4096 ≤ b.length
    · match n, h with
      | 0, h => omega
      | n + 1, h =>
        have hl : (b.take 4096).length = 4096 := by rw [List.length_take]; omega
        rw [wrapB_big h1, unwN_ok (openR_sealB (by omega) _) (by omega), unwN_wrapB n _ _ (by simp; omega), List.append_assoc, List.take_append_drop]
    · have h2 := openR_sealB (b := b) (by omega) []
      rw [List.append_nil] at h2
      rw [wrapB_small h1, unwN_end h2 (by omega) (by simp)]
/-- what it holds is no longer than what it stood in -/
theorem opN_len : ∀ (m n : Nat) (done r x r' : List UInt8), n ≤ m → opN n done r = (x, r', 0) → x.length + r'.length ≤ done.length + r.length
  | m, n, done, r, x, r', hm, h => by
    rcases Nat.eq_zero_or_pos n with h0 | h0
    · subst h0
      rw [opN_zero] at h
      injection h with h1 h
      injection h with h _
      rw [h1, h]; omega
    · match m, hm with
      | 0, hm => omega
      | m + 1, hm =>
        by_cases ht : tkE r (min 251 n) = 0
        · have hl := tkE_len ht
          rw [opN_ok h0 ht] at h
          have := opN_len m _ _ _ _ _ (by omega) h
          rw [List.length_append, List.length_take, List.length_drop] at this
          omega
        · rw [opN_bad h0 ht] at h
          injection h with _ h
          injection h with _ h
          exact absurd h ht
theorem openR_len {r x r' : List UInt8} (h : openR r = (x, r', 0)) : x.length + r'.length ≤ r.length := by
  by_cases ht : tkE r 4 = 0
  · have hl := tkE_len ht
    by_cases hn : 1048576 < be4 (r.take 4)
    · rw [openR_size ht hn] at h
      injection h with _ h
      injection h with _ h
      exact absurd h (by decide)
    · rw [openR_ok ht hn] at h
      have := opN_len _ _ _ _ _ _ (Nat.le_refl _) h
      rw [List.length_drop] at this
      simp at this
      omega
  · rw [openR_bad ht] at h
    injection h with _ h
    injection h with _ h
    exact absurd h ht
end Go.Proofs.YtfgecgmgbngeaaaGreat

set_option maxRecDepth 100000
namespace Go.Proofs.YtfgecgmgbngeaaaGreat
open Go.RowKit

set_option maxRecDepth 100000 in
set_option maxHeartbeats 1000000 in
theorem parityWrap {u : Value} {b : List UInt8} {F : Nat → Prop} {w : World} (hr : RdB w F u b) (hbl : b.length ≤ 1000000000) :
    Calls Tryz.prog 28 #[u] w fun e w' => ∃ v, e = .returned v ∧ OwnB w' w.heap.size v (wrapB b) ∧ Chg Non w w' := by
  have hr0 := hr.lt
  have hwl := wrapB_len _ b (Nat.le_refl _)
  clear hr
  go_enter Tryz.func28, Tryz.ntmps28
  go_wp2_with fail
  go_loopw [0, 3] (fun uv ov wr => ∃ (rest out : List UInt8), RdB wr (fun k => F k ∧ k < w.heap.size) uv rest ∧ OwnB wr w.heap.size ov out ∧ rest.length ≤ b.length ∧ Hid (out ++ wrapB rest = wrapB b) ∧ Chg Non w wr) (fun uv _ _ => sliceLen uv)
  case atStart => exact ⟨b, [], hr0, OwnB.nil_ _ _, Nat.le_refl _, hide rfl, Chg.refl _ _⟩
  case round =>
    clear hr0
    obtain ⟨rest, out, hr, hown, hrl, hsp, hcw⟩ := hrel
    have hlen8 := fun (w' : World) (ty : TypeId) => run_len8 hr w' ty
    have hol := congrArg List.length hsp.out
    rw [List.length_append] at hol
    have hsz := hcw.size
    have hsl0 := hr.slen
    by_cases h1 : 4096 ≤ rest.length
    · have HSP := hide (hsp.out.symm.trans (by rw [wrapB_big h1, ← List.append_assoc]))
      have hol2 := congrArg List.length (wrapB_big h1)
      rw [List.length_append] at hol2
      obtain ⟨s1, hs1, hc1⟩ := run_cut_h hr (j := 4096) (y := 4096) rfl h1
      obtain ⟨s2, hs2, hc2⟩ := run_cut_l hr (i := 4096) (x := 4096) rfl h1
      have hsl2 := hs2.slen
      rw [List.length_drop] at hsl2
      have hl1 : (rest.take 4096).length = 4096 := by rw [List.length_take]; omega
      have hd1 : (4096 : Int) ≤ (rest.length : Int) := by omega
      have hd1b : decide ((4096 : Int) ≤ (rest.length : Int)) = true := decide_eq_true hd1
      have hseal := paritySeal hs1
      rw [if_neg (by omega), if_neg (by omega)] at hseal
      have hlen : out.length + (sealB (rest.take 4096)).length ≤ 140737488355328 := by omega
      have hdl : (rest.drop 4096).length ≤ b.length := by rw [List.length_drop]; omega
      have hm : rest.length - 4096 < rest.length := by omega
      clear hol hol2 hs1 hl1 hsp
      go_wp2_with fail
      refine hseal.mono ?_
      rintro e w3 ⟨s3, rfl, hs3, k3⟩
      have hown3 := hown.chg k3 fun _ _ h => h
      have hs2w := hs2.c0 k3
      have hcw3 := hcw.trans0 k3
      have hsz3 := hcw3.size
      clear hseal hr hown hcw k3 hs2
      go_wp2_with (at_builtin; refine append_B rfl _ _ rfl hown3 rfl hs3.rd rfl hlen hsz3 ?_; intro v4 w4 hown4 hg4 hat4)
      have hrow4 : ∀ k, u3.ownBlock = some k → w.heap.size ≤ k := fun k hk => (hown3.lt k hk).1
      have hs4 := hs2w.chg (Chg.of_grown hg4) fun k hk e => by have := hrow4 k e.symm; have := hk.2; omega
      have hcw4 := hcw3.own hg4 hrow4
      go_round
      case rel => exact ⟨_, _, hs4, hown4, hdl, HSP.out.symm |> hide, hcw4⟩
      case measure => rw [hsl2, hsl0]; exact hm
    · have HSP := hide (hsp.out.symm.trans (by rw [wrapB_small h1]))
      have hol2 := congrArg List.length (wrapB_small h1)
      obtain ⟨s1, hs1, hc1⟩ := run_cut_h hr (j := rest.length) (y := (rest.length : Int)) rfl (Nat.le_refl _)
      rw [List.take_length] at hs1
      have hd1 : ¬ (4096 : Int) ≤ (rest.length : Int) := by omega
      have hd2 : decide ((rest.length : Int) < 4096) = true := decide_eq_true (by omega)
      have hseal := paritySeal hs1
      rw [if_neg (by omega), if_neg (by omega)] at hseal
      have hlen : out.length + (sealB rest).length ≤ 140737488355328 := by omega
      clear hol hol2 hs1 hsp
      go_wp2_with fail
      refine hseal.mono ?_
      rintro e w3 ⟨s3, rfl, hs3, k3⟩
      have hown3 := hown.chg k3 fun _ _ h => h
      have hcw3 := hcw.trans0 k3
      have hsz3 := hcw3.size
      clear hseal hr hown hcw k3
      go_wp2_with (at_builtin; refine append_B rfl _ _ rfl hown3 rfl hs3.rd rfl hlen hsz3 ?_; intro v4 w4 hown4 hg4 hat4)
      go_ret
      exact ⟨_, rfl, by rw [HSP.out]; exact hown4, hcw3.own hg4 fun k hk => (hown3.lt k hk).1⟩

theorem run_lenp {v : Value} {l : List UInt8} {base : Nat} {w : World} (h : OwnB w base v l) (w' : World) (ty : TypeId) : (Builtin.len_ #[30] ty #[v]).run Tryz.prog w' = .ok (.int .i64 (l.length : Int)) w' := run_len8 h.rd w' ty
set_option maxRecDepth 100000 in
set_option maxHeartbeats 1000000 in
theorem parityUnwrap {u : Value} {b : List UInt8} {F : Nat → Prop} {w : World} (hr : RdB w F u b) (hbl : b.length ≤ 1000000000) :
    Calls Tryz.prog 42 #[u] w fun e w' => ∃ v, e = .returned (.tuple #[v, .int .i64 (unwN [] b).2]) ∧ OwnB w' w.heap.size v (unwN [] b).1 ∧ Chg Non w w' := by
  have hr0 := hr.lt
  have hlen8 := fun (w' : World) (ty : TypeId) => run_len8 hr w' ty
  clear hr
  go_enter Tryz.func42, Tryz.ntmps42
  go_wp2_with fail
  go_loopw [4, 5] (fun ov av wr => ∃ (a : Nat) (done : List UInt8), av = .int .i64 (a : Int) ∧ a ≤ b.length ∧ Hid (done.length ≤ a) ∧ Hid (unwN [] b = unwN done (b.drop a)) ∧ OwnB wr w.heap.size ov done ∧ RdB wr (fun k => F k ∧ k < w.heap.size) u b ∧ Chg Non w wr) (fun _ av _ => b.length - (intOf av).toNat)
  case atStart => exact ⟨0, [], rfl, Nat.zero_le _, hide (Nat.le_refl _), hide (by simp), OwnB.nil_ _ _, hr0, Chg.refl _ _⟩
  case round =>
    clear hr0
    obtain ⟨a, done, rfl, ha, hda, hal, hO, hr, hcw⟩ := hrel
    have hopen := parityOpen (at_ := (a : Int)) hr (by omega)
    obtain ⟨x, y, er, hop⟩ : ∃ x y er, openR (b.drop a) = (x, y, er) := ⟨_, _, _, rfl⟩
    by_cases he : er = 0
    · subst he
      obtain ⟨k, e, h8, hk⟩ := openR_rest hop
      have hxl := openR_len hop
      have hA := openA_ok ha hop
      rw [List.length_drop] at hk hxl
      rw [e, List.length_drop, List.length_drop] at hxl
      obtain ⟨a2, ha2⟩ : ∃ a2, a2 = a + k := ⟨_, rfl⟩
      rw [e, List.length_drop, List.length_drop, show (b.length : Int) - ((b.length - a - k : Nat) : Int) = (a2 : Int) by omega] at hA
      rw [hA] at hopen
      simp only [opA] at hopen
      have hyl : y.length = b.length - a2 := by rw [e, List.length_drop, List.length_drop]; omega
      have HFORM := fun h h' => hide (hal.out.trans (unwN_form (done := done) hop h h'))
      have HEND := fun h h' => hide (hal.out.trans (unwN_end (done := done) hop h h'))
      have HOK := fun h => hide (hal.out.trans (unwN_ok (done := done) hop h))
      rw [e, List.drop_drop, ← ha2] at HOK
      have hdl : done.length + x.length ≤ 140737488355328 := by have := hda.out; omega
      have hda2 := hide (show (done ++ x).length ≤ a2 by have := hda.out; simp; omega)
      have hsz := hcw.size
      have hak : a2 ≤ b.length := by omega
      have hk8 := hide (show a + 8 ≤ a2 by omega)
      clear hA hop e hal hda hk hxl ha2
      by_cases h5 : x.length < 4096
      · have hd5 : decide ((x.length : Int) < 4096) = true := decide_eq_true (by omega)
        by_cases h6 : a2 < b.length
        · have HF := HFORM h5 (by omega)
          have hd6 : decide ((a2 : Int) < (b.length : Int)) = true := decide_eq_true (by omega)
          clear HFORM HEND HOK hyl
          go_wp2_with fail
          refine hopen.mono ?_
          rintro e w3 ⟨u3, rfl, hown3, k3⟩
          have hl3 := run_lenp hown3
          have hO3 := hO.chg k3 fun _ _ h => h
          have hr3 := hr.c0 k3
          have hcw3 := hcw.trans0 k3
          have hsz3 := hcw3.size
          clear hopen hO hr hcw k3
          go_wp2_with (at_builtin; refine append_B rfl _ _ rfl hO3 rfl hown3.rd rfl hdl hsz3 ?_; intro v5 w5 hO5 hg5 hat5)
          go_ret2
          rw [HF.out]
          exact ⟨_, rfl, OwnB.nil_ _ _, hcw3.own hg5 fun k hk => (hO3.lt k hk).1⟩
        · have HF := HEND h5 (by omega)
          have hd6 : decide ((a2 : Int) < (b.length : Int)) = false := decide_eq_false (by omega)
          clear HFORM HEND HOK hyl
          go_wp2_with fail
          refine hopen.mono ?_
          rintro e w3 ⟨u3, rfl, hown3, k3⟩
          have hl3 := run_lenp hown3
          have hO3 := hO.chg k3 fun _ _ h => h
          have hr3 := hr.c0 k3
          have hcw3 := hcw.trans0 k3
          have hsz3 := hcw3.size
          clear hopen hO hr hcw k3
          go_wp2_with (at_builtin; refine append_B rfl _ _ rfl hO3 rfl hown3.rd rfl hdl hsz3 ?_; intro v5 w5 hO5 hg5 hat5)
          go_ret2
          rw [HF.out]
          exact ⟨_, rfl, hO5, hcw3.own hg5 fun k hk => (hO3.lt k hk).1⟩
      · have hd5 : decide ((x.length : Int) < 4096) = false := decide_eq_false (by omega)
        have HN := HOK h5
        clear HFORM HEND HOK hyl
        go_wp2_with fail
        refine hopen.mono ?_
        rintro e w3 ⟨u3, rfl, hown3, k3⟩
        have hl3 := run_lenp hown3
        have hO3 := hO.chg k3 fun _ _ h => h
        have hr3 := hr.c0 k3
        have hcw3 := hcw.trans0 k3
        have hsz3 := hcw3.size
        clear hopen hO hr hcw k3
        go_wp2_with (at_builtin; refine append_B rfl _ _ rfl hO3 rfl hown3.rd rfl hdl hsz3 ?_; intro v5 w5 hO5 hg5 hat5)
        have hrow5 : ∀ k, u4.ownBlock = some k → w.heap.size ≤ k := fun k hk => (hO3.lt k hk).1
        have hr5 := hr3.chg (Chg.of_grown hg5) fun j hj e => by have := hrow5 j e.symm; have := hj.2; omega
        have hcw5 := hcw3.own hg5 hrow5
        go_round
        case rel => exact ⟨a2, _, by go_num, hak, hda2, HN, hO5, hr5, hcw5⟩
        case measure => have := hk8.out; simp [intOf]; omega
    · have hA := openA_bad ha hop he
      rw [hA] at hopen
      simp only [opA] at hopen
      have HN := hide (hal.out.trans (unwN_bad hop he))
      have hne : (er != 0) = true := by simp [he]
      clear hA hop he hal hda
      go_wp2_with fail
      refine hopen.mono ?_
      rintro e w3 ⟨u3, rfl, hown3, k3⟩
      go_wp2_with fail
      go_ret2
      rw [HN.out]
      exact ⟨_, rfl, OwnB.nil_ _ _, hcw.trans0 k3⟩
end Go.Proofs.YtfgecgmgbngeaaaGreat
