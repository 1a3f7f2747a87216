/- The walks of groyneref01's Copies, Equals, Join and Split. -/
import Derived.Test.YtlklcdjhlpadiaaRefA
import Derived.Test.YtlklcdjhlpadiaaBB
import Derived.Test.YtlklcdjhlpadiaaSlc
import Derived.Test.YtlklcdjhlpadiaaRefB
import Derived.Test.YtlklcdjhlpadiaaRefC
import Derived.Test.YtlklcdjhlpadiaaPkJoin
namespace Go.Proofs.Ytlklcdjhlpadiaa
open Go.RowKit

set_option maxHeartbeats 1000000 in
theorem refCopies {v : Value} {ll : List (List UInt8)} {F : Nat → Prop} {w : World} (hr : RdBB w F v ll) (hl : ∀ l ∈ ll, l.length ≤ 140737488355328) (hn : ll.length ≤ 1000000000000) :
    Calls Try.prog 31 #[v] w fun e w' => ∃ u, e = .returned u ∧ OwnsBB w' w.heap.size u ll ∧ Chg Non w w' := by
  obtain ⟨A, c, rfl, hc, hm⟩ := hr.shape
  unfold maxLen at hm
  have hr0 := hr.lt
  clear hr
  go_enter Try.func31, Try.ntmps31
  go_wp2_with fail
  go_loopw [3, 4] (fun ov iv wr => ∃ (k : Nat), k ≤ ll.length ∧ iv = .int .i64 k ∧ OwnsBB wr w.heap.size ov (ll.take k) ∧ RdBB wr (fun j => F j ∧ j < w.heap.size) (.slice A ll.length c) ll ∧ Chg Non w wr) (fun _ iv _ => ll.length - (intOf iv).toNat)
  case atStart => exact ⟨0, Nat.zero_le _, rfl, OwnsBB.nil_ _ _, hr0, Chg.refl _ _⟩
  case round =>
    clear hr0
    obtain ⟨k, hk, rfl, hO, hr, hcw⟩ := hrel
    by_cases h1 : k < ll.length
    · obtain ⟨ad, p, rfl, _, hp, hrp⟩ := hr.at_ h1
      have hlk := hl _ (List.getElem_mem h1)
      have HT := hide (show ll.take (k + 1) = ll.take k ++ [ll[k]] from List.take_succ_eq_append_getElem h1)
      obtain ⟨q, hq⟩ : ∃ q, q = ll[k] := ⟨_, rfl⟩
      rw [← hq] at hrp hlk HT
      have hdl : (ll.take k).length + 1 ≤ 1000000000000 := by rw [List.length_take]; omega
      have hS : ∀ j, w.heap.size ≤ j → j < wr.heap.size → ¬ Non j := fun _ _ _ h => h
      have hsz := hcw.size
      obtain ⟨P, cp, rfl, hcp, hmp⟩ := hrp.shape
      clear hq
      go_wp2_with fail
      refine (refCopy hrp hlk).mono ?_
      rintro e w3 ⟨u3, rfl, hown3, hc3⟩
      obtain ⟨A3, n3, c3, rfl⟩ : ∃ A n c, u3 = .slice A n c := by obtain ⟨A, c, e, _⟩ := hown3.shape; exact ⟨A, _, c, e⟩
      have hc4 := hc3.alloc (.cells #[.slice A3 n3 c3] 22)
      have hblk := Blk.new w3 22 #[.slice A3 n3 c3]
      have hown4 := hown3.al (.cells #[.slice A3 n3 c3] 22)
      go_wp2_with (at_builtin; refine append_BBo rfl _ _ rfl hO rfl hc4 hS rfl hown4 hsz hblk rfl hdl ?_; intro v5 w5 hO5 hg5 hat5)
      have hcr : Chg (fun j => w.heap.size ≤ j) wr w5 := (hc4.mono fun _ _ h => h.elim).grown hg5 fun j hj _ => (hO.lt j hj).1
      have hr5 := hr.chg hcr fun j hj e => by have := hj.2; omega
      have hcw5 := hcw.trans hcr fun j hj e => by omega
      go_round
      case rel => exact ⟨k + 1, by omega, by go_num, by rw [HT.out]; exact hO5, hr5, hcw5⟩
      case measure => simp [intOf]; omega
    · have HK := hide (show ll.take k = ll from List.take_of_length_le (by omega))
      rw [HK.out] at hO
      go_wp2_with fail
      go_ret
      exact ⟨_, rfl, hO, hcw⟩
theorem getElem_ne {α : Type} {xs ys : List α} (hl : xs.length = ys.length) {k : Nat} (hk : k < xs.length) (h : xs[k] ≠ ys[k]'(hl ▸ hk)) : xs ≠ ys := fun e => by subst e; exact h rfl
theorem take_succ_eq {α : Type} {xs ys : List α} {k : Nat} (h1 : k < xs.length) (h2 : k < ys.length) (h : xs.take k = ys.take k) (he : xs[k] = ys[k]) : xs.take (k + 1) = ys.take (k + 1) := by
  rw [List.take_succ_eq_append_getElem h1, List.take_succ_eq_append_getElem h2, h, he]
set_option maxHeartbeats 1000000 in
theorem refEquals {v u : Value} {xs ys : List (List UInt8)} {F G : Nat → Prop} {w : World} (ha : RdBB w F v xs) (hb : RdBB w G u ys) :
    Calls Try.prog 34 #[v, u] w fun e w' => e = .returned (.bool (decide (xs = ys))) ∧ ∃ k, w' = w.drewN k := by
  obtain ⟨A, c, rfl, hc, hm⟩ := ha.shape
  obtain ⟨B, d, rfl, hd, hn⟩ := hb.shape
  unfold maxLen at hm hn
  by_cases hl : xs.length = ys.length
  · have HL := hide hl
    have he : ((xs.length : Int) != (ys.length : Int)) = false := by simp [hl]
    clear hl
    go_enter Try.func34, Try.ntmps34
    go_wp2_with fail
    go_loopw [5] (fun iv wr => ∃ (k : Nat), k ≤ xs.length ∧ iv = .int .i64 k ∧ Hid (xs.take k = ys.take k) ∧ Quiet w wr) (fun iv _ => xs.length - (intOf iv).toNat)
    case atStart => exact ⟨0, Nat.zero_le _, rfl, hide (by simp), ⟨0, rfl⟩⟩
    case round =>
      obtain ⟨k, hk, rfl, htk, hq⟩ := hrel
      by_cases h1 : k < xs.length
      · have h2 : k < ys.length := by rw [← HL.out]; exact h1
        obtain ⟨ad, p, rfl, _, hp, hrp⟩ := (hq.rdbb ha).at_ h1
        obtain ⟨bd, p2, rfl, _, hp2, hrp2⟩ := (hq.rdbb hb).at_ h2
        have HN := fun h => hide (getElem_ne HL.out h1 h)
        have HS := fun h => hide (take_succ_eq h1 h2 htk.out h)
        have hcall := fun (j : Nat) => (refEqual (hrp.dn j) (hrp2.dn j))
        obtain ⟨x, hx⟩ : ∃ x, x = xs[k] := ⟨_, rfl⟩
        obtain ⟨y, hy⟩ : ∃ y, y = ys[k] := ⟨_, rfl⟩
        rw [← hx, ← hy] at HN HS hcall
        clear hx hy hrp hrp2
        by_cases h3 : x = y
        · have hdec : decide (x = y) = true := decide_eq_true h3
          simp only [hdec] at hcall
          have HS := HS h3
          clear h3 hdec HN
          go_wp2_with fail
          go_quiet ((go_at_call 16; exact Calls.quiet_of (hcall _)))
          go_wp2_with fail
          go_roundw
          case rel => exact ⟨k + 1, by omega, by go_num, hide HS.out, hq.dn _⟩
          case measure => simp [intOf]; omega
        · have hdec : decide (x = y) = false := decide_eq_false h3
          simp only [hdec] at hcall
          have HN := HN h3
          clear h3 hdec HS
          go_wp2_with fail
          go_quiet ((go_at_call 16; exact Calls.quiet_of (hcall _)))
          go_wp2_with fail
          go_ret
          exact ⟨ret_bool (by rw [decide_eq_false HN.out]), hq.dn _⟩
      · have HE := hide (show xs = ys by
          have h := htk.out
          rwa [List.take_of_length_le (by omega), List.take_of_length_le (by have := HL.out; omega)] at h)
        go_wp2_with fail
        go_ret
        exact ⟨ret_bool (by rw [decide_eq_true HE.out]), hq⟩
  · have he : ((xs.length : Int) != (ys.length : Int)) = true := by simp; omega
    have HN := hide (show xs ≠ ys from fun e => hl (by rw [e]))
    clear hl
    go_enter Try.func34, Try.ntmps34
    go_wp2_with fail
    go_ret
    exact ⟨ret_bool (by rw [decide_eq_false HN.out]), 0, rfl⟩
theorem refTake_ok {v : Value} {b : List UInt8} {F : Nat → Prop} {w : World} {a n u : Nat} (hr : RdB w F v b) (hl : b.length ≤ 281474976710656) (ha : a ≤ b.length) (h : hd (b.drop a) = (n, u, 0)) :
    Calls Try.prog 22 #[v, .int .i64 (a : Int)] w fun e w' => e = .returned (.tuple #[.int .u64 (n : Int), .int .i64 ((a + u : Nat) : Int), .int .i64 0]) ∧ Chg Non w w' := by
  refine (refTake (at_ := (a : Int)) hr hl).mono fun e w' ⟨h1, h2⟩ => ⟨?_, h2⟩
  rw [h1, takeB_hd b a ha, h]; rfl
theorem refTake_bad {v : Value} {b : List UInt8} {F : Nat → Prop} {w : World} {a n u : Nat} {er : Int} (hr : RdB w F v b) (hl : b.length ≤ 281474976710656) (ha : a ≤ b.length) (h : hd (b.drop a) = (n, u, er)) (he : er ≠ 0) :
    Calls Try.prog 22 #[v, .int .i64 (a : Int)] w fun e w' => e = .returned (.tuple #[.int .u64 (n : Int), .int .i64 0, .int .i64 er]) ∧ Chg Non w w' := by
  refine (refTake (at_ := (a : Int)) hr hl).mono fun e w' ⟨h1, h2⟩ => ⟨?_, h2⟩
  rw [h1, takeB_hd b a ha, h]
  simp only [if_neg he]
  rfl
theorem resF_bad {m : Nat} {done : List (List UInt8)} {l : List UInt8} {a n u : Nat} {er : Int} (h : hd (l.drop a) = (n, u, er)) (he : er ≠ 0) : resF (m + 1) done (l.drop a) = ([], er) := by
  rw [resF, h, if_pos he]
theorem resF_end {m : Nat} {done : List (List UInt8)} {l : List UInt8} {a n u : Nat} (h : hd (l.drop a) = (n, u, 0)) (hx : l.length - (a + u) < n) : resF (m + 1) done (l.drop a) = ([], 5) := by
  rw [resF, h, if_neg (by simp), List.drop_drop, List.length_drop, if_pos hx]
theorem resF_ok {m : Nat} {done : List (List UInt8)} {l : List UInt8} {a n u : Nat} (h : hd (l.drop a) = (n, u, 0)) (hx : ¬ l.length - (a + u) < n) : resF (m + 1) done (l.drop a) = resF m (done ++ [(l.drop (a + u)).take n]) (l.drop (a + u + n)) := by
  rw [resF, h, if_neg (by simp), List.drop_drop, List.length_drop, if_neg hx, List.drop_drop]
  simp only [Nat.add_assoc]

set_option maxRecDepth 100000 in
set_option maxHeartbeats 1000000 in
theorem refSplit {v : Value} {l : List UInt8} {F : Nat → Prop} {w : World} (hr : RdB w F v l) (hl : l.length < 1000000000000) :
    Calls Try.prog 35 #[v] w fun e w' => ∃ u, e = .returned (.tuple #[u, .int .i64 (splitB l).2]) ∧ OwnBB w' w.heap.size (fun k => F k ∧ k < w.heap.size) u (splitB l).1 ∧ Chg Non w w' := by
  have hr0 := hr.lt
  obtain ⟨n0, u0, er0, hh0⟩ : ∃ n u er, hd (l.drop 0) = (n, u, er) := ⟨_, _, _, rfl⟩
  have hlt0 := hd_lt (l.drop 0)
  have hus := hd_used (l.drop 0)
  rw [hh0] at hlt0 hus
  simp only [List.drop_zero] at hlt0 hus
  by_cases he0 : er0 = 0
  · subst he0
    have htake := refTake_ok hr (by omega) (Nat.zero_le _) hh0
    have hfin : splitB l = resF n0 [] (l.drop u0) := by
      rw [List.drop_zero] at hh0
      rw [splitB, hh0]; rfl
    have HF := hide hfin
    have hul := (hus rfl).2.1
    rw [Nat.zero_add] at htake
    clear hh0 hus hr hfin
    go_enter Try.func35, Try.ntmps35
    go_wp2_with fail
    refine htake.mono ?_
    rintro e w1 ⟨rfl, hc1⟩
    go_wp2_with fail
    go_loopw [5, 7, 8] (fun av ov iv wr => ∃ (i m a : Nat) (done : List (List UInt8)), iv = .int .u64 i ∧ Hid (i + m = n0) ∧ av = .int .i64 a ∧ a ≤ l.length ∧ Hid (done.length ≤ a) ∧ Hid (splitB l = resF m done (l.drop a)) ∧ OwnBB wr w.heap.size (fun k => F k ∧ k < w.heap.size) ov done ∧ RdB wr (fun k => F k ∧ k < w.heap.size) v l ∧ Chg Non w wr) (fun _ _ iv _ => n0 - (intOf iv).toNat)
    case atStart => exact ⟨0, n0, u0, [], rfl, hide (by omega), rfl, hul, hide (Nat.zero_le _), HF, OwnBB.nil_ _ _ _, hr0.c0 hc1, hc1⟩
    case round =>
      clear HF hc1 hr0 hul
      obtain ⟨i, m, a, done, rfl, him, rfl, hal, hda, hsp, hO, hr, hcw⟩ := hrel
      by_cases h1 : i < n0
      · obtain ⟨m, rfl⟩ : ∃ k, m = k + 1 := ⟨m - 1, by have := him.out; omega⟩
        obtain ⟨n, u, er, hh⟩ : ∃ n u er, hd (l.drop a) = (n, u, er) := ⟨_, _, _, rfl⟩
        have hlt := hd_lt (l.drop a)
        have hus := hd_used (l.drop a)
        rw [hh] at hlt hus
        simp only [List.length_drop] at hlt hus
        by_cases he : er = 0
        · subst he
          have htk := refTake_ok hr (by omega) hal hh
          have hu := hus rfl
          have hlen8 := fun (w' : World) (ty : TypeId) => run_len8 hr w' ty
          have hw : IntKind.u64.wrap ((l.length : Int) - ((a : Int) + (u : Int))) = (l.length : Int) - ((a : Int) + (u : Int)) := by rw [IntKind.wrap_u64]; omega
          by_cases h4 : l.length - (a + u) < n
          · have HE := hide (hsp.out.trans (resF_end hh h4))
            have hd : decide ((l.length : Int) - ((a : Int) + (u : Int)) < (n : Int)) = true := decide_eq_true (by omega)
            clear hh hus hsp hda him
            go_wp2_with fail
            refine htk.mono ?_
            rintro e w2 ⟨rfl, hc2⟩
            go_wp2_with fail
            go_ret2
            rw [HE.out]
            exact ⟨_, rfl, OwnBB.nil_ _ _ _, hcw.trans0 hc2⟩
          · have HE := hide (hsp.out.trans (resF_ok hh h4))
            have hd : decide ((l.length : Int) - ((a : Int) + (u : Int)) < (n : Int)) = false := decide_eq_false (by omega)
            have hwn : IntKind.i64.wrap (n : Int) = (n : Int) := IntWalk.i64_in _ (by omega)
            have hda1 := hide (show (done ++ [(l.drop (a + u)).take n]).length ≤ a + u + n by have := hda.out; simp; omega)
            have hdl : done.length + 1 ≤ 1000000000000 := by have := hda.out; omega
            have hwi : IntKind.u64.wrap ((i : Int) + 1) = (i : Int) + 1 := by rw [IntKind.wrap_u64]; omega
            obtain ⟨sv, hsv, hcut⟩ := run_cut hr (i := a + u) (j := a + u + n) (x := (a : Int) + (u : Int)) (y := (a : Int) + (u : Int) + (n : Int)) (by omega) (by omega) (by omega) (by omega)
            rw [show a + u + n - (a + u) = n by omega] at hsv
            have him1 := hide (show i + 1 + m = n0 by have := him.out; omega)
            obtain ⟨A3, n3, c3, rfl⟩ : ∃ A n c, sv = .slice A n c := by obtain ⟨A, c, e, _⟩ := hsv.shape; exact ⟨A, _, c, e⟩
            clear hh hus hsp hda him
            go_wp2_with fail
            refine htk.mono ?_
            rintro e w2 ⟨rfl, hc2⟩
            have hc3 := hc2.alloc (.cells #[.slice A3 n3 c3] 22)
            have hblk := Blk.new w2 22 #[.slice A3 n3 c3]
            have hO3 := hO.c0 hc3
            have hcw3 := hcw.trans0 hc3
            have hsz3 := hcw3.size
            have hsv3 := (hsv.c0 hc3).mono (F' := fun b => (F b ∧ b < w.heap.size) ∧ b < (w2.alloc (.cells #[.slice A3 n3 c3] 22)).heap.size ∧ u7.ownBlock ≠ some b) fun b hb => ⟨hb, by omega, fun e => by have := (hO3.lt b e).1; omega⟩
            have hr3 := hr.c0 hc3
            go_wp2_with (at_builtin; refine append_BB rfl _ _ rfl hO3 rfl hsv3 hblk rfl hdl hsz3 ?_; intro v5 w5 hO5 hg5 hat5)
            have hr5 := hr3.chg (Chg.of_grown hg5) fun b hb e => by have := (hO3.lt b e.symm).1; have := hb.2; omega
            have hcw5 := hcw3.grown hg5 fun k hk hlt => by have := (hO3.lt k hk).1; omega
            go_round
            case rel => exact ⟨i + 1, m, a + u + n, _, by go_num, him1, by go_num, by omega, hda1, HE, hO5, hr5, hcw5⟩
            case measure => simp [intOf]; omega
        · have htk := refTake_bad hr (by omega) hal hh he
          have HE := hide (hsp.out.trans (resF_bad hh he))
          have hne : (er != 0) = true := by simp [he]
          clear hh hus he hsp hda him
          go_wp2_with fail
          refine htk.mono ?_
          rintro e w2 ⟨rfl, hc2⟩
          go_wp2_with fail
          go_ret2
          rw [HE.out]
          exact ⟨_, rfl, OwnBB.nil_ _ _ _, hcw.trans0 hc2⟩
      · obtain rfl : m = 0 := by have := him.out; omega
        have hlen8 := fun (w' : World) (ty : TypeId) => run_len8 hr w' ty
        by_cases h5 : a < l.length
        · have HE := hide (hsp.out.trans (show resF 0 done (l.drop a) = ([], 3) by rw [resF, if_pos (by rw [List.length_drop]; omega)]))
          clear hsp hda him
          go_wp2_with fail
          go_ret2
          rw [HE.out]
          exact ⟨_, rfl, OwnBB.nil_ _ _ _, hcw⟩
        · have HE := hide (hsp.out.trans (show resF 0 done (l.drop a) = (done, 0) by rw [resF, if_neg (by rw [List.length_drop]; omega)]))
          clear hsp hda him
          go_wp2_with fail
          go_ret2
          rw [HE.out]
          exact ⟨_, rfl, hO, hcw⟩
  · have htake := refTake_bad hr (by omega) (Nat.zero_le _) hh0 he0
    have hfin : splitB l = ([], er0) := by
      rw [List.drop_zero] at hh0
      rw [splitB, hh0, if_pos he0]
    have HF := hide hfin
    have hne : (er0 != 0) = true := by simp [he0]
    clear hh0 hus hr hfin he0
    go_enter Try.func35, Try.ntmps35
    go_wp2_with fail
    refine htake.mono ?_
    rintro e w1 ⟨rfl, hc1⟩
    go_wp2_with fail
    go_ret2
    rw [HF.out]
    exact ⟨_, rfl, OwnBB.nil_ _ _ _, hc1⟩

theorem flatB_le (ll : List (List UInt8)) (k : Nat) : (flatB (ll.take k)).length ≤ (flatB ll).length := by
  have h : flatB ll = flatB (ll.take k) ++ flatB (ll.drop k) := by
    unfold flatB
    rw [← List.flatMap_append, List.take_append_drop]
  rw [h, List.length_append]; omega

set_option maxHeartbeats 1000000 in
theorem refJoin {x : Value} {ll : List (List UInt8)} {F : Nat → Prop} {w : World} (hr : RdBB w F x ll) (hl : (joinB ll).length + 18 ≤ 140737488355328) :
    Calls Try.prog 33 #[x] w fun e w' => ∃ u, e = .returned u ∧ OwnB w' w.heap.size u (joinB ll) ∧ Chg Non w w' := by
  obtain ⟨A, c, rfl, hc, hm⟩ := hr.shape
  unfold maxLen at hm
  have hr0 := hr.lt
  have hwl : IntKind.u64.wrap (ll.length : Int) = (ll.length : Int) := wrap_u64n (by unfold U64; omega)
  have hnum := refNumber (n := ll.length) (w := w) (by unfold U64; omega)
  clear hr
  go_enter Try.func33, Try.ntmps33
  go_wp2_with fail
  refine hnum.mono ?_
  rintro e w1 ⟨u1, rfl, hu1, hc1⟩
  go_wp2_with fail
  go_loopw [3, 4] (fun ov iv wr => ∃ (k : Nat), k ≤ ll.length ∧ iv = .int .i64 k ∧ OwnB wr w.heap.size ov (numB ll.length ++ flatB (ll.take k)) ∧ RdBB wr (fun j => F j ∧ j < w.heap.size) (.slice A ll.length c) ll ∧ Chg Non w wr) (fun _ iv _ => ll.length - (intOf iv).toNat)
  case atStart => exact ⟨0, Nat.zero_le _, rfl, by simpa [flatB] using hu1, hr0.c0 hc1, hc1⟩
  case round =>
    clear hr0 hu1 hc1 hnum
    obtain ⟨k, hk, rfl, hO, hr, hcw⟩ := hrel
    by_cases h1 : k < ll.length
    · obtain ⟨ad, p, rfl, hadF, hp, hrp⟩ := hr.at_ h1
      have htk := flatB_take ll k h1
      have hle := flatB_le ll (k + 1)
      rw [htk] at hle
      obtain ⟨q, hq⟩ : ∃ q, q = ll[k] := ⟨_, rfl⟩
      rw [← hq] at hrp htk hle
      have HT := hide htk
      clear hq htk
      obtain ⟨cur, hcur⟩ : ∃ cur, cur = numB ll.length ++ flatB (ll.take k) := ⟨_, rfl⟩
      have hcl : cur.length + (partB q).length ≤ 140737488355328 := by rw [hcur]; simp only [joinB, List.length_append] at hl hle ⊢; omega
      simp only [partB, List.length_append] at hcl
      have HC := hide hcur
      rw [← hcur] at hO
      clear hcur hle
      obtain ⟨P, cp, rfl, hcp, hmp⟩ := hrp.shape
      unfold maxLen at hmp
      have hwq : IntKind.u64.wrap (q.length : Int) = (q.length : Int) := wrap_u64n (by unfold U64; omega)
      have hnum := refNumber (n := q.length) (w := wr) (by unfold U64; omega)
      have hlen1 : cur.length + (numB q.length).length ≤ 140737488355328 := by omega
      have hlen2 : (cur ++ numB q.length).length + q.length ≤ 140737488355328 := by rw [List.length_append]; omega
      have hsz := hcw.size
      go_wp2_with fail
      refine hnum.mono ?_
      rintro e w2 ⟨u2, rfl, hu2, hc2⟩
      have hO2 := hO.chg hc2 fun _ _ h => h
      have hcw2 := hcw.trans0 hc2
      have hr2 := hr.c0 hc2
      have hrp2 := hrp.c0 hc2
      have hsz2 := hcw2.size
      have hp2 := hc2.cell hp id
      clear hO hr hrp hcw hnum hcl
      have hrow : ∀ j, u3.ownBlock = some j → w.heap.size ≤ j := fun j hj => (hO2.lt j hj).1
      have hnot : ¬ (some (ad.add k).block = u3.ownBlock) := by rw [block_of_add]; intro e; have := hrow _ e.symm; have := hadF.2; omega
      have hnotF : ∀ b, (F b ∧ b < w.heap.size) → ¬ (some b = u3.ownBlock) := fun b hb e => by have := hrow b e.symm; have := hb.2; omega
      go_wp2_with (first
        | (at_builtin; refine append_B rfl _ _ rfl hO2 rfl hu2.rd rfl hlen1 hsz2 ?_; intro v3 w3 hO3 hg3 hat3; have hp3 := (Chg.of_grown hg3).cell hp2 hnot)
        | (at_builtin; refine append_B rfl _ _ rfl hO3 rfl (hrp2.chg (Chg.of_grown hg3) hnotF) rfl hlen2 (Nat.le_trans hsz2 hg3.size) ?_; intro v4 w4 hO4 hg4 hat4))
      have hr3 := hr2.chg (Chg.of_grown hg3) hnotF
      have hcw3 := hcw2.own hg3 hrow
      have hrow4 : ∀ j, v3.ownBlock = some j → w.heap.size ≤ j := fun j hj => (hO3.lt j hj).1
      have hr4 := hr3.chg (Chg.of_grown hg4) fun b hb e => by have := hrow4 b e.symm; have := hb.2; omega
      have hcw4 := hcw3.own hg4 hrow4
      go_round
      case rel => exact ⟨k + 1, by omega, by go_num, by rw [HT.out, partB, ← List.append_assoc, ← List.append_assoc, ← HC.out]; exact hO4, hr4, hcw4⟩
      case measure => simp [intOf]; omega
    · have HK := hide (show ll.take k = ll from List.take_of_length_le (by omega))
      rw [HK.out] at hO
      go_wp2_with fail
      go_ret
      exact ⟨_, rfl, hO, hcw⟩
end Go.Proofs.Ytlklcdjhlpadiaa
