/- The walk of pack.Split. -/
import Derived.Test.YtncchbcoldgpbaaRdr
import Derived.Test.YtncchbcoldgpbaaBB
namespace Go.Proofs.Ytncchbcoldgpbaa
open Go.RowKit

theorem Rdr.fix {w : World} {F : Nat → Prop} {g a : Nat} {e : Int} {l : List UInt8} (h : Rdr w F g l a e) : Rdr w (fun b => F b ∧ b < w.heap.size) g l a e := by
  obtain ⟨h1, u, h2, h3⟩ := h
  exact ⟨h1, u, h2, h3.mono fun b hb => ⟨⟨hb.1, hb.2.1⟩, hb.2.1, hb.2.2⟩⟩
theorem resF_text (m : Nat) (done : List (List UInt8)) (l : List UInt8) (a : Nat) :
    resF (m + 1) done (l.drop a) = if (textR l a 0).2.2 ≠ 0 then ([], (textR l a 0).2.2) else resF m (done ++ [(textR l a 0).1]) (l.drop (textR l a 0).2.1) := by
  obtain ⟨n, u, er, h⟩ : ∃ n u er, hd (l.drop a) = (n, u, er) := ⟨_, _, _, rfl⟩
  rw [resF, h]
  by_cases he : er = 0
  · subst he
    have hn := numR_ok h
    simp only [ne_eq, not_true, if_false, List.length_drop, List.drop_drop]
    by_cases h2 : l.length - (a + u) < n
    · rw [textR_end hn h2, if_pos (by omega)]
      simp
    · rw [textR_ok hn h2, if_neg (by omega)]
      simp only [not_true, if_false]
      rw [Nat.add_assoc]
  · have hn := numR_bad h he
    rw [textR_bad hn he]
    simp [he]
theorem splitB_num (l : List UInt8) : splitB l = if (numR l 0 0).2.2 ≠ 0 then ([], (numR l 0 0).2.2) else resF (numR l 0 0).1 [] (l.drop (numR l 0 0).2.1) := by
  obtain ⟨n, u, er, h⟩ : ∃ n u er, hd (l.drop 0) = (n, u, er) := ⟨_, _, _, rfl⟩
  have h' := h
  rw [List.drop_zero] at h'
  rw [splitB, h']
  by_cases he : er = 0
  · subst he
    rw [numR_ok h, Nat.zero_add]
  · rw [numR_bad h he]
    simp [he]
/-- what the loop keeps -/
def SplitAt (l : List UInt8) (m : Nat) (done : List (List UInt8)) (a : Nat) (er : Int) : Prop :=
  (er = 0 → splitB l = resF m done (l.drop a)) ∧ (er ≠ 0 → splitB l = ([], er))
theorem SplitAt.start (l : List UInt8) : SplitAt l (numR l 0 0).1 [] (numR l 0 0).2.1 (numR l 0 0).2.2 := by
  rw [SplitAt, splitB_num]
  exact ⟨fun h => by rw [if_neg (by simp [h])], fun h => by rw [if_pos h]⟩
theorem SplitAt.step {l : List UInt8} {m a : Nat} {done : List (List UInt8)} (h : SplitAt l (m + 1) done a 0) :
    SplitAt l m (done ++ [(textR l a 0).1]) (textR l a 0).2.1 (textR l a 0).2.2 := by
  have h := h.1 rfl
  rw [resF_text] at h
  rw [SplitAt, h]
  exact ⟨fun h => by rw [if_neg (by simp [h])], fun h => by rw [if_pos h]⟩
theorem SplitAt.done0 {l : List UInt8} {a : Nat} {done : List (List UInt8)} (h : SplitAt l 0 done a 0) : splitB l = if closeR l a 0 ≠ 0 then ([], closeR l a 0) else (done, 0) := by
  rw [h.1 rfl, resF, closeR, List.length_drop]
  by_cases h1 : 0 < l.length - a
  · simp [h1]
  · simp [h1]
theorem wrap_pred (m : Nat) (h : m + 1 < 18446744073709551616) : IntKind.u64.wrap (((m + 1 : Nat) : Int) - 1) = (m : Int) := by
  rw [IntKind.wrap_u64]; omega

theorem textR_adv (l : List UInt8) (a : Nat) (h : (textR l a 0).2.2 = 0) : a < (textR l a 0).2.1 := by
  obtain ⟨n, u, er, hh⟩ : ∃ n u er, hd (l.drop a) = (n, u, er) := ⟨_, _, _, rfl⟩
  by_cases he : er = 0
  · subst he
    have hn := numR_ok hh
    have hu := (hd_used (l.drop a) (by rw [hh])).1
    rw [hh] at hu
    simp only at hu
    by_cases h2 : l.length - (a + u) < n
    · rw [textR_end hn h2] at h; simp at h
    · rw [textR_ok hn h2]; show a < a + u + n; omega
  · rw [textR_bad (numR_bad hh he) he] at h
    exact absurd h he
theorem SplitAt.err {l : List UInt8} {m a : Nat} {er : Int} {done : List (List UInt8)} (h : SplitAt l m done a er) (he : er ≠ 0) : splitB l = ([], er) := h.2 he

set_option maxHeartbeats 1000000 in
theorem packSplit {v : Value} {l : List UInt8} {F : Nat → Prop} {w : World} (hr : RdB w F v l) (hl : l.length < 1000000000000) :
    Calls Try.prog 84 #[v] w fun e w' => ∃ u, e = .returned (.tuple #[u, .int .i64 (splitB l).2]) ∧ OwnsBB w' w.heap.size u (splitB l).1 ∧ Chg Non w w' := by
  go_enter Try.func84, Try.ntmps84
  go_wp2_with fail
  refine (packRead hr (by omega)).mono ?_
  rintro e w1 ⟨g, rfl, hg, hR0, hc1⟩
  have hR := hR0.fix
  have hgl := hR.lt
  clear hR0
  go_wp2_with fail
  refine (rdrNum hR).mono ?_
  rintro e w2 ⟨rfl, hR2, hc2⟩
  have hst := SplitAt.start l
  obtain ⟨m0, a0, er0, hx⟩ : ∃ m0 a0 er0, numR l 0 0 = (m0, a0, er0) := ⟨_, _, _, rfl⟩
  have hlt0 := numR_lt l 0 0
  have hone := hd_used l
  rw [hx] at hst hR2 hlt0 ⊢
  simp only at hst hR2 hlt0 ⊢
  have hcw2 : Chg Non w w2 := hc1.trans hc2 fun k hk e => by subst e; omega
  have hs2 := hc2.size
  obtain ⟨b1, hb1⟩ : ∃ b1, b1 = w1.heap.size := ⟨_, rfl⟩
  rw [← hb1] at hR2 hgl hs2
  have hb1w : w.heap.size ≤ b1 := by rw [hb1]; exact hc1.size
  clear hb1 hR hc1 hc2 hx hone
  go_wp2_with fail
  go_loopw [6, 5] (fun mv ov wr => ∃ (m : Nat) (done : List (List UInt8)) (a : Nat) (er : Int), mv = .int .u64 m ∧ m < 18446744073709551616 ∧ Hid (er = 0 → done.length ≤ a) ∧ Hid (SplitAt l m done a er) ∧ Rdr wr (fun b => w.heap.size ≤ b ∧ b < b1) g l a er ∧ OwnsBB wr b1 ov done ∧ b1 ≤ wr.heap.size ∧ Chg Non w wr) (fun mv _ _ => (intOf mv).toNat)
  case atStart => exact ⟨m0, [], a0, er0, rfl, hlt0, hide (fun _ => Nat.zero_le _), hide hst, hR2, OwnsBB.nil_ _ _, hs2, hcw2⟩
  case round =>
    clear hst hR2 hcw2 hs2 hlt0
    obtain ⟨m, done, a, er, rfl, hml, hda, hsp, hR, hO, hsz, hcw⟩ := hrel
    have hRR := hR
    obtain ⟨ha, u, hb, hrd⟩ := hR
    have k2 := hb.cell 2
    simp at k2
    by_cases h1 : 0 < m ∧ er = 0
    · obtain ⟨h1, rfl⟩ := h1
      obtain ⟨m, rfl⟩ : ∃ k, m = k + 1 := ⟨m - 1, by omega⟩
      have hst2 := hsp.out.step
      have hadv := textR_adv l a
      have hd2 := hda.out rfl
      have hwp := wrap_pred m hml
      have htext := rdrText hRR (by omega)
      obtain ⟨t, a2, er2, ht⟩ : ∃ t a2 er2, textR l a 0 = (t, a2, er2) := ⟨_, _, _, rfl⟩
      rw [ht] at hst2 hadv htext
      simp only at hst2 hadv htext
      have HA := hide hadv
      have HS := hide hst2
      have hdl : done.length + 1 ≤ 1000000000000 := by omega
      have hS : ∀ k, b1 ≤ k → k < wr.heap.size → ¬ k = g := fun k hk _ e => by omega
      clear ht hadv hst2 hsp hda hb hrd
      go_wp2_with fail
      refine htext.mono ?_
      rintro e w3 ⟨u3, rfl, hown3, hR3, hc3⟩
      obtain ⟨A3, n3, c3, rfl⟩ : ∃ A n c, u3 = .slice A n c := by obtain ⟨A, c, e, _⟩ := hown3.shape; exact ⟨A, _, c, e⟩
      obtain ⟨ov, hov⟩ : ∃ ov, ov = u5 := ⟨_, rfl⟩
      have hc4 := hc3.alloc (.cells #[.slice A3 n3 c3] 26)
      have hblk := Blk.new w3 26 #[.slice A3 n3 c3]
      have hown4 := hown3.al (.cells #[.slice A3 n3 c3] 26)
      have hR4 := hR3.c0 ((Chg.refl Non w3).alloc (.cells #[.slice A3 n3 c3] 26))
      have hcw4 := hcw.trans hc4 (fun k hk e => by omega)
      go_wp2_with (at_builtin; refine append_BBo rfl _ _ rfl hO rfl hc4 hS rfl hown4 hsz hblk rfl hdl ?_; intro v5 w5 hO5 hg5 hat5)
      have hR5 : Rdr w5 (fun b => w.heap.size ≤ b ∧ b < b1) g l a2 er2 := hR4.chg (Chg.of_grown hg5) (fun e => by have := (hO.lt g e.symm).1; omega) (fun k hk _ e => by have := (hO.lt k e.symm).1; omega)
      have hsz5 : b1 ≤ w5.heap.size := Nat.le_trans hsz (Nat.le_trans hc4.size hg5.size)
      have hcw5 : Chg Non w w5 := hcw4.grown hg5 fun k hk hlt => by have := (hO.lt k hk).1; omega
      go_round
      case rel => exact ⟨m, _, a2, er2, rfl, by omega, hide (fun h => by have := HA.out h; simp; omega), HS, hR5, hO5, hsz5, hcw5⟩
      case measure => simp [intOf]
    · by_cases her : er = 0
      · subst her
        obtain rfl : m = 0 := by omega
        have hfin := hsp.out.done0
        by_cases hcl : closeR l a 0 = 0
        · rw [if_neg (by simp [hcl])] at hfin
          have HF := hide hfin
          have hclose := rdrClose hRR
          rw [hcl] at hclose
          clear hfin hcl hsp hda h1
          go_wp2_with fail
          refine hclose.mono ?_
          rintro e w3 ⟨rfl, q, rfl⟩
          go_wp2_with fail
          go_ret2
          rw [HF.out]
          exact ⟨_, rfl, (hO.dn q).low hb1w, hcw.drewN q⟩
        · rw [if_pos hcl] at hfin
          have HF := hide hfin
          have hclose := rdrClose hRR
          obtain ⟨c, hc⟩ : ∃ c, c = closeR l a 0 := ⟨_, rfl⟩
          rw [← hc] at hclose hcl HF
          have hne : (c != 0) = true := by simp [hcl]
          clear hfin hcl hsp hda h1 hc
          go_wp2_with fail
          refine hclose.mono ?_
          rintro e w3 ⟨rfl, q, rfl⟩
          go_wp2_with fail
          go_ret2
          rw [HF.out]
          exact ⟨_, rfl, OwnsBB.nil_ _ _, hcw.drewN q⟩
      · have HF := hide (hsp.out.err her)
        have hclose := rdrClose hRR
        rw [closeR, if_neg (fun h => her h.1)] at hclose
        have hne : (er != 0) = true := by simp [her]
        have heq : (er == 0) = false := beq_eq_false_iff_ne.2 her
        clear hsp hda h1 her
        by_cases hm : 0 < m
        · have hd : decide ((0 : Int) < (m : Int)) = true := decide_eq_true (by omega)
          go_wp2_with fail
          refine hclose.mono ?_
          rintro e w3 ⟨rfl, q, rfl⟩
          go_wp2_with fail
          go_ret2
          rw [HF.out]
          exact ⟨_, rfl, OwnsBB.nil_ _ _, hcw.drewN q⟩
        · have hd : decide ((0 : Int) < (m : Int)) = false := decide_eq_false (by omega)
          go_wp2_with fail
          refine hclose.mono ?_
          rintro e w3 ⟨rfl, q, rfl⟩
          go_wp2_with fail
          go_ret2
          rw [HF.out]
          exact ⟨_, rfl, OwnsBB.nil_ _ _, hcw.drewN q⟩
end Go.Proofs.Ytncchbcoldgpbaa
