/- The walks of groyneref06.writes and ranges. -/
import Derived.Test.YtpbgjldjipgfeaaRecC
namespace Go.Proofs.Ytpbgjldjipgfeaa
open Go.RowKit

theorem RdW.lt {w : World} {F : Nat → Prop} {v : Value} {l : List WrS} (h : RdW w F v l) : RdW w (fun k => F k ∧ k < w.heap.size) v l := by
  obtain ⟨xs, h1, h2, h3⟩ := h
  exact ⟨xs, h1, h2.lt (by omega), fun i x y hx hy => ⟨(h3 i x y hx hy).1.lt, (h3 i x y hx hy).2.lt⟩⟩

set_option maxHeartbeats 4000000 in
theorem ref6Writes {v : Value} {l : List WrS} {F : Nat → Prop} {w : World} (hr : RdW w F v l) (hl : (triB l).length + 18 ≤ 140737488355328) (hn : l.length ≤ 1000000000) :
    Calls Try.prog 28 #[v] w fun e w' => ∃ u, e = .returned u ∧ OwnB w' w.heap.size u (triB l) ∧ Chg Non w w' := by
  obtain ⟨A, c, rfl, hc, hm⟩ := hr.shape
  unfold maxLen at hm
  have hr0 := hr.lt
  have HL := hide hl
  clear hr hl
  go_enter Try.func28, Try.ntmps28
  go_wp2_with fail
  go_loopw [3, 4] (fun ov iv wr => ∃ (k : Nat), k ≤ l.length ∧ iv = .int .i64 k ∧ OwnT wr w.heap.size ov (triL (l.take k)) ∧ Chg Non w wr) (fun _ iv _ => l.length - (intOf iv).toNat)
  case atStart => exact ⟨0, Nat.zero_le _, rfl, OwnT.nil_ _ _, Chg.refl _ _⟩
  case round =>
    obtain ⟨k, hk, rfl, hO, hcw⟩ := hrel
    by_cases h1 : k < l.length
    · obtain ⟨ad, p, q, rfl, had, c1, c2, c3, rp, rq⟩ := (hr0.c0 hcw).at_ h1
      have HT := hide (show triL (l.take (k + 1)) = triL (l.take k) ++ [flB l[k].f, l[k].a, l[k].b] from by rw [List.take_succ_eq_append_getElem h1, triL_snoc])
      obtain ⟨x, hx⟩ : ∃ x, x = l[k] := ⟨_, rfl⟩
      rw [← hx] at HT c3 rp rq
      have hdl : (triL (l.take k)).length + 3 ≤ 1000000000000 := by rw [triL_len, List.length_take]; omega
      have hsz := hcw.size
      have hnot : ∀ b, (F b ∧ b < w.heap.size) → u3.ownBlock ≠ some b := fun b hb e => by have := (hO.lt b e).1; have := hb.2; omega
      obtain ⟨P, np, cp, rfl⟩ : ∃ A n c, p = .slice A n c := by obtain ⟨A, c, e, _⟩ := rp.shape; exact ⟨A, _, c, e⟩
      obtain ⟨R, nq, cq, rfl⟩ : ∃ A n c, q = .slice A n c := by obtain ⟨A, c, e, _⟩ := rq.shape; exact ⟨A, _, c, e⟩
      obtain ⟨f, hf⟩ : ∃ f, f = x.f := ⟨_, rfl⟩
      rw [← hf] at HT c3
      have hOd : OwnT wr.drew w.heap.size u3 (triL (l.take k)) := hO.c0 ((Chg.refl Non wr).drew)
      have rp := rp.c0 ((Chg.refl Non wr).drew)
      have rq := rq.c0 ((Chg.refl Non wr).drew)
      have hcd := hcw.drew
      have hna : ¬ (some (ad.add (k * 3)).block = u3.ownBlock) := fun e => hnot _ (by rw [block_of_add]; exact had) e.symm
      have c1 : wr.drew.cell? _ = _ := c1
      have c2 : wr.drew.cell? _ = _ := c2
      have c3 : wr.drew.cell? _ = _ := c3
      have h1i : (k : Int) < (l.length : Int) := by omega
      have h0i : (0 : Int) ≤ (k : Int) := by omega
      clear hx hf hcw hO had hr0
      go_wp2_with fail
      go_region_held3 (fun w' => w'.cell? (ad.add (k * 3)) = some (.slice P np cp) ∧ w'.cell? ⟨(ad.add (k * 3)).block, (ad.add (k * 3)).off + 1, none⟩ = some (.slice R nq cq) ∧ w'.cell? ⟨(ad.add (k * 3)).block, (ad.add (k * 3)).off + 2, none⟩ = some (.bool f)) (first | exact ⟨c1, c2, c3⟩ | exact ⟨cell_al c1, cell_al c2, cell_al c3⟩) (first
        | (go_at_call 31; refine ref6Flag.mono ?_; rintro e w2 ⟨u2, rfl, hu2, hc2⟩; have d2 := OwnT.dsj hOd hu2; obtain ⟨A2, n2, k2, rfl⟩ := hu2.sl; have c1 := hc2.cell c1 (fun h => h); have c2 := hc2.cell c2 (fun h => h); have c3 := hc2.cell c3 (fun h => h))
        | (refine step_T rfl _ _ rfl ((hOd.c0 hc2).al _) rfl (RdsB.cons (hu2.al _).rd d2 (RdsB.cons ((rp.c0 hc2).al _) hnot (RdsB.cons ((rq.c0 hc2).al _) hnot (RdsB.nil_ _ _)))) (Blk.new _ _ _) rfl rfl rfl hdl (Nat.le_trans hsz (Nat.le_trans hc2.size (szAl _ _))) ?_; intro v3 w3 hO3 hg3 hat3; have c1 := (Chg.of_grown hg3).cell (cell_al c1) hna; have c2 := (Chg.of_grown hg3).cell (cell_al c2) hna; have c3 := (Chg.of_grown hg3).cell (cell_al c3) hna; have k3 := Chg.appT ((hcd.trans0 hc2).alloc _) hg3 ((hOd.c0 hc2).al _) (Nat.le_refl _)))
      go_wp2_with fail
      go_round
      case rel => exact ⟨k + 1, by omega, by go_num, by rw [HT.out]; exact hO3, k3⟩
      case measure => simp [intOf]; omega
    · have HK := hide (show l.take k = l from List.take_of_length_le (by omega))
      rw [HK.out] at hO
      have hj := refJoin hO.rd HL.out
      go_wp2_with fail
      refine hj.mono ?_
      rintro e w2 ⟨u2, rfl, hu2, hc2⟩
      go_wp2_with fail
      go_ret
      exact ⟨_, rfl, hu2.low hcw.size, hcw.trans0 hc2⟩

set_option maxHeartbeats 4000000 in
theorem ref6Ranges {v : Value} {l : List WrS} {F : Nat → Prop} {w : World} (hr : RdW w F v l) (hl : (triB l).length + 18 ≤ 140737488355328) (hn : l.length ≤ 1000000000) :
    Calls Try.prog 29 #[v] w fun e w' => ∃ u, e = .returned u ∧ OwnB w' w.heap.size u (triB l) ∧ Chg Non w w' := by
  obtain ⟨A, c, rfl, hc, hm⟩ := hr.shape
  unfold maxLen at hm
  have hr0 := hr.lt
  have HL := hide hl
  clear hr hl
  go_enter Try.func29, Try.ntmps29
  go_wp2_with fail
  go_loopw [3, 4] (fun ov iv wr => ∃ (k : Nat), k ≤ l.length ∧ iv = .int .i64 k ∧ OwnT wr w.heap.size ov (triL (l.take k)) ∧ Chg Non w wr) (fun _ iv _ => l.length - (intOf iv).toNat)
  case atStart => exact ⟨0, Nat.zero_le _, rfl, OwnT.nil_ _ _, Chg.refl _ _⟩
  case round =>
    obtain ⟨k, hk, rfl, hO, hcw⟩ := hrel
    by_cases h1 : k < l.length
    · obtain ⟨ad, p, q, rfl, had, c1, c2, c3, rp, rq⟩ := (hr0.c0 hcw).at_ h1
      have HT := hide (show triL (l.take (k + 1)) = triL (l.take k) ++ [flB l[k].f, l[k].a, l[k].b] from by rw [List.take_succ_eq_append_getElem h1, triL_snoc])
      obtain ⟨x, hx⟩ : ∃ x, x = l[k] := ⟨_, rfl⟩
      rw [← hx] at HT c3 rp rq
      have hdl : (triL (l.take k)).length + 3 ≤ 1000000000000 := by rw [triL_len, List.length_take]; omega
      have hsz := hcw.size
      have hnot : ∀ b, (F b ∧ b < w.heap.size) → u3.ownBlock ≠ some b := fun b hb e => by have := (hO.lt b e).1; have := hb.2; omega
      obtain ⟨P, np, cp, rfl⟩ : ∃ A n c, p = .slice A n c := by obtain ⟨A, c, e, _⟩ := rp.shape; exact ⟨A, _, c, e⟩
      obtain ⟨R, nq, cq, rfl⟩ : ∃ A n c, q = .slice A n c := by obtain ⟨A, c, e, _⟩ := rq.shape; exact ⟨A, _, c, e⟩
      obtain ⟨f, hf⟩ : ∃ f, f = x.f := ⟨_, rfl⟩
      rw [← hf] at HT c3
      have hOd : OwnT wr.drew w.heap.size u3 (triL (l.take k)) := hO.c0 ((Chg.refl Non wr).drew)
      have rp := rp.c0 ((Chg.refl Non wr).drew)
      have rq := rq.c0 ((Chg.refl Non wr).drew)
      have hcd := hcw.drew
      have hna : ¬ (some (ad.add (k * 3)).block = u3.ownBlock) := fun e => hnot _ (by rw [block_of_add]; exact had) e.symm
      have c1 : wr.drew.cell? _ = _ := c1
      have c2 : wr.drew.cell? _ = _ := c2
      have c3 : wr.drew.cell? _ = _ := c3
      have h1i : (k : Int) < (l.length : Int) := by omega
      have h0i : (0 : Int) ≤ (k : Int) := by omega
      clear hx hf hcw hO had hr0
      go_wp2_with fail
      go_region_held3 (fun w' => w'.cell? (ad.add (k * 3)) = some (.slice P np cp) ∧ w'.cell? ⟨(ad.add (k * 3)).block, (ad.add (k * 3)).off + 1, none⟩ = some (.slice R nq cq) ∧ w'.cell? ⟨(ad.add (k * 3)).block, (ad.add (k * 3)).off + 2, none⟩ = some (.bool f)) (first | exact ⟨c1, c2, c3⟩ | exact ⟨cell_al c1, cell_al c2, cell_al c3⟩) (first
        | (go_at_call 31; refine ref6Flag.mono ?_; rintro e w2 ⟨u2, rfl, hu2, hc2⟩; have d2 := OwnT.dsj hOd hu2; obtain ⟨A2, n2, k2, rfl⟩ := hu2.sl; have c1 := hc2.cell c1 (fun h => h); have c2 := hc2.cell c2 (fun h => h); have c3 := hc2.cell c3 (fun h => h))
        | (refine step_T rfl _ _ rfl ((hOd.c0 hc2).al _) rfl (RdsB.cons (hu2.al _).rd d2 (RdsB.cons ((rp.c0 hc2).al _) hnot (RdsB.cons ((rq.c0 hc2).al _) hnot (RdsB.nil_ _ _)))) (Blk.new _ _ _) rfl rfl rfl hdl (Nat.le_trans hsz (Nat.le_trans hc2.size (szAl _ _))) ?_; intro v3 w3 hO3 hg3 hat3; have c1 := (Chg.of_grown hg3).cell (cell_al c1) hna; have c2 := (Chg.of_grown hg3).cell (cell_al c2) hna; have c3 := (Chg.of_grown hg3).cell (cell_al c3) hna; have k3 := Chg.appT ((hcd.trans0 hc2).alloc _) hg3 ((hOd.c0 hc2).al _) (Nat.le_refl _)))
      go_wp2_with fail
      go_round
      case rel => exact ⟨k + 1, by omega, by go_num, by rw [HT.out]; exact hO3, k3⟩
      case measure => simp [intOf]; omega
    · have HK := hide (show l.take k = l from List.take_of_length_le (by omega))
      rw [HK.out] at hO
      have hj := refJoin hO.rd HL.out
      go_wp2_with fail
      refine hj.mono ?_
      rintro e w2 ⟨u2, rfl, hu2, hc2⟩
      go_wp2_with fail
      go_ret
      exact ⟨_, rfl, hu2.low hcw.size, hcw.trans0 hc2⟩
end Go.Proofs.Ytpbgjldjipgfeaa
