/- The walks of gate's Logged and Tick. -/
import Derived.Test.YtlcnlcjfnpicgaaGate3
namespace Go.Proofs.Ytlcnlcjfnpicgaa
open Go.RowKit Go.Maps

/-- the gate with other plain cells: its map and results as they were -/
theorem GateAt.with_ {w w' : World} {base g : Nat} {mp rv : Value} {s s' : GSt} (h : GateAt w base g mp rv s) (hb : Blk w' g 63 (gcells s' mp rv)) (hc : Chg (fun k => k = g) w w')
    (e1 : s'.res = s.res) (e2 : s'.ms = s.ms) (e3 : s'.n = s.n) (e4 : s'.shut = s.shut) : GateAt w' base g mp rv s' := by
  refine ⟨h.le, hb, ?_, h.ne, ?_, by rw [e2, e3]; exact h.len, by rw [e3]; exact h.n20⟩
  · rw [e1]
    refine ⟨h.own.1, ?_⟩
    rcases h.own.2 with hn | ⟨b, cap, cur, rfl, hbb, hgg, rest⟩
    · exact .inl hn
    · exact .inr ⟨b, cap, cur, rfl, hbb, hc.heap hgg (fun e => h.ne (by rw [← e]; rfl)), rest⟩
  · rcases h.map with hm | ⟨B, e, hB, hBg, hr, hm⟩
    · exact .inl ⟨hm.1, by rw [e4]; exact hm.2⟩
    · exact .inr ⟨B, e, hB, hBg, hr, by rw [e2]; exact hm.chg hc hBg⟩
theorem gset_cut (s : GSt) (mp rv : Value) (a : Nat) : ((gcells s mp rv).setIfInBounds 14 (.bool true)).setIfInBounds 15 (.int .u64 (a : Int)) = gcells { s with cut := true, at_ := a } mp rv := by
  simp only [gcells, List.setIfInBounds_toArray, List.set_cons_succ, List.set_cons_zero]
theorem gset_age (s : GSt) (mp rv : Value) (a : Int) : (gcells s mp rv).setIfInBounds 17 (.int .i64 a) = gcells { s with age := a } mp rv := by
  simp only [gcells, List.setIfInBounds_toArray, List.set_cons_succ, List.set_cons_zero]

set_option maxHeartbeats 1000000 in
set_option maxRecDepth 100000 in
theorem gateLogCut {w : World} {base g a : Nat} {mp rv : Value} {s : GSt} (h : GateAt w base g mp rv s) (hw : wantsS s = 1) :
    Calls Try.prog 10 #[.pointer (some ⟨g, 0, none⟩), .int .u64 (a : Int)] w fun e w' => ∃ v, e = .returned v ∧
      w'.ownsRow w.heap.size 60 13 v (retryS { s with cut := true, at_ := a }).length (sendsC { s with cut := true, at_ := a } (retryS { s with cut := true, at_ := a })) ∧
      GateAt w' base g mp rv { s with cut := true, at_ := a } ∧ Chg (fun k => k = g) w w' := by
  have hwants := gateWants h
  rw [hw] at hwants
  have HH := hide h
  clear h
  go_enter Try.func10, Try.ntmps10
  go_wp2_with fail
  refine hwants.mono ?_
  rintro e w1 ⟨rfl, hq⟩
  have k1 := (Chg.refl Non w).quiet hq
  have h1 := HH.out.c0 k1
  have f14 := h1.blk.frozen 14
  have f15 := h1.blk.frozen 15
  have c14 : w1.cell? ⟨g, 14, none⟩ = some (.bool s.cut) := by rw [h1.blk.cell]; rfl
  have c15 : w1.cell? ⟨g, 15, none⟩ = some (.int .u64 (s.at_ : Int)) := by rw [h1.blk.cell]; rfl
  have hb2 := (h1.blk.set_ 14 (.bool true)).set_ 15 (.int .u64 (a : Int))
  rw [gset_cut] at hb2
  have k2 : Chg (fun k => k = g) w1 ((w1.setCell ⟨g, 14, none⟩ (.bool true)).setCell ⟨g, 15, none⟩ (.int .u64 (a : Int))) :=
    ((Chg.refl (fun k => k = g) w1).setCell (p := ⟨g, 14, none⟩) (fun _ => rfl) _).setCell (p := ⟨g, 15, none⟩) (fun _ => rfl) _
  have h2 : GateAt _ base g mp rv { s with cut := true, at_ := a } := h1.with_ hb2 k2 rfl rfl rfl rfl
  have kk := (k1.mono (S' := fun k => k = g) fun _ _ h => h.elim).trans k2 fun _ _ h => h
  have hsz : ((w1.setCell ⟨g, 14, none⟩ (.bool true)).setCell ⟨g, 15, none⟩ (.int .u64 (a : Int))).heap.size = w1.heap.size := by simp [World.setCell]
  have z1 := k1.size
  clear hwants hq k1 h1 hb2 k2
  go_wp2_with fail
  generalize (w1.setCell ⟨g, 14, none⟩ (.bool true)).setCell ⟨g, 15, none⟩ (.int .u64 (a : Int)) = w2 at h2 kk hsz ⊢
  refine (gateRetry h2).mono ?_
  rintro e w3 ⟨v, rfl, hv, k3⟩
  go_wp2_with fail
  go_ret
  refine ⟨_, rfl, ⟨hv.1, ?_⟩, h2.c0 k3, kk.trans0 k3⟩
  rcases hv.2 with hn | ⟨b, cap, cur, e, hbb, rest⟩
  · exact .inl hn
  · exact .inr ⟨b, cap, cur, e, by omega, rest⟩

set_option maxHeartbeats 1000000 in
set_option maxRecDepth 100000 in
theorem gateLogEnter {w : World} {base g a : Nat} {mp rv : Value} {s : GSt} (h : GateAt w base g mp rv s) (hl : s.res.length ≤ 1000000) (hw : wantsS s = 2) :
    Calls Try.prog 10 #[.pointer (some ⟨g, 0, none⟩), .int .u64 (a : Int)] w fun e w' => e = .returned (.slice none 0 0) ∧
      ∃ rv', GateAt w' base g mp rv' { s with shut := false, res := s.res ++ [(s.id, s.name, 0)] } ∧ Stp w w' g mp rv mp rv' := by
  have hwants := gateWants h
  rw [hw] at hwants
  have HH := hide h
  clear h
  go_enter Try.func10, Try.ntmps10
  go_wp2_with fail
  refine hwants.mono ?_
  rintro e w1 ⟨rfl, hq⟩
  have k1 := (Chg.refl Non w).quiet hq
  have hend := gateEnd (e0 := 0) (HH.out.c0 k1) hl
  clear hwants hq
  go_wp2_with fail
  refine hend.mono ?_
  rintro e w2 ⟨rfl, rv', h2, k2⟩
  go_wp2_with fail
  go_ret
  exact ⟨rfl, rv', h2, k2.p k1⟩

set_option maxHeartbeats 1000000 in
set_option maxRecDepth 100000 in
theorem gateLogNo {w : World} {base g a : Nat} {mp rv : Value} {s : GSt} (h : GateAt w base g mp rv s) (hw : wantsS s = 0) :
    Calls Try.prog 10 #[.pointer (some ⟨g, 0, none⟩), .int .u64 (a : Int)] w fun e w' => e = .returned (.slice none 0 0) ∧ ∃ k, w' = w.drewN k := by
  have hwants := gateWants h
  rw [hw] at hwants
  clear h
  go_enter Try.func10, Try.ntmps10
  go_wp2_with fail
  refine hwants.mono ?_
  rintro e w1 ⟨rfl, hq⟩
  go_wp2_with fail
  go_ret
  exact ⟨rfl, hq⟩

/-! ### the clock -/
def tickS (s : GSt) : GSt :=
  if s.shut = false ∨ s.cut = false then s
  else if s.p ≤ s.age + 1 ∧ wantsS s = 0 then { s with age := s.age + 1, shut := false, res := s.res ++ [(s.id, s.name, 17)] }
  else { s with age := s.age + 1 }
set_option maxHeartbeats 1000000 in
set_option maxRecDepth 100000 in
theorem gateTick {w : World} {base g : Nat} {mp rv : Value} {s : GSt} (h : GateAt w base g mp rv s) (hl : s.res.length ≤ 1000000) (ha : -1000000000 ≤ s.age ∧ s.age ≤ 1000000000) :
    Calls Try.prog 11 #[.pointer (some ⟨g, 0, none⟩)] w fun e w' => e = .returned (.tuple #[]) ∧
      ∃ rv', GateAt w' base g mp rv' (tickS s) ∧ Stp w w' g mp rv mp rv' := by
  have c2 : w.cell? ⟨g, 2, none⟩ = some (.bool s.shut) := by rw [h.blk.cell]; rfl
  have c14 : w.cell? ⟨g, 14, none⟩ = some (.bool s.cut) := by rw [h.blk.cell]; rfl
  have c17 : w.cell? ⟨g, 17, none⟩ = some (.int .i64 s.age) := by rw [h.blk.cell]; rfl
  have f17 := h.blk.frozen 17
  rcases hs : s.shut with _ | _
  · have HT := hide (show tickS s = s by rw [tickS, if_pos (.inl hs)])
    rw [hs] at c2
    have HH := hide h
    clear h hs
    go_enter Try.func11, Try.ntmps11
    go_wp2_with fail
    refine bodyPost_ret (results_none rfl _ _ _) rfl ⟨rfl, rv, ?_, Stp.refl _ _ _ _⟩
    rw [HT.out]; exact HH.out
  · rw [hs] at c2
    rcases hc : s.cut with _ | _
    · have HT := hide (show tickS s = s by rw [tickS, if_pos (.inr hc)])
      rw [hc] at c14
      have HH := hide h
      clear h hs hc
      go_enter Try.func11, Try.ntmps11
      go_wp2_with fail
      refine bodyPost_ret (results_none rfl _ _ _) rfl ⟨rfl, rv, ?_, Stp.refl _ _ _ _⟩
      rw [HT.out]; exact HH.out
    · have hT := show tickS s = if s.p ≤ s.age + 1 ∧ wantsS s = 0 then { s with age := s.age + 1, shut := false, res := s.res ++ [(s.id, s.name, 17)] } else { s with age := s.age + 1 } by
        rw [tickS, if_neg (by rw [hs, hc]; simp)]
      rw [hc] at c14
      have hwr : IntKind.i64.wrap (s.age + 1) = s.age + 1 := IntWalk.i64_in _ (by omega)
      have hb2 := h.blk.set_ 17 (.int .i64 (s.age + 1))
      rw [gset_age] at hb2
      have k2 : Chg (fun k => k = g) w (w.setCell ⟨g, 17, none⟩ (.int .i64 (s.age + 1))) := (Chg.refl (fun k => k = g) w).setCell (p := ⟨g, 17, none⟩) (fun _ => rfl) _
      have h2 : GateAt _ base g mp rv { s with age := s.age + 1 } := h.with_ hb2 k2 rfl rfl rfl rfl
      have hle := h.le
      have ew : wantsS { s with age := s.age + 1 } = wantsS s := rfl
      clear h hb2 hs hc
      go_enter Try.func11, Try.ntmps11
      go_upto_region 2 with fail
      generalize w.setCell ⟨g, 17, none⟩ (.int .i64 (s.age + 1)) = w2 at h2 k2 ⊢
      clear c2 c14 c17 f17
      have c17 : w2.cell? ⟨g, 17, none⟩ = some (.int .i64 (s.age + 1)) := by rw [h2.blk.cell]; rfl
      have c1 : w2.cell? ⟨g, 1, none⟩ = some (.int .i64 s.p) := by rw [h2.blk.cell]; rfl
      have kF : Stp w w2 g mp rv mp rv := Stp.ofg k2
      have hwants := fun (q : Nat) => gateWants (h2.c0 ((Chg.refl Non w2).drewN q))
      by_cases hp : s.p ≤ s.age + 1
      · have d1 : decide (s.p ≤ s.age + 1) = true := decide_eq_true hp
        by_cases hq : wantsS s = 0
        · rw [if_pos ⟨hp, hq⟩] at hT
          have HT := hide hT
          rw [ew, hq] at hwants
          have hend := fun (q : Nat) => gateEnd (e0 := 17) (h2.c0 ((Chg.refl Non w2).drewN q)) hl
          clear hT ew hq k2
          go_wp2_with fail
          go_quiet ((go_at_call 9; exact Calls.quiet_of (hwants _)))
          go_wp2_with fail
          refine (hend _).mono ?_
          rintro e w3 ⟨rfl, rv', h3, k3⟩
          go_wp2_with fail
          refine bodyPost_end (results_none rfl _ _ _) rfl ⟨rfl, rv', ?_, (kF.q ((Chg.refl Non w2).drewN _)).trans k3⟩
          rw [HT.out]; exact h3
        · rw [if_neg (fun h => hq h.2)] at hT
          have HT := hide hT
          rw [ew] at hwants
          obtain ⟨x, hx⟩ : ∃ x, x = wantsS s := ⟨_, rfl⟩
          rw [← hx] at hwants hq
          have d2 : (x == 0) = false := beq_eq_false_iff_ne.2 hq
          have HG := hide h2
          clear hT ew hq k2 hx h2
          go_wp2_with fail
          go_quiet ((go_at_call 9; exact Calls.quiet_of (hwants _)))
          go_wp2_with fail
          refine bodyPost_end (results_none rfl _ _ _) rfl ⟨rfl, rv, ?_, kF.q ((Chg.refl Non w2).drewN _)⟩
          rw [HT.out]; exact HG.out.c0 ((Chg.refl Non w2).drewN _)
      · have d1 : decide (s.p ≤ s.age + 1) = false := decide_eq_false hp
        rw [if_neg (fun h => hp h.1)] at hT
        have HT := hide hT
        have HG := hide h2
        clear hT ew k2 h2
        go_wp2_with fail
        go_quiet ((go_at_call 9; exact Calls.quiet_of (hwants _)))
        go_wp2_with fail
        refine bodyPost_end (results_none rfl _ _ _) rfl ⟨rfl, rv, ?_, kF.q ((Chg.refl Non w2).drewN _)⟩
        rw [HT.out]; exact HG.out.c0 ((Chg.refl Non w2).drewN _)
end Go.Proofs.Ytlcnlcjfnpicgaa
