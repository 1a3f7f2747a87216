/- The walk of gate's Answer where it is known. -/
import Derived.Test.YtlcnlcjfnpicgaaGate5
namespace Go.Proofs.Ytlcnlcjfnpicgaa
open Go.RowKit Go.Maps

theorem GateAt.put {w w' : World} {base g B : Nat} {rv : Value} {s : GSt} (h : GateAt w base g (.map (some B)) rv s) (k a : Nat)
    (hm : GMap w' B (s.ms.set k (some a))) (hc : Chg (fun j => j = B) w w') : GateAt w' base g (.map (some B)) rv { s with ms := s.ms.set k (some a) } ∧ Stp w w' g (.map (some B)) rv (.map (some B)) rv := by
  rcases h.map with ⟨e, _⟩ | ⟨B', e, hB, hBg, hr, _⟩
  · cases e
  · injection e with e; injection e with e; subst e
    refine ⟨⟨h.le, h.blk.chg hc (fun e => hBg e.symm), ?_, h.ne, .inr ⟨B, rfl, hB, hBg, hr, hm⟩, by simpa using h.len, h.n20⟩, hc.mono fun _ _ e => .inr (.inl (by rw [e])), fun _ h => .inl h⟩
    refine ⟨h.own.1, ?_⟩
    rcases h.own.2 with hn | ⟨b, cap, cur, rfl, hbb, hgg, rest⟩
    · exact .inl hn
    · exact .inr ⟨b, cap, cur, rfl, hbb, hc.heap hgg (fun e => hr (by rw [← e]; rfl)), rest⟩
set_option maxHeartbeats 2000000 in
set_option maxRecDepth 100000 in
theorem gateAnswerYes {w : World} {base g B : Nat} {rv : Value} {s : GSt} (h : GateAt w base g (.map (some B)) rv s) (k a : Nat) (hk : k < s.n) (hs : s.shut = true) (hc : s.cut = true) (ha : U64 a) :
    Calls Try.prog 22 #[.pointer (some ⟨g, 0, none⟩), .int .i64 (k : Int), .agg (ansC 6 s.id 0 a)] w fun e w' => e = .returned (.tuple #[]) ∧
      GateAt w' base g (.map (some B)) rv (if mh s.ms k = false then { s with ms := s.ms.set k (some a) } else s) ∧ Stp w w' g (.map (some B)) rv (.map (some B)) rv := by
  have hb := h.blk.al (.cells (ansC 6 s.id 0 a) 75)
  have kk := (Chg.refl Non w).alloc (.cells (ansC 6 s.id 0 a) 75)
  have h1 := h.c0 kk
  have c0 : (w.alloc (.cells (ansC 6 s.id 0 a) 75)).cell? ⟨g, 0, none⟩ = some (.int .i64 (s.n : Int)) := by rw [hb.cell]; rfl
  have c2 : (w.alloc (.cells (ansC 6 s.id 0 a) 75)).cell? ⟨g, 2, none⟩ = some (.bool true) := by rw [hb.cell, ← hs]; rfl
  have c12 : (w.alloc (.cells (ansC 6 s.id 0 a) 75)).cell? ⟨g, 12, none⟩ = some (.int .u64 (s.id : Int)) := by rw [hb.cell]; rfl
  have c14 : (w.alloc (.cells (ansC 6 s.id 0 a) 75)).cell? ⟨g, 14, none⟩ = some (.bool true) := by rw [hb.cell, ← hc]; rfl
  have c16 : (w.alloc (.cells (ansC 6 s.id 0 a) 75)).cell? ⟨g, 16, none⟩ = some (.map (some B)) := by rw [hb.cell]; rfl
  have hn20 := h.n20
  have hlk := fun (q : Nat) => (h1.c0 ((Chg.refl Non _).drewN q)).gm.look (i := k) (by rw [h.len]; exact hk) (by omega)
  have d1 : decide ((k : Int) < (s.n : Int)) = true := decide_eq_true (by omega)
  have d2 : decide (k < s.n) = true := decide_eq_true (by omega)
  have HH := hide h1
  have HK := hide hk
  have HLEN := hide h.len
  obtain ⟨n, hn⟩ : ∃ n, n = s.n := ⟨_, rfl⟩
  rw [← hn] at c0 d1 d2
  have HN := hide hn
  have HNN := hide hn20
  cases hmh : mh s.ms k
  · rw [if_pos rfl]
    rw [hmh] at hlk
    have hst := fun (q : Nat) => (h1.c0 ((Chg.refl Non _).drewN q)).gm.store (i := k) (x := a) (by rw [h.len]; exact hk) (by omega) (by rw [h.len]; omega) ha hmh
    obtain ⟨W, hW⟩ := Classical.axiomOfChoice hst
    have hW1 := fun q => (hW q).1
    have HW := hide hW
    clear hs hc hb h1 hk hn h hn20 hmh hW
    unfold ansC at *
    go_enter Try.func22, Try.ntmps22
    go_wp2_with fail
    go_quiet (fail)
    go_wp2_with fail
    go_region
    go_wp2_with fail
    have hx := (HH.out.c0 ((Chg.refl Non _).drewN (nq + 1))).put k a (HW.out _).2.1 (HW.out _).2.2
    exact bodyPost_end (results_none rfl _ _ _) rfl ⟨rfl, hx.1, hx.2.p (kk.drewN _)⟩
  · rw [if_neg (by simp)]
    rw [hmh] at hlk
    clear hs hc hb h1 hk hn h hn20 hmh
    unfold ansC at *
    go_enter Try.func22, Try.ntmps22
    go_wp2_with fail
    go_quiet (fail)
    go_wp2_with fail
    exact bodyPost_end (results_none rfl _ _ _) rfl ⟨rfl, HH.out.c0 ((Chg.refl Non _).drewN _), .same (kk.drewN _)⟩
/-- Answer, whatever it is -/
theorem gateAnswer {w : World} {base g : Nat} {mp rv : Value} {s : GSt} (h : GateAt w base g mp rv s) (i kind : Int) (id : Nat) (err : Int) (a : Nat) (ha : U64 a) :
    Calls Try.prog 22 #[.pointer (some ⟨g, 0, none⟩), .int .i64 i, .agg (ansC kind id err a)] w fun e w' => e = .returned (.tuple #[]) ∧
      GateAt w' base g mp rv (answerS s i kind id err a) ∧ Stp w w' g mp rv mp rv := by
  by_cases hk : knownS s i kind id err
  · obtain ⟨hs, hc, h0, hi, rfl, rfl, rfl⟩ := hk
    obtain ⟨k, rfl⟩ := Int.eq_ofNat_of_zero_le h0
    have hmp : ∃ B, mp = .map (some B) := by
      rcases h.map with ⟨_, hn⟩ | ⟨B, e, _⟩
      · rw [hs] at hn; cases hn
      · exact ⟨B, e⟩
    obtain ⟨B, rfl⟩ := hmp
    have e : answerS s k 6 s.id 0 a = if mh s.ms k = false then { s with ms := s.ms.set k (some a) } else s := by
      unfold answerS
      have hk : knownS s k 6 s.id 0 := ⟨hs, hc, h0, hi, rfl, rfl, rfl⟩
      simp only [hk, true_and, Int.toNat_natCast]
    rw [e]
    exact gateAnswerYes h k a (by omega) hs hc ha
  · have e : answerS s i kind id err a = s := by rw [answerS, if_neg fun h => hk h.1]
    rw [e]
    refine (gateAnswerNo h i kind id err a hk).mono ?_
    rintro e w' ⟨rfl, c⟩
    exact ⟨rfl, h.c0 c, .same c⟩
end Go.Proofs.Ytlcnlcjfnpicgaa
