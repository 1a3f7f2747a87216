/- The fixed fact of groynelaw20. -/
import Derived.Test.YtlcnlcjfnpicgaaGate8
namespace Go.Proofs.Ytlcnlcjfnpicgaa
open Go.RowKit Go.Maps

theorem GateAt.step {w0 w w' : World} {base g : Nat} {mp rv mp' rv' : Value} {s : GSt} (h : GateAt w base g mp rv s) (hb : w0.heap.size ≤ base) (hc : Chg Non w0 w) (st : Stp w w' g mp rv mp' rv') : Chg Non w0 w' :=
  hc.trans st.chg fun k hk hg => by have := (h.gw hg).1; omega

theorem own_head {w : World} {base sz n : Nat} {e : TypeId} {v : Value} {xs : List Value} (h : w.ownsRow base e sz v n xs) (hn : 0 < n) :
    ∃ b cap, v = .slice (some ⟨b, 0, none⟩) n cap ∧ base ≤ b ∧ ∀ (j : Nat) (u : Value), xs[j]? = some u → w.cell? ⟨b, j, none⟩ = some u := by
  obtain ⟨A, c, e1, _⟩ := (RdV.of_own h).shape
  subst e1
  obtain ⟨ad, rfl, hF, hc⟩ := (RdV.of_own h).cells hn
  rcases h.2 with ⟨hv, _⟩ | ⟨b, cap, cur, hv, hb, _⟩
  · cases hv
  · injection hv with hv
    injection hv with hv
    subst hv
    refine ⟨b, c, rfl, hb, fun j u hu => ?_⟩
    have := hc j u hu
    rw [add_none, Nat.zero_add] at this
    exact this
theorem field_rec (w : World) : (Instr.field 54 (.agg #[.int .i64 7, .int .u64 0, .int .u64 0, .int .u64 0, .slice none 0 0, .slice none 0 0, .bool false, .slice none 0 0, .slice none 0 0, .int .u64 7, .string ⟨#[98]⟩]) 0).run Try.prog w = .ok (.int .i64 7) w := by kernel_rfl
set_option maxHeartbeats 4000000 in
set_option maxRecDepth 100000 in
theorem awake20 {w : World} : Calls Try.prog 5 #[] w fun e w' => e = .returned (.bool true) ∧ Chg Non w w' := by
  go_enter Try.func5, Try.ntmps5
  go_wp2_with fail
  refine (gateNew w 1 2 (by omega)).mono ?_
  rintro e w1 ⟨rfl, h1, c1⟩
  have e1 : newS (1 : Int).toNat (max 1 2) = newS 1 2 := rfl
  rw [e1] at h1
  clear e1
  have hsh : (newS 1 2).shut = false := rfl
  have q1 := gateShut h1
  rw [hsh] at q1
  have q2 := gateBegin (id := 7) (name := ⟨#[98]⟩) h1 hsh
  have H1 := hide h1
  have C1 := hide c1
  clear h1 c1 hsh
  go_wp2_with fail
  refine q1.mono ?_
  rintro e w1' ⟨rfl, rfl⟩
  clear q1
  go_wp2_with fail
  refine q2.mono ?_
  rintro e w2 ⟨rfl, mp2, h2, s2⟩
  clear q2
  have C2 := hide (H1.out.step (Nat.le_refl _) C1.out s2)
  obtain ⟨t2, ht2⟩ : ∃ t2, t2 = ({ newS 1 2 with shut := true, cut := false, id := 7, name := ⟨#[98]⟩, at_ := 0, age := 0, ms := List.replicate (newS 1 2).n none } : GSt) := ⟨_, rfl⟩
  rw [← ht2] at h2
  have hs2 : t2.shut = true := by rw [ht2]
  have hw2 : wantsS t2 = 1 := by rw [ht2]; rfl
  have hr2 : recV t2 = .agg (recC 7 7 ⟨#[98]⟩) := by rw [recV, if_pos hw2, ht2]; rfl
  have q3 := gateBusy (id := 8) (name := ⟨#[99]⟩) h2 hs2
  have q4 := gateShut h2
  rw [hs2] at q4
  have q5 := gateRecord h2
  rw [hr2] at q5
  unfold recC at q5
  have H2 := hide h2
  have HT := hide ht2
  have HW := hide hw2
  clear h2 s2 hs2 hw2 hr2 ht2
  go_wp2_with fail
  refine q3.mono ?_
  rintro e w2' ⟨rfl, rfl⟩
  clear q3
  go_wp2_with fail
  refine q4.mono ?_
  rintro e w2' ⟨rfl, rfl⟩
  clear q4
  go_wp2_with fail
  refine q5.mono ?_
  rintro e w3 ⟨rfl, c3⟩
  clear q5
  have H3 := hide (H2.out.c0 c3)
  have C3 := hide (C2.out.trans0 c3)
  have hf := field_rec
  have q6 := gateLogCut (a := 9) H3.out HW.out
  clear c3
  go_wp2_with fail
  refine q6.mono ?_
  rintro e w4 ⟨v, rfl, ho, h4, c4⟩
  clear q6 hf
  have C4 := hide (C3.out.trans c4 fun k hk e => by have := H3.out.le; have := C1.out.size; have := H1.out.le; omega)
  have er : retryS { t2 with cut := true, at_ := 9 } = [0] := by rw [HT.out]; rfl
  have ew : wantsS { t2 with cut := true, at_ := 9 } = 0 := by rw [HT.out]; rfl
  have es : sendsC { t2 with cut := true, at_ := 9 } [0] = [.int .i64 0, .int .i64 6, .int .u64 0, .int .u64 0, .int .u64 0, .int .u64 0, .int .u64 0, .int .u64 0, .slice none 0 0, .bool false, .slice none 0 0, .int .u64 7, .string ⟨#[98]⟩] := by rw [HT.out]; rfl
  rw [er, es] at ho
  have q7 := gateWants h4
  rw [ew] at q7
  obtain ⟨b, cap, rfl, hb, hcell⟩ := own_head ho (by decide)
  have x1 : w4.cell? ⟨b, 1, none⟩ = some (.int .i64 6) := hcell 1 _ rfl
  have x2 : w4.cell? ⟨b, 11, none⟩ = some (.int .u64 7) := hcell 11 _ rfl
  clear hcell ho er ew es h4 c4
  go_wp2_with fail
  refine q7.mono ?_
  rintro e w5 ⟨rfl, hq⟩
  have C5 := hide (C4.out.quiet hq)
  clear hq q7 x1 x2
  go_wp2_with fail
  go_ret
  exact ⟨rfl, C5.out⟩
end Go.Proofs.Ytlcnlcjfnpicgaa
