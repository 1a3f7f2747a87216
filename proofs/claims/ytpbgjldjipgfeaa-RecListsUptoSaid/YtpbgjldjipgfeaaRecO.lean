/- The walks of rec's reader: next, truth. -/
import Derived.Test.YtpbgjldjipgfeaaRecC
import Derived.Test.YtpbgjldjipgfeaaSlc
import Derived.Test.YtpbgjldjipgfeaaPkSplit
import Derived.Test.YtpbgjldjipgfeaaPackC
import Derived.Deep.Cut
namespace Go.Proofs.Ytpbgjldjipgfeaa
open Go.RowKit
set_option linter.unusedVariables false

theorem under_elemBB : Try.prog.underlying 54 = some (.slice (Try.prog.elem 54)) := by kernel_rfl
theorem size_bb (w : World) : (sizeOf (Try.prog.elem 54)).run Try.prog w = .ok 1 w := by kernel_rfl
/-- 's[1:]' of a slice of values -/
theorem run_cut1 {w : World} {F : Nat → Prop} {v p : Value} {vs : List Value} (h : RdV w F 1 v (vs.length + 1) (p :: vs)) :
    ∃ sv, RdV w F 1 sv vs.length vs ∧ (∃ A n c, sv = .slice A n c) ∧ ∀ w' : World, (Instr.slice 54 v (some (.int .i64 1)) none none).run Try.prog w' = .ok sv w' := by
  obtain ⟨A, c, rfl, hc, hm⟩ := h.shape
  have hp := RdV.piece h (i := 1) (j := vs.length + 1) (by omega) (Nat.le_refl _)
  simp only [Nat.add_sub_cancel, Nat.mul_one, List.drop_succ_cons, List.drop_zero, List.take_length] at hp
  refine ⟨_, hp, ⟨_, _, _, rfl⟩, fun w' => ?_⟩
  rw [run_slice_l (P := Try.prog) w' 54 A (vs.length + 1) c under_elemBB .i64 1 (by omega) (by omega), size_bb]
  simp [Result.andThen, sliced]

/-- the reader's block: good, or with an error -/
def RdOk (w : World) (F : Nat → Prop) (g : Nat) (vs : List Value) : Prop := ∃ v, Blk w g 78 #[v, .int .i64 0] ∧ RdV w F 1 v vs.length vs ∧ ¬ F g
def RdErr (w : World) (g : Nat) (e : Int) : Prop := ∃ v, Blk w g 78 #[v, .int .i64 e] ∧ e ≠ 0
section
variable {w w' : World} {F S : Nat → Prop} {g : Nat} {vs : List Value} {e : Int}
theorem RdOk.chg (h : RdOk w F g vs) (hc : Chg S w w') (hg : ¬ S g) (hF : ∀ k, F k → ¬ S k) : RdOk w' F g vs := by
  obtain ⟨v, h1, h2, h3⟩ := h
  exact ⟨v, h1.chg hc hg, h2.chg hc hF, h3⟩
theorem RdOk.c0 (h : RdOk w F g vs) (hc : Chg Non w w') : RdOk w' F g vs := h.chg hc (fun h => h) fun _ _ h => h
theorem RdErr.chg (h : RdErr w g e) (hc : Chg S w w') (hg : ¬ S g) : RdErr w' g e := by
  obtain ⟨v, h1, h2⟩ := h
  exact ⟨v, h1.chg hc hg, h2⟩
theorem RdErr.c0 (h : RdErr w g e) (hc : Chg Non w w') : RdErr w' g e := h.chg hc fun h => h
theorem RdOk.blk (h : RdOk w F g vs) : g < w.heap.size := by
  obtain ⟨v, h1, h2, h3⟩ := h
  exact h1.lt
theorem RdErr.blk (h : RdErr w g e) : g < w.heap.size := by
  obtain ⟨v, h1, h2⟩ := h
  exact h1.lt
end

set_option maxHeartbeats 4000000 in
theorem recNext {w : World} {F : Nat → Prop} {g : Nat} {p : Value} {vs : List Value} (h : RdOk w F g (p :: vs)) (hp : ∃ A n c, p = .slice A n c) (hl : vs.length ≤ 1000000000000) :
    Calls Try.prog 36 #[.pointer (some ⟨g, 0, none⟩)] w fun e w' => e = .returned p ∧ RdOk w' F g vs ∧ Chg (fun k => k = g) w w' := by
  obtain ⟨v, hb, hv, hF⟩ := h
  rw [List.length_cons] at hv
  obtain ⟨sv, hsv, ⟨B, m, d, rfl⟩, hcut⟩ := run_cut1 hv
  obtain ⟨P, pn, pc, rfl⟩ := hp
  obtain ⟨A, c, rfl, hc, hm⟩ := hv.shape
  obtain ⟨ad, u, rfl, hf, hu, hcell⟩ := RdV.at_ hv (k := 0) (i := 0) (by omega) (by omega)
  simp at hu
  subst hu
  simp only [Nat.zero_mul, Nat.add_zero] at hcell
  have hcell0 : w.cell? ad = some (.slice P pn pc) := by simpa [Addr.add] using hcell
  have e1 : ((vs.length : Int) + 1 == 0) = false := beq_eq_false_iff_ne.2 (by omega)
  have c0 := hb.cell 0
  have c1 := hb.cell 1
  simp at c0 c1
  have f0 := hb.frozen 0
  have hB' := hb.set_ 0 (.slice B m d)
  have hch := (Chg.refl (fun k => k = g) w).setCell (p := ⟨g, 0, none⟩) (fun _ => rfl) (.slice B m d)
  simp only [List.setIfInBounds_toArray, List.set_cons_zero] at hB'
  have HR := hide (RdV.chg hsv hch fun k hk e => hF (e ▸ hk))
  have HB := hide hB'
  have HC := hide hch
  clear hb hv hsv hcell hB' hch
  go_enter Try.func36, Try.ntmps36
  go_wp2_with fail
  go_ret
  exact ⟨rfl, ⟨_, HB.out, HR.out, hF⟩, HC.out⟩
set_option maxHeartbeats 4000000 in
/-- nothing is left -/
theorem recNextX {w : World} {F : Nat → Prop} {g : Nat} (h : RdOk w F g []) :
    Calls Try.prog 36 #[.pointer (some ⟨g, 0, none⟩)] w fun e w' => e = .returned (.slice none 0 0) ∧ RdErr w' g 3 ∧ Chg (fun k => k = g) w w' := by
  obtain ⟨v, hb, hv, hF⟩ := h
  obtain ⟨A, c, rfl, hc, hm⟩ := hv.shape
  have c0 := hb.cell 0
  have c1 := hb.cell 1
  simp at c0 c1
  have f1 := hb.frozen 1
  have hB' := hb.set_ 1 (.int .i64 3)
  have hch := (Chg.refl (fun k => k = g) w).setCell (p := ⟨g, 1, none⟩) (fun _ => rfl) (.int .i64 3)
  simp only [List.setIfInBounds_toArray, List.set_cons_succ, List.set_cons_zero] at hB'
  have HB := hide hB'
  have HC := hide hch
  clear hb hv hB' hch
  go_enter Try.func36, Try.ntmps36
  go_wp2_with fail
  go_ret
  exact ⟨rfl, ⟨_, HB.out, by decide⟩, HC.out⟩
set_option maxHeartbeats 4000000 in
/-- behind an error -/
theorem recNextE {w : World} {g : Nat} {er : Int} (h : RdErr w g er) :
    Calls Try.prog 36 #[.pointer (some ⟨g, 0, none⟩)] w fun e w' => e = .returned (.slice none 0 0) ∧ w' = w := by
  obtain ⟨v, hb, he⟩ := h
  have c1 := hb.cell 1
  simp at c1
  have e1 : (er == 0) = false := beq_eq_false_iff_ne.2 he
  have e2 : (er != 0) = true := by simp [he]
  clear hb
  go_enter Try.func36, Try.ntmps36
  go_wp2_with fail
  go_ret
  exact ⟨rfl, rfl⟩
set_option maxHeartbeats 4000000 in
/-- a truth of a part -/
theorem recTruthR {w : World} {F G : Nat → Prop} {g : Nat} {p : Value} {vs : List Value} {b : Bool} (h : RdOk w F g (p :: vs)) (hr : RdB w G p (flB b)) (hG : ¬ G g) (hl : vs.length ≤ 1000000000000) :
    Calls Try.prog 56 #[.pointer (some ⟨g, 0, none⟩)] w fun e w' => e = .returned (.bool b) ∧ RdOk w' F g vs ∧ Chg (fun k => k = g) w w' := by
  have hn := recNext h hr.sl hl
  have hlen := flB_len b
  obtain ⟨A, c, rfl, hc, hm⟩ := hr.shape
  rw [hlen] at hn hr
  have HR := hide hr
  clear h hr
  go_enter Try.func56, Try.ntmps56
  go_wp2_with fail
  refine hn.mono ?_
  rintro e w1 ⟨rfl, hk, hc1⟩
  have hk0 := hk
  obtain ⟨v, hb, hv, hF⟩ := hk
  have c1 := hb.cell 1
  simp at c1
  obtain ⟨ad, rfl, hf, hcell⟩ := (RdB.chg HR.out hc1 fun k hk e => hG (e ▸ hk)).at_ (k := 0) (by rw [hlen]; omega)
  have hcell : w1.cell? ad = some (.int .u8 ((flB b)[0].toNat : Int)) := by simpa [Addr.add] using hcell
  have hbb : (((flB b)[0]'(by rw [hlen]; omega)).toNat : Int) = if b then 1 else 0 := by cases b <;> rfl
  rw [hbb] at hcell
  clear hb hv hn hc HR hbb
  cases b
  · simp only [Bool.false_eq_true, if_false] at hcell
    go_wp2_with fail
    go_ret
    exact ⟨rfl, hk0, hc1⟩
  · simp only [if_true] at hcell
    go_wp2_with fail
    go_ret
    exact ⟨rfl, hk0, hc1⟩
set_option maxHeartbeats 4000000 in
theorem recTruthE {w : World} {g : Nat} {er : Int} (h : RdErr w g er) :
    Calls Try.prog 56 #[.pointer (some ⟨g, 0, none⟩)] w fun e w' => e = .returned (.bool false) ∧ w' = w := by
  have hn := recNextE h
  obtain ⟨v, hb, he⟩ := h
  have c1 := hb.cell 1
  simp at c1
  have e1 : (er == 0) = false := beq_eq_false_iff_ne.2 he
  clear hb
  go_enter Try.func56, Try.ntmps56
  go_wp2_with fail
  refine hn.mono ?_
  rintro e w1 ⟨rfl, rfl⟩
  go_wp2_with fail
  go_ret
  exact ⟨rfl, rfl⟩
end Go.Proofs.Ytpbgjldjipgfeaa
