/- The walks of rec's reader: next, truth. -/
import Derived.Test.YtncchbcoldgpbaaQaM
import Derived.Test.YtncchbcoldgpbaaBaM
import Derived.Test.YtncchbcoldgpbaaPkSplit
import Derived.Test.YtncchbcoldgpbaaPackC
import Derived.Deep.Cut
import Derived.Test.YtncchbcoldgpbaaRoM
import Derived.Laws.MakeOwn
import Derived.Deep.RegionLaw
import Derived.Test.YtncchbcoldgpbaaQbM
import Derived.StillTailTactics
namespace Go.Proofs.Ytncchbcoldgpbaa
open Go.RowKit
set_option linter.unusedVariables false

theorem under_elemBB : Try.prog.underlying 92 = some (.slice (Try.prog.elem 92)) := by kernel_rfl
theorem size_bb (w : World) : (sizeOf (Try.prog.elem 92)).run Try.prog w = .ok 1 w := by kernel_rfl
/-- 's[1:]' of a slice of values -/
theorem run_cut1 {w : World} {F : Nat → Prop} {v p : Value} {vs : List Value} (h : RdV w F 1 v (vs.length + 1) (p :: vs)) :
    ∃ sv, RdV w F 1 sv vs.length vs ∧ (∃ A n c, sv = .slice A n c) ∧ ∀ w' : World, (Instr.slice 92 v (some (.int .i64 1)) none none).run Try.prog w' = .ok sv w' := by
  obtain ⟨A, c, rfl, hc, hm⟩ := h.shape
  have hp := RdV.piece h (i := 1) (j := vs.length + 1) (by omega) (Nat.le_refl _)
  simp only [Nat.add_sub_cancel, Nat.mul_one, List.drop_succ_cons, List.drop_zero, List.take_length] at hp
  refine ⟨_, hp, ⟨_, _, _, rfl⟩, fun w' => ?_⟩
  rw [run_slice_l (P := Try.prog) w' 92 A (vs.length + 1) c under_elemBB .i64 1 (by omega) (by omega), size_bb]
  simp [Result.andThen, sliced]

/-- the reader's block: good, or with an error -/
def RdOk (w : World) (F : Nat → Prop) (g : Nat) (vs : List Value) : Prop := ∃ v, Blk w g 205 #[v, .int .i64 0] ∧ RdV w F 1 v vs.length vs ∧ ¬ F g
def RdErr (w : World) (g : Nat) (e : Int) : Prop := ∃ v, Blk w g 205 #[v, .int .i64 e] ∧ e ≠ 0
section
variable {w w' : World} {F S : Nat → Prop} {g : Nat} {vs : List Value} {e : Int}
theorem RdOk.chg (h : RdOk w F g vs) (hc : Chg S w w') (hg : ¬ S g) (hF : ∀ k, F k → ¬ S k) : RdOk w' F g vs := by
  obtain ⟨v, h1, h2, h3⟩ := h
  exact ⟨v, h1.chg hc hg, h2.chg hc hF, h3⟩
theorem RdOk.c0 (h : RdOk w F g vs) (hc : Chg Non w w') : RdOk w' F g vs := h.chg hc (fun h => h) fun _ _ h => h
theorem RdErr.chg (h : RdErr w g e) (hc : Chg S w w') (hg : ¬ S g) : RdErr w' g e := by
  obtain ⟨v, h1, h2⟩ := h
  exact ⟨v, h1.chg hc hg, h2⟩
theorem RdErr.c0 (h : RdErr w g e) (hc : Chg Non w w') : RdErr w' g e := h.chg hc fun h => h
theorem RdOk.blk (h : RdOk w F g vs) : g < w.heap.size := by
  obtain ⟨v, h1, h2, h3⟩ := h
  exact h1.lt
theorem RdErr.blk (h : RdErr w g e) : g < w.heap.size := by
  obtain ⟨v, h1, h2⟩ := h
  exact h1.lt
end

set_option maxHeartbeats 4000000 in
theorem recNext {w : World} {F : Nat → Prop} {g : Nat} {p : Value} {vs : List Value} (h : RdOk w F g (p :: vs)) (hp : ∃ A n c, p = .slice A n c) (hl : vs.length ≤ 1000000000000) :
    Calls Try.prog 97 #[.pointer (some ⟨g, 0, none⟩)] w fun e w' => e = .returned p ∧ RdOk w' F g vs ∧ Chg (fun k => k = g) w w' := by
  obtain ⟨v, hb, hv, hF⟩ := h
  rw [List.length_cons] at hv
  obtain ⟨sv, hsv, ⟨B, m, d, rfl⟩, hcut⟩ := run_cut1 hv
  obtain ⟨P, pn, pc, rfl⟩ := hp
  obtain ⟨A, c, rfl, hc, hm⟩ := hv.shape
  obtain ⟨ad, u, rfl, hf, hu, hcell⟩ := RdV.at_ hv (k := 0) (i := 0) (by omega) (by omega)
  simp at hu
  subst hu
  simp only [Nat.zero_mul, Nat.add_zero] at hcell
  have hcell0 : w.cell? ad = some (.slice P pn pc) := by simpa [Addr.add] using hcell
  have e1 : ((vs.length : Int) + 1 == 0) = false := beq_eq_false_iff_ne.2 (by omega)
  have c0 := hb.cell 0
  have c1 := hb.cell 1
  simp at c0 c1
  have f0 := hb.frozen 0
  have hB' := hb.set_ 0 (.slice B m d)
  have hch := (Chg.refl (fun k => k = g) w).setCell (p := ⟨g, 0, none⟩) (fun _ => rfl) (.slice B m d)
  simp only [List.setIfInBounds_toArray, List.set_cons_zero] at hB'
  have HR := hide (RdV.chg hsv hch fun k hk e => hF (e ▸ hk))
  have HB := hide hB'
  have HC := hide hch
  clear hb hv hsv hcell hB' hch
  go_enter Try.func97, Try.ntmps97
  go_wp2_with fail
  go_ret
  exact ⟨rfl, ⟨_, HB.out, HR.out, hF⟩, HC.out⟩
set_option maxHeartbeats 4000000 in
/-- nothing is left -/
theorem recNextX {w : World} {F : Nat → Prop} {g : Nat} (h : RdOk w F g []) :
    Calls Try.prog 97 #[.pointer (some ⟨g, 0, none⟩)] w fun e w' => e = .returned (.slice none 0 0) ∧ RdErr w' g 3 ∧ Chg (fun k => k = g) w w' := by
  obtain ⟨v, hb, hv, hF⟩ := h
  obtain ⟨A, c, rfl, hc, hm⟩ := hv.shape
  have c0 := hb.cell 0
  have c1 := hb.cell 1
  simp at c0 c1
  have f1 := hb.frozen 1
  have hB' := hb.set_ 1 (.int .i64 3)
  have hch := (Chg.refl (fun k => k = g) w).setCell (p := ⟨g, 1, none⟩) (fun _ => rfl) (.int .i64 3)
  simp only [List.setIfInBounds_toArray, List.set_cons_succ, List.set_cons_zero] at hB'
  have HB := hide hB'
  have HC := hide hch
  clear hb hv hB' hch
  go_enter Try.func97, Try.ntmps97
  go_wp2_with fail
  go_ret
  exact ⟨rfl, ⟨_, HB.out, by decide⟩, HC.out⟩
set_option maxHeartbeats 4000000 in
/-- behind an error -/
theorem recNextE {w : World} {g : Nat} {er : Int} (h : RdErr w g er) :
    Calls Try.prog 97 #[.pointer (some ⟨g, 0, none⟩)] w fun e w' => e = .returned (.slice none 0 0) ∧ w' = w := by
  obtain ⟨v, hb, he⟩ := h
  have c1 := hb.cell 1
  simp at c1
  have e1 : (er == 0) = false := beq_eq_false_iff_ne.2 he
  have e2 : (er != 0) = true := by simp [he]
  clear hb
  go_enter Try.func97, Try.ntmps97
  go_wp2_with fail
  go_ret
  exact ⟨rfl, rfl⟩
set_option maxHeartbeats 4000000 in
/-- a truth of a part -/
theorem recTruthR {w : World} {F G : Nat → Prop} {g : Nat} {p : Value} {vs : List Value} {b : Bool} (h : RdOk w F g (p :: vs)) (hr : RdB w G p (flB b)) (hG : ¬ G g) (hl : vs.length ≤ 1000000000000) :
    Calls Try.prog 103 #[.pointer (some ⟨g, 0, none⟩)] w fun e w' => e = .returned (.bool b) ∧ RdOk w' F g vs ∧ Chg (fun k => k = g) w w' := by
  have hn := recNext h hr.sl hl
  have hlen := flB_len b
  obtain ⟨A, c, rfl, hc, hm⟩ := hr.shape
  rw [hlen] at hn hr
  have HR := hide hr
  clear h hr
  go_enter Try.func103, Try.ntmps103
  go_wp2_with fail
  refine hn.mono ?_
  rintro e w1 ⟨rfl, hk, hc1⟩
  have hk0 := hk
  obtain ⟨v, hb, hv, hF⟩ := hk
  have c1 := hb.cell 1
  simp at c1
  obtain ⟨ad, rfl, hf, hcell⟩ := (RdB.chg HR.out hc1 fun k hk e => hG (e ▸ hk)).at_ (k := 0) (by rw [hlen]; omega)
  have hcell : w1.cell? ad = some (.int .u8 ((flB b)[0].toNat : Int)) := by simpa [Addr.add] using hcell
  have hbb : (((flB b)[0]'(by rw [hlen]; omega)).toNat : Int) = if b then 1 else 0 := by cases b <;> rfl
  rw [hbb] at hcell
  clear hb hv hn hc HR hbb
  cases b
  · simp only [Bool.false_eq_true, if_false] at hcell
    go_wp2_with fail
    go_ret
    exact ⟨rfl, hk0, hc1⟩
  · simp only [if_true] at hcell
    go_wp2_with fail
    go_ret
    exact ⟨rfl, hk0, hc1⟩
set_option maxHeartbeats 4000000 in
theorem recTruthE {w : World} {g : Nat} {er : Int} (h : RdErr w g er) :
    Calls Try.prog 103 #[.pointer (some ⟨g, 0, none⟩)] w fun e w' => e = .returned (.bool false) ∧ w' = w := by
  have hn := recNextE h
  obtain ⟨v, hb, he⟩ := h
  have c1 := hb.cell 1
  simp at c1
  have e1 : (er == 0) = false := beq_eq_false_iff_ne.2 he
  clear hb
  go_enter Try.func103, Try.ntmps103
  go_wp2_with fail
  refine hn.mono ?_
  rintro e w1 ⟨rfl, rfl⟩
  go_wp2_with fail
  go_ret
  exact ⟨rfl, rfl⟩
end Go.Proofs.Ytncchbcoldgpbaa

namespace Go.Proofs.Ytncchbcoldgpbaa
open Go.RowKit
set_option linter.unusedVariables false

theorem info_u64 : (Try.prog.info? 22).map (fun i => (i.zero, i.size, i.bytes)) = some (some (.int .u64 0), 1, 8) := by kernel_rfl
theorem run_mk64 (n : Nat) (h : n ≤ 1000) : ∀ w : World, (Instr.makeSlice 164 (.int .i64 (n : Int)) (.int .i64 (n : Int))).run Try.prog w = .ok (.slice (some ⟨w.heap.size, 0, none⟩) n n) (w.alloc (.cells (madeCells #[.int .u64 0] n) 22)) := fun w => by
  obtain ⟨i, hi, hz, h1, h2⟩ := info_parts info_u64
  have h := run_make (P := Try.prog) w 164 22 i _ Try.underlying164 hi hz .i64 .i64 n n (by omega) (by omega) (by rw [h2]; omega) (by omega)
  rw [h1, Int.toNat_natCast, Nat.mul_one] at h
  exact h
/-- k numbers are there, the others are nought -/
def arrS (ns : List Nat) (k : Nat) : Array Value := ((ns.take k).map uv ++ List.replicate (ns.length - k) (uv 0)).toArray
theorem arrS_zero (ns : List Nat) : madeCells #[.int .u64 0] ns.length = arrS ns 0 := by
  apply Array.toList_inj.1
  rw [toList_madeCells_one]
  simp [arrS, uv]
theorem arrS_succ (ns : List Nat) (k : Nat) (h : k < ns.length) : (arrS ns k).setIfInBounds k (uv ns[k]) = arrS ns (k + 1) := by
  have hl : ((ns.take k).map uv).length = k := by simp; omega
  have h1 : (arrS ns k).setIfInBounds k (uv ns[k]) = (((ns.take k).map uv ++ List.replicate (ns.length - k) (uv 0)).set k (uv ns[k])).toArray := by
    rw [arrS, List.setIfInBounds_toArray]
  have e : ns.length - k = (ns.length - (k + 1)) + 1 := by omega
  rw [h1, arrS, List.set_append_right _ _ (by omega), hl, Nat.sub_self, e, List.replicate_succ, List.set_cons_zero, List.take_succ_eq_append_getElem h, List.map_append, List.append_assoc]
  rfl
theorem arrS_full (ns : List Nat) : arrS ns ns.length = (ns.map uv).toArray := by simp [arrS]
theorem arrS_lt (ns : List Nat) (k i : Nat) (h : i < ns.length) (hk : k ≤ ns.length) : ∃ u, (arrS ns k)[i]? = some u := by
  have : i < (arrS ns k).size := by simp [arrS]; omega
  exact ⟨_, Array.getElem?_eq_getElem this⟩
theorem numsB_split (ns : List Nat) (k : Nat) (h : k < ns.length) : numsB ns = numsB (ns.take k) ++ numB ns[k] ++ numsB (ns.drop (k + 1)) := by
  have e : ns = ns.take k ++ (ns[k] :: ns.drop (k + 1)) := by rw [List.getElem_cons_drop, List.take_append_drop]
  have h2 : numsB ns = numsB (ns.take k ++ (ns[k] :: ns.drop (k + 1))) := congrArg numsB e
  rw [h2]
  simp only [numsB, List.flatMap_append, List.flatMap_cons, List.append_assoc]
theorem numsB_next (ns : List Nat) (k : Nat) (h : k < ns.length) (hu : U64 ns[k]) : takeB (numsB ns) ((numsB (ns.take k)).length : Int) = (ns[k], ((numsB (ns.take (k + 1))).length : Int), 0) := by
  have h1 := takeB_numB hu (numsB (ns.take k)) (numsB (ns.drop (k + 1)))
  rw [← numsB_split ns k h] at h1
  rw [h1, numsB_take ns k h]

set_option maxHeartbeats 4000000 in
set_option maxRecDepth 100000 in
theorem recSome {w : World} {F G : Nat → Prop} {g : Nat} {p : Value} {vs : List Value} {ns : List Nat} (h : RdOk w F g (p :: vs)) (hr : RdB w G p (numsB ns)) (hG : ¬ G g) (hl : vs.length ≤ 1000000000000) (hu : ∀ n ∈ ns, U64 n) (hn : ns.length ≤ 1000) (hFw : ∀ k, F k → k < w.heap.size) :
    Calls Try.prog 99 #[.pointer (some ⟨g, 0, none⟩), .int .i64 (ns.length : Int)] w fun e w' => ∃ a, e = .returned (.slice (some ⟨a, 0, none⟩) ns.length ns.length) ∧ w.heap.size ≤ a ∧ Blk w' a 22 (ns.map uv).toArray ∧ RdOk w' F g vs ∧ Chg (fun k => k = g) w w' := by
  have hmk := run_mk64 ns.length hn
  have hg := h.blk
  have hra := hr.lt
  have hn1 := fun (w' : World) (hc : Chg Non w w') => recNext (h.c0 hc) hr.sl hl
  have HN := hide hn1
  clear hn1
  go_enter Try.func99, Try.ntmps99
  go_upto_region 1 with fail
  go_cut [5, 6, 7] from 13 (fun v5 v6 v7 wx => v5 = p ∧ v6 = .int .i64 0 ∧ ∃ a, v7 = .slice (some ⟨a, 0, none⟩) ns.length ns.length ∧ w.heap.size ≤ a ∧ Blk wx a 22 (arrS ns 0) ∧ RdOk wx F g vs ∧ Chg (fun k => k = g) w wx)
  case first =>
    go_region_law (first
      | (go_simp; go_at_call 97; refine (HN.out _ ((Chg.refl Non w).drew)).mono ?_; rintro e w1 ⟨rfl, hk1, hc1⟩)
      | (go_simp; go_at_call 97; refine (HN.out _ ((Chg.refl Non w).drew.alloc _)).mono ?_; rintro e w1 ⟨rfl, hk1, hc1⟩))
    · (try simp only [List.getElem_toArray, List.getElem_cons_zero, List.getElem_cons_succ, Act.put, List.setIfInBounds_toArray, List.set_cons_zero, List.set_cons_succ])
      have hB := Blk.new w1 22 (madeCells #[.int .u64 0] ns.length)
      have hs := hc1.size
      have hs' : w.heap.size ≤ w1.heap.size := hs
      rw [arrS_zero] at hB ⊢
      have hk2 := hk1.c0 ((Chg.refl Non w1).alloc (.cells (arrS ns 0) 22))
      have hc2 : Chg (fun k => k = g) w (w1.alloc (.cells (arrS ns 0) 22)) := ((Chg.refl (fun k => k = g) w).drew).trans (hc1.alloc _) fun _ _ h => h
      generalize World.alloc _ _ = w2 at hB hk2 hc2 ⊢
      go_wp2_with fail
      go_meet
      exact ⟨rfl, rfl, _, rfl, hs', hB, hk2, hc2⟩
    · (try simp only [List.getElem_toArray, List.getElem_cons_zero, List.getElem_cons_succ, Act.put, List.setIfInBounds_toArray, List.set_cons_zero, List.set_cons_succ])
      have hB := (Blk.new w.drew 22 (madeCells #[.int .u64 0] ns.length)).chg hc1 (fun e => by have : w.drew.heap.size = w.heap.size := rfl; omega)
      rw [arrS_zero] at hB
      have hc2 : Chg (fun k => k = g) w w1 := ((Chg.refl (fun k => k = g) w).drew.alloc _).trans hc1 fun _ _ h => h
      go_wp2_with fail
      go_meet
      exact ⟨rfl, rfl, _, rfl, Nat.le_refl _, hB, hk1, hc2⟩
  case rest =>
    obtain ⟨rfl, rfl, a, rfl, ha, hB, hk, hc⟩ := hcut
    clear HN h hmk
    have hga : a ≠ g := by omega
    have hrp := hra.chg hc fun k (hk : G k ∧ k < w.heap.size) (e : k = g) => hG (e ▸ hk.1)
    obtain ⟨W0, hW0⟩ : ∃ W0 : Nat → Prop, W0 = fun k => k = g := ⟨_, rfl⟩
    have hsw := hc.size
    go_wp2_with fail
    go_loopw [6, 15] (fun av iv wr => ∃ k, k ≤ ns.length ∧ iv = .int .i64 (k : Int) ∧ av = .int .i64 ((numsB (ns.take k)).length : Int) ∧ Blk wr a 22 (arrS ns k) ∧ RdOk wr F g vs ∧ Chg (fun j => j = g ∨ j = a) wc wr) (fun _ iv _ => ns.length - (intOf iv).toNat)
    case atStart => exact ⟨0, Nat.zero_le _, rfl, by simp [numsB], hB, hk, Chg.refl _ _⟩
    case round =>
      clear hB hk
      obtain ⟨k, hk, rfl, rfl, hB, hRd, hcw⟩ := hrel
      have hRd0 := hRd
      obtain ⟨v, hb, hv, hFg⟩ := hRd
      have c1 := hb.cell 1
      simp at c1
      have hrp2 := hrp.chg hcw fun j (hj : G j ∧ j < w.heap.size) e => by
        rcases e with e | e
        · exact hG (e ▸ hj.1)
        · omega
      by_cases h1 : k < ns.length
      · have hnext := numsB_next ns k h1 (hu _ (List.getElem_mem h1))
        have htk := packTake (at_ := ((numsB (ns.take k)).length : Int)) hrp2
        rw [hnext] at htk
        have HS := hide (arrS_succ ns k h1)
        obtain ⟨u0, hu0⟩ := arrS_lt ns k k h1 hk
        have ca := hB.cell k
        rw [hu0] at ca
        have fa := hB.frozen k
        have f1 := hb.frozen 1
        obtain ⟨n, hn0⟩ : ∃ n, n = ns[k] := ⟨_, rfl⟩
        rw [← hn0] at htk HS
        have HT := hide htk
        have hB' := hB.set_ k (uv n)
        rw [HS.out] at hB'
        have hk1 : (k : Int) < (ns.length : Int) := by omega
        have hk0 : (0 : Int) ≤ (k : Int) := by omega
        have x1 : Chg (fun j => j = g ∨ j = a) wr (wr.setCell ⟨a, k, none⟩ (uv n)) := (Chg.refl (fun j => j = g ∨ j = a) wr).setCell (p := ⟨a, k, none⟩) (fun _ => .inr rfl) (uv n)
        have x2 : Chg (fun j => j = g ∨ j = a) wr ((wr.setCell ⟨a, k, none⟩ (uv n)).setCell ⟨g, 1, none⟩ (.int .i64 0)) := x1.setCell (p := ⟨g, 1, none⟩) (fun _ => .inl rfl) (.int .i64 0)
        have b1 := hB'.far (p := ⟨g, 1, none⟩) hga (.int .i64 0)
        have b2 := (hb.far (p := ⟨a, k, none⟩) (fun e => hga e.symm) (uv n)).set_ 1 (.int .i64 0)
        simp only [List.setIfInBounds_toArray, List.set_cons_succ, List.set_cons_zero] at b2
        have HB1 := hide b1
        have HB2 := hide b2
        have HX := hide x2
        have HV := hide hv
        unfold uv at HB1 HB2 HX HS
        clear hB hB' hb hv hRd0 b1 b2 x1 x2 htk hnext hu0 hn0 hrp2 hrp hra
        go_wp2_with fail
        refine HT.out.mono ?_
        rintro e w2 ⟨rfl, rfl⟩
        unfold tk
        go_wp2_with fail
        go_roundw
        case rel => exact ⟨k + 1, by omega, by go_num, rfl, HB1.out, ⟨v, HB2.out, RdV.chg HV.out HX.out fun j hj e => by
          rcases e with e | e
          · exact hFg (e ▸ hj)
          · have := hFw j hj; omega, hFg⟩, hcw.trans HX.out fun _ _ h => h⟩
        case measure => simp [intOf]; omega
      · have hkn : k = ns.length := by omega
        subst hkn
        have hfull : ns.take ns.length = ns := List.take_length
        rw [arrS_full] at hB
        have hlen := fun w' ty => run_len8 hrp2 w' ty
        rw [hfull]
        have hx : decide (((numsB ns).length : Int) < ((numsB ns).length : Int)) = false := decide_eq_false (by omega)
        have hcf : Chg (fun j => j = g) w wr := hc.trans hcw fun j hj e => by
          rcases e with e | e
          · exact e
          · omega
        clear hv hrp2 hrp hra hb
        have hb := hRd0
        have HRd := hide hRd0
        have HB := hide hB
        have HC := hide hcf
        clear hRd0 hB hcf hb hc hcw
        go_wp2_with fail
        go_ret
        exact ⟨a, rfl, ha, HB.out, HRd.out, HC.out⟩

set_option maxHeartbeats 4000000 in
set_option maxRecDepth 100000 in
theorem recSomeE {w : World} {g : Nat} {er : Int} {n : Nat} (h : RdErr w g er) (hn : n ≤ 1000) :
    Calls Try.prog 99 #[.pointer (some ⟨g, 0, none⟩), .int .i64 (n : Int)] w fun e w' => ∃ a, e = .returned (.slice (some ⟨a, 0, none⟩) n n) ∧ w.heap.size ≤ a ∧ Blk w' a 22 (madeCells #[.int .u64 0] n) ∧ Chg Non w w' := by
  have hmk := run_mk64 n hn
  have hn1 := fun (w' : World) (hc : Chg Non w w') => recNextE (h.c0 hc)
  have HN := hide hn1
  clear hn1
  go_enter Try.func99, Try.ntmps99
  go_upto_region 1 with fail
  go_cut [5, 6, 7] from 13 (fun v5 v6 v7 wx => v5 = .slice none 0 0 ∧ v6 = .int .i64 0 ∧ ∃ a, v7 = .slice (some ⟨a, 0, none⟩) n n ∧ w.heap.size ≤ a ∧ Blk wx a 22 (madeCells #[.int .u64 0] n) ∧ Chg Non w wx)
  case first =>
    go_region_law (first
      | (go_simp; go_at_call 97; refine (HN.out _ ((Chg.refl Non w).drew)).mono ?_; rintro e w1 ⟨rfl, rfl⟩)
      | (go_simp; go_at_call 97; refine (HN.out _ ((Chg.refl Non w).drew.alloc _)).mono ?_; rintro e w1 ⟨rfl, rfl⟩))
    all_goals
      (try simp only [List.getElem_toArray, List.getElem_cons_zero, List.getElem_cons_succ, Act.put, List.setIfInBounds_toArray, List.set_cons_zero, List.set_cons_succ])
      have hB := Blk.new w.drew 22 (madeCells #[.int .u64 0] n)
      have hc2 : Chg Non w (w.drew.alloc (.cells (madeCells #[.int .u64 0] n) 22)) := ((Chg.refl Non w).drew).alloc _
      go_wp2_with fail
      go_meet
      exact ⟨rfl, rfl, _, rfl, Nat.le_refl _, hB, hc2⟩
  case rest =>
    obtain ⟨rfl, rfl, a, rfl, ha, hB, hc⟩ := hcut
    have hE := h.c0 hc
    obtain ⟨v, hb, he⟩ := hE
    clear HN h hmk
    have e1 : (er == 0) = false := beq_eq_false_iff_ne.2 he
    go_wp2_with fail
    go_loopw [15] (fun iv wr => ∃ k, k ≤ n ∧ iv = .int .i64 (k : Int) ∧ wr = wc) (fun iv _ => n - (intOf iv).toNat)
    case atStart => exact ⟨0, Nat.zero_le _, rfl, rfl⟩
    case round =>
      obtain ⟨k, hk, rfl, rfl⟩ := hrel
      have c1 := hb.cell 1
      simp at c1
      by_cases h1 : k < n
      · clear hB hb
        go_wp2_with fail
        go_roundw
        case rel => exact ⟨k + 1, by omega, by go_num, trivial⟩
        case measure => simp [intOf]; omega
      · clear hb
        have HB := hide hB
        clear hB
        go_wp2_with fail
        go_ret
        exact ⟨a, rfl, ha, HB.out, hc⟩

theorem numsB_app (l m : List Nat) : numsB (l ++ m) = numsB l ++ numsB m := by simp [numsB]
/-! ### numbers appended one by one -/
theorem info_int : (Try.prog.info? 3).map (fun i => (i.zero, i.size, i.bytes)) = some (some (.int .i64 0), 1, 8) := by kernel_rfl
/-- append of one number, that stands in a literal's block -/
theorem append_U1 {w : World} {ops : Array Oper} {rest : List Oper} {o : Oper} {a : Act} {Q : Exit → Act → World → Prop} (hgd : o.guard = none) (s x : Operand)
    (ho : o.op = .call { callee := .builtin .append, args := #[s, x], argTypes := #[164, 164] })
    {base : Nat} {v : Value} {xs : List Value} {n : Nat} (hown : w.ownsRow base 22 1 v n xs) (hv : a.eval s = v)
    {m : Nat} {g : Nat} (hg : Blk w g 22 #[.int .u64 (m : Int)]) (hy : a.eval x = .slice (some ⟨g, 0, none⟩) 1 1)
    (hb : n + 1 ≤ 1000000000000) (hbase : base ≤ w.heap.size)
    (h : ∀ v' w', w'.ownsRow base 22 1 v' (n + 1) (xs ++ [.int .u64 (m : Int)]) → w.grownBy w' v.ownBlock → wpList Try.prog ops Q rest (a.put o.dst v') w') : wpList Try.prog ops Q (o :: rest) a w := by
  obtain ⟨i, hi, hz, h1, h2⟩ := info_parts info_u64
  have hr : RdV w (fun _ => True) 1 (.slice (some ⟨g, 0, none⟩) 1 1) 1 [.int .u64 (m : Int)] := ⟨rfl, _, 1, rfl, Nat.le_refl _, by simp [maxLen], fun _ => ⟨_, rfl, trivial, fun j y hyj => by
    rw [add_none, hg.cell]
    match j, hyj with
    | 0, hyj => simpa using hyj
    | j + 1, hyj => simp at hyj⟩⟩
  refine wpList_append_rd w hgd s x _ ho base 22 i _ 1 8 Try.underlying164 hi hz h1 h2 rfl (by omega) v hv _ _ hown _ _ hy _ _ hr (fun y hy => by simp at hy; subst hy; rfl) (by simp only [maxLen]; omega) (by omega) hbase ?_
  intro v' w' hown' hgr _ _
  exact h v' w' hown' hgr
theorem row_chg {w w' : World} {S : Nat → Prop} {base sz n : Nat} {e : TypeId} {v : Value} {xs : List Value} (h : w.ownsRow base e sz v n xs) (hc : Chg S w w') (hS : ∀ k, v.ownBlock = some k → ¬ S k) : w'.ownsRow base e sz v n xs := by
  refine ⟨h.1, ?_⟩
  rcases h.2 with hn | ⟨g', cap, cur, rfl, hb, hg, rest⟩
  · exact .inl hn
  · exact .inr ⟨g', cap, cur, rfl, hb, hc.heap hg (hS g' rfl), rest⟩

set_option maxHeartbeats 4000000 in
set_option maxRecDepth 100000 in
theorem recAll {w : World} {F G : Nat → Prop} {g : Nat} {p : Value} {vs : List Value} {ns : List Nat} (h : RdOk w F g (p :: vs)) (hr : RdB w G p (numsB ns)) (hG : ¬ G g) (hl : vs.length ≤ 1000000000000) (hu : ∀ n ∈ ns, U64 n) (hn : ns.length ≤ 1000000000) (hFw : ∀ k, F k → k < w.heap.size) :
    Calls Try.prog 104 #[.pointer (some ⟨g, 0, none⟩)] w fun e w' => ∃ u, e = .returned u ∧ RdU w' (fun b => w.heap.size ≤ b) u ns ∧ RdOk w' F g vs ∧ Chg (fun k => k = g) w w' := by
  have hg := h.blk
  have hra := hr.lt
  have hn1 := recNext h hr.sl hl
  have HN := hide hn1
  clear hn1
  go_enter Try.func104, Try.ntmps104
  go_wp2_with fail
  refine HN.out.mono ?_
  rintro e w1 ⟨rfl, hk, hc⟩
  have hrp := hra.chg hc fun k (hk : G k ∧ k < w.heap.size) (e : k = g) => hG (e ▸ hk.1)
  have hsw := hc.size
  clear HN h hr hra
  go_wp2_with fail
  go_loopw [3, 5] (fun ov av wr => ∃ k, k ≤ ns.length ∧ av = .int .i64 ((numsB (ns.take k)).length : Int) ∧ wr.ownsRow w1.heap.size 22 1 ov k ((ns.take k).map uv) ∧ RdOk wr F g vs ∧ Chg (fun j => j = g) w1 wr) (fun _ av _ => (numsB ns).length - (intOf av).toNat)
  case atStart => exact ⟨0, Nat.zero_le _, by simp [numsB], World.ownsRow_nil _ _ _ 1, hk, Chg.refl _ _⟩
  case round =>
    clear hk
    obtain ⟨k, hk, rfl, hO, hRd, hcw⟩ := hrel
    have hRd0 := hRd
    obtain ⟨v, hb, hv, hFg⟩ := hRd
    have c1 := hb.cell 1
    simp at c1
    have hrp2 := hrp.chg hcw fun j (hj : G j ∧ j < w.heap.size) e => hG (e ▸ hj.1)
    have hlen := fun w' ty => run_len8 hrp2 w' ty
    by_cases h1 : k < ns.length
    · have hnext := numsB_next ns k h1 (hu _ (List.getElem_mem h1))
      have htk := packTake (at_ := ((numsB (ns.take k)).length : Int)) hrp2
      rw [hnext] at htk
      have hadv : (numsB (ns.take k)).length < (numsB (ns.take (k + 1))).length := by
        rw [numsB_take ns k h1, List.length_append]
        have := numB_pos ns[k]
        omega
      have hle : (numsB (ns.take (k + 1))).length ≤ (numsB ns).length := by
        have e : numsB ns = numsB (ns.take (k + 1)) ++ numsB (ns.drop (k + 1)) := by
          rw [← numsB_app, List.take_append_drop]
        rw [e, List.length_append]; omega
      have HT2 := hide (show (ns.take (k + 1)).map uv = (ns.take k).map uv ++ [uv ns[k]] from by rw [List.take_succ_eq_append_getElem h1, List.map_append]; rfl)
      have f1 := hb.frozen 1
      have hltn : (numsB (ns.take k)).length < (numsB ns).length := by omega
      obtain ⟨n, hn0⟩ : ∃ n, n = ns[k] := ⟨_, rfl⟩
      rw [← hn0] at htk HT2
      have HT := hide htk
      have HA := hide hadv
      have HE := hide hle
      have hk9 : k + 1 ≤ 1000000000000 := by omega
      have hs9 : w1.heap.size ≤ (wr.alloc (.cells #[.int .u64 (n : Int)] 22)).heap.size := Nat.le_trans hcw.size ((Chg.refl Non wr).alloc _).size
      have hO1 := row_chg hO ((Chg.refl Non wr).alloc (.cells #[.int .u64 (n : Int)] 22)) fun _ _ h => h
      have hbl := Blk.new wr 22 #[.int .u64 (n : Int)]
      have hgw : g < w1.heap.size := by omega
      have hgr : ¬ (some g = u3.ownBlock) := fun e => by have := (World.ownsRow.lt hO g e.symm).1; omega
      have hb1 := hb.al (.cells #[.int .u64 (n : Int)] 22)
      have hv1 := RdV.chg hv ((Chg.refl Non wr).alloc (.cells #[.int .u64 (n : Int)] 22)) fun _ _ h => h
      have hcw1 := hcw.alloc (.cells #[.int .u64 (n : Int)] 22)
      have HV1 := hide hv1
      have HCW := hide hcw1
      clear hnext hn0 hrp2 hv hRd0 htk hadv hle hO hv1 hcw1 hcw
      go_wp2_with (first
        | (go_at_call 89; refine HT.out.mono ?_; rintro e w2 ⟨rfl, rfl⟩; unfold tk)
        | (at_builtin; refine append_U1 rfl _ _ rfl hO1 rfl hbl rfl hk9 hs9 ?_; intro v3 w3 hO3 hg3; have hb3 := hb1.chg (Chg.of_grown hg3) hgr; have f3 := hb3.frozen 1; have c3 : w3.cell? ⟨g, 1, none⟩ = some (.int .i64 0) := hb3.cell 1))
      have hx := (Chg.refl (fun j => j = g) w3).setCell (p := ⟨g, 1, none⟩) (fun _ => rfl) (.int .i64 0)
      have hb4 := hb3.set_ 1 (.int .i64 0)
      simp only [List.setIfInBounds_toArray, List.set_cons_succ, List.set_cons_zero] at hb4
      have hv3 := RdV.chg HV1.out (Chg.of_grown hg3) fun j hj e => by have := (World.ownsRow.lt hO1 j e.symm).1; have := hFw j hj; omega
      have hO4 := row_chg hO3 hx fun j hj e => by have := (World.ownsRow.lt hO3 j hj).1; omega
      have hc4 := (HCW.out.own hg3 (fun j hj => (World.ownsRow.lt hO1 j hj).1)).trans hx fun _ _ h => h
      have hv4 := RdV.chg hv3 hx fun j hj e => hFg (e ▸ hj)
      go_roundw
      case rel => exact ⟨k + 1, by omega, rfl, by rw [HT2.out]; exact hO4, ⟨v, hb4, hv4, hFg⟩, hc4⟩
      case measure => simp only [intOf, Int.toNat_natCast]; have := HA.out; have := HE.out; omega
    · have hkn : k = ns.length := by omega
      subst hkn
      have hfull : ns.take ns.length = ns := List.take_length
      rw [hfull] at hO ⊢
      have HRd := hide hRd0
      have HO := hide hO
      clear hv hrp2 hrp hRd0 hO
      go_wp2_with fail
      go_ret
      refine ⟨_, rfl, ⟨hu, ?_⟩, HRd.out, hc.trans hcw fun _ _ h => h⟩
      exact (RdV.of_own HO.out).mono fun j hj => Nat.le_trans hsw (World.ownsRow.lt HO.out j hj).1
end Go.Proofs.Ytncchbcoldgpbaa

namespace Go.Proofs.Ytncchbcoldgpbaa
open Go.RowKit
set_option linter.unusedVariables false

/-- the cells of a list of writes -/
def flW (xs : List (Value × Value)) (l : List WrS) : List Value := (xs.zip l).flatMap fun p => [p.1.1, p.1.2, .bool p.2.f]
theorem flW_snoc (xs : List (Value × Value)) (l : List WrS) (x : Value × Value) (y : WrS) (h : xs.length = l.length) : flW (xs ++ [x]) (l ++ [y]) = flW xs l ++ [x.1, x.2, .bool y.f] := by
  rw [flW, List.zip_append h, List.flatMap_append]; rfl
theorem flW_len (xs : List (Value × Value)) (l : List WrS) (h : xs.length = l.length) : (flW xs l).length = l.length * 3 := by
  rw [flW]
  have : ∀ m : List ((Value × Value) × WrS), (m.flatMap fun p => [p.1.1, p.1.2, Value.bool p.2.f]).length = m.length * 3 := by
    intro m
    induction m with
    | nil => rfl
    | cons a m ih => simp only [List.flatMap_cons, List.length_append, List.length_cons, List.length_nil, ih]; omega
  rw [this, List.length_zip, h, Nat.min_self]

theorem info_W1 : (Try.prog.info? 125).map (fun i => (i.zero, i.size, i.bytes)) = some (some (.agg #[.slice none 0 0, .slice none 0 0, .bool false]), 3, 56) := by kernel_rfl
/-- append of one element of three cells, that stands in a literal's block -/
theorem append_W1 {w : World} {ops : Array Oper} {rest : List Oper} {o : Oper} {a : Act} {Q : Exit → Act → World → Prop} (hgd : o.guard = none) (s x : Operand)
    (ho : o.op = .call { callee := .builtin .append, args := #[s, x], argTypes := #[30, 30] })
    {base : Nat} {v : Value} {xs : List Value} {n : Nat} (hown : w.ownsRow base 125 3 v n xs) (hv : a.eval s = v)
    {A B : Option Addr} {an ac bn bc : Nat} {f : Bool} {g : Nat} (hg : Blk w g 125 #[.slice A an ac, .slice B bn bc, .bool f]) (hy : a.eval x = .slice (some ⟨g, 0, none⟩) 1 1)
    (hb : n + 1 ≤ 1000000000000) (hbase : base ≤ w.heap.size)
    (h : ∀ v' w', w'.ownsRow base 125 3 v' (n + 1) (xs ++ [.slice A an ac, .slice B bn bc, .bool f]) → w.grownBy w' v.ownBlock → (v'.ownBlock = v.ownBlock ∨ v'.ownBlock = some w.heap.size) → wpList Try.prog ops Q rest (a.put o.dst v') w') : wpList Try.prog ops Q (o :: rest) a w := by
  obtain ⟨i, hi, hz, h1, h2⟩ := info_parts info_W1
  have hr : RdV w (fun _ => True) 3 (.slice (some ⟨g, 0, none⟩) 1 1) 1 [.slice A an ac, .slice B bn bc, .bool f] := ⟨rfl, _, 1, rfl, Nat.le_refl _, by simp [maxLen], fun _ => ⟨_, rfl, trivial, fun j y hyj => by
    rw [add_none, hg.cell]
    match j, hyj with
    | 0, hyj => simpa using hyj
    | 1, hyj => simpa using hyj
    | 2, hyj => simpa using hyj
    | j + 3, hyj => simp at hyj⟩⟩
  refine wpList_append_rd w hgd s x _ ho base 125 i _ 3 56 Try.underlying30 hi hz h1 h2 rfl (by omega) v hv _ _ hown _ _ hy _ _ hr (fun y hy => by simp at hy; rcases hy with rfl | rfl | rfl <;> rfl) (by simp only [maxLen]; omega) (by omega) hbase ?_
  intro v' w' hown' hgr _ hat
  exact h v' w' hown' hgr hat
/-- the same in a region that draws its order -/
theorem step_W1 {w : World} {ops : Array Oper} {o : Oper} {a : Act} {K : Act → World → Prop} {Q : Exit → Act → World → Prop} {E : Prop} (hgd : o.guard = none) (s x : Operand)
    (ho : o.op = .call { callee := .builtin .append, args := #[s, x], argTypes := #[30, 30] })
    {base : Nat} {v : Value} {xs : List Value} {n : Nat} (hown : w.ownsRow base 125 3 v n xs) (hv : a.eval s = v)
    {A B : Option Addr} {an ac bn bc : Nat} {f : Bool} {g : Nat} (hg : Blk w g 125 #[.slice A an ac, .slice B bn bc, .bool f]) (hy : a.eval x = .slice (some ⟨g, 0, none⟩) 1 1)
    (hb : n + 1 ≤ 1000000000000) (hbase : base ≤ w.heap.size)
    (h : ∀ v' w', w'.ownsRow base 125 3 v' (n + 1) (xs ++ [.slice A an ac, .slice B bn bc, .bool f]) → w.grownBy w' v.ownBlock → (v'.ownBlock = v.ownBlock ∨ v'.ownBlock = some w.heap.size) → K (a.put o.dst v') w') :
    if Region.wanted o (yielded ops a.tmps) = true then Oper.wp Try.prog o a w K Q else E := by
  have hw : Region.wanted o (yielded ops a.tmps) = true := by simp [Region.wanted, hgd]
  rw [if_pos hw]
  obtain ⟨i, hi, hz, h1, h2⟩ := info_parts info_W1
  have hr : RdV w (fun _ => True) 3 (.slice (some ⟨g, 0, none⟩) 1 1) 1 [.slice A an ac, .slice B bn bc, .bool f] := ⟨rfl, _, 1, rfl, Nat.le_refl _, by simp [maxLen], fun _ => ⟨_, rfl, trivial, fun j y hyj => by
    rw [add_none, hg.cell]
    match j, hyj with
    | 0, hyj => simpa using hyj
    | 1, hyj => simpa using hyj
    | 2, hyj => simpa using hyj
    | j + 3, hyj => simp at hyj⟩⟩
  subst hv
  rw [← hy] at hr
  refine wp_append_rd w s x _ ho base 125 i _ 3 56 Try.underlying30 hi hz h1 h2 rfl (by omega) _ _ hown _ _ _ hr (fun y hy => by simp at hy; rcases hy with rfl | rfl | rfl <;> rfl) (by simp only [maxLen]; omega) (by omega) hbase ?_
  intro v' w' hown' hgr _ hat
  exact h v' w' hown' hgr hat

set_option maxHeartbeats 4000000 in
set_option maxRecDepth 100000 in
theorem recTakeW {w : World} {t o base n : Nat} {c0 c1 c2 c3 c4 c5 c6 c7 c8 c9 c10 a b : Value} {xs : List Value} {f : Bool} {ty : TypeId} (ht : Blk w t ty #[.pointer (some ⟨o, 0, none⟩)])
    (ho : Blk w o 129 #[c0, c1, c2, c3, c4, c5, c6, c7, c8, c9, c10]) (hown : w.ownsRow base 125 3 c4 n xs) (ha : ∃ A n c, a = .slice A n c) (hb : ∃ A n c, b = .slice A n c) (hn : n ≤ 1000000000) (hbase : base ≤ w.heap.size) (hob : o < base) (HT : ¬ (some t = c4.ownBlock)) :
    Calls Try.prog 101 #[.bool f, a, b, .pointer (some ⟨t, 0, none⟩)] w fun e w' => e = .returned (.tuple #[]) ∧ ∃ v', Blk w' o 129 #[c0, c1, c2, c3, v', c5, c6, c7, c8, c9, c10] ∧ w'.ownsRow base 125 3 v' (n + 1) (xs ++ [a, b, .bool f]) ∧ Chg (fun k => k = o ∨ some k = c4.ownBlock) w w' ∧ (v'.ownBlock = c4.ownBlock ∨ ∀ k, v'.ownBlock = some k → w.heap.size ≤ k) := by
  obtain ⟨A, an, ac, rfl⟩ := ha
  obtain ⟨B, bn, bc, rfl⟩ := hb
  have d0 := ht.cell 0
  have d1 := ho.cell 4
  have f1 := ho.frozen 4
  simp at d0 d1
  have HO := hide ho
  have HW := hide hown
  clear ho hown
  go_enter Try.func101, Try.ntmps101
  go_wp2_with fail
  have hk1 := (Chg.refl Non w).drew.alloc (.cells #[.slice A an ac, .slice B bn bc, .bool f] 125)
  have a0 : (w.alloc (.cells #[.slice A an ac, .slice B bn bc, .bool f] 125)).cell? ⟨t, 0, none⟩ = some (.pointer (some ⟨o, 0, none⟩)) := cell_al d0
  have a1 : (w.alloc (.cells #[.slice A an ac, .slice B bn bc, .bool f] 125)).cell? ⟨o, 4, none⟩ = some c4 := cell_al d1
  have HO1 := hide (HO.out.c0 hk1)
  have hown1 := row_chg HW.out hk1 fun _ _ h => h
  have hbl := Blk.new w.drew 125 #[.slice A an ac, .slice B bn bc, .bool f]
  have hs1 : base ≤ (w.drew.alloc (.cells #[.slice A an ac, .slice B bn bc, .bool f] 125)).heap.size := Nat.le_trans hbase hk1.size
  have hn9 : n + 1 ≤ 1000000000000 := by omega
  have hno : ¬ (some o = c4.ownBlock) := fun e => by have := (World.ownsRow.lt HW.out o e.symm).1; omega
  have hnt : ¬ (some t = c4.ownBlock) := HT
  go_region_law (first
    | (refine step_W1 rfl _ _ rfl hown1 rfl hbl rfl hn9 hs1 ?_; intro v3 w3 hO3 hg3 hat3; obtain ⟨A3, n3, k3, rfl⟩ := RdV.sl (RdV.of_own hO3); have b0 := (Chg.of_grown hg3).cell a0 hnt; have b1 := (Chg.of_grown hg3).cell a1 hno; have HB3 := hide (HO1.out.chg (Chg.of_grown hg3) hno); have g1 := HB3.out.frozen 4))
  all_goals
    have hx := (Chg.refl (fun j => j = o) w3).setCell (p := ⟨o, 4, none⟩) (fun _ => rfl) (.slice A3 n3 k3)
    have hb4 := HB3.out.set_ 4 (.slice A3 n3 k3)
    simp only [List.setIfInBounds_toArray, List.set_cons_succ, List.set_cons_zero] at hb4
    have hO4 := row_chg hO3 hx fun j hj e => by have := (World.ownsRow.lt hO3 j hj).1; omega
    refine bodyPost_end (results_none rfl _ _ _) rfl ⟨rfl, .slice A3 n3 k3, hb4, hO4, ((hk1.mono (S' := fun k => k = o ∨ some k = c4.ownBlock) fun _ _ h => h.elim).grown hg3 (fun k hk _ => .inr hk.symm)).trans hx (fun _ _ h => .inl h), ?_⟩
    rcases hat3 with h | h
    · exact .inl h
    · exact .inr fun k hk => by rw [h] at hk; injection hk with hk; rw [← hk]; exact hk1.size

theorem info_R1 : (Try.prog.info? 192).map (fun i => (i.zero, i.size, i.bytes)) = some (some (.agg #[.slice none 0 0, .slice none 0 0, .bool false]), 3, 56) := by kernel_rfl
/-- append of one element of three cells, that stands in a literal's block -/
theorem append_R1 {w : World} {ops : Array Oper} {rest : List Oper} {o : Oper} {a : Act} {Q : Exit → Act → World → Prop} (hgd : o.guard = none) (s x : Operand)
    (ho : o.op = .call { callee := .builtin .append, args := #[s, x], argTypes := #[126, 126] })
    {base : Nat} {v : Value} {xs : List Value} {n : Nat} (hown : w.ownsRow base 192 3 v n xs) (hv : a.eval s = v)
    {A B : Option Addr} {an ac bn bc : Nat} {f : Bool} {g : Nat} (hg : Blk w g 192 #[.slice A an ac, .slice B bn bc, .bool f]) (hy : a.eval x = .slice (some ⟨g, 0, none⟩) 1 1)
    (hb : n + 1 ≤ 1000000000000) (hbase : base ≤ w.heap.size)
    (h : ∀ v' w', w'.ownsRow base 192 3 v' (n + 1) (xs ++ [.slice A an ac, .slice B bn bc, .bool f]) → w.grownBy w' v.ownBlock → (v'.ownBlock = v.ownBlock ∨ v'.ownBlock = some w.heap.size) → wpList Try.prog ops Q rest (a.put o.dst v') w') : wpList Try.prog ops Q (o :: rest) a w := by
  obtain ⟨i, hi, hz, h1, h2⟩ := info_parts info_R1
  have hr : RdV w (fun _ => True) 3 (.slice (some ⟨g, 0, none⟩) 1 1) 1 [.slice A an ac, .slice B bn bc, .bool f] := ⟨rfl, _, 1, rfl, Nat.le_refl _, by simp [maxLen], fun _ => ⟨_, rfl, trivial, fun j y hyj => by
    rw [add_none, hg.cell]
    match j, hyj with
    | 0, hyj => simpa using hyj
    | 1, hyj => simpa using hyj
    | 2, hyj => simpa using hyj
    | j + 3, hyj => simp at hyj⟩⟩
  refine wpList_append_rd w hgd s x _ ho base 192 i _ 3 56 Try.underlying126 hi hz h1 h2 rfl (by omega) v hv _ _ hown _ _ hy _ _ hr (fun y hy => by simp at hy; rcases hy with rfl | rfl | rfl <;> rfl) (by simp only [maxLen]; omega) (by omega) hbase ?_
  intro v' w' hown' hgr _ hat
  exact h v' w' hown' hgr hat
/-- the same in a region that draws its order -/
theorem step_R1 {w : World} {ops : Array Oper} {o : Oper} {a : Act} {K : Act → World → Prop} {Q : Exit → Act → World → Prop} {E : Prop} (hgd : o.guard = none) (s x : Operand)
    (ho : o.op = .call { callee := .builtin .append, args := #[s, x], argTypes := #[126, 126] })
    {base : Nat} {v : Value} {xs : List Value} {n : Nat} (hown : w.ownsRow base 192 3 v n xs) (hv : a.eval s = v)
    {A B : Option Addr} {an ac bn bc : Nat} {f : Bool} {g : Nat} (hg : Blk w g 192 #[.slice A an ac, .slice B bn bc, .bool f]) (hy : a.eval x = .slice (some ⟨g, 0, none⟩) 1 1)
    (hb : n + 1 ≤ 1000000000000) (hbase : base ≤ w.heap.size)
    (h : ∀ v' w', w'.ownsRow base 192 3 v' (n + 1) (xs ++ [.slice A an ac, .slice B bn bc, .bool f]) → w.grownBy w' v.ownBlock → (v'.ownBlock = v.ownBlock ∨ v'.ownBlock = some w.heap.size) → K (a.put o.dst v') w') :
    if Region.wanted o (yielded ops a.tmps) = true then Oper.wp Try.prog o a w K Q else E := by
  have hw : Region.wanted o (yielded ops a.tmps) = true := by simp [Region.wanted, hgd]
  rw [if_pos hw]
  obtain ⟨i, hi, hz, h1, h2⟩ := info_parts info_R1
  have hr : RdV w (fun _ => True) 3 (.slice (some ⟨g, 0, none⟩) 1 1) 1 [.slice A an ac, .slice B bn bc, .bool f] := ⟨rfl, _, 1, rfl, Nat.le_refl _, by simp [maxLen], fun _ => ⟨_, rfl, trivial, fun j y hyj => by
    rw [add_none, hg.cell]
    match j, hyj with
    | 0, hyj => simpa using hyj
    | 1, hyj => simpa using hyj
    | 2, hyj => simpa using hyj
    | j + 3, hyj => simp at hyj⟩⟩
  subst hv
  rw [← hy] at hr
  refine wp_append_rd w s x _ ho base 192 i _ 3 56 Try.underlying126 hi hz h1 h2 rfl (by omega) _ _ hown _ _ _ hr (fun y hy => by simp at hy; rcases hy with rfl | rfl | rfl <;> rfl) (by simp only [maxLen]; omega) (by omega) hbase ?_
  intro v' w' hown' hgr _ hat
  exact h v' w' hown' hgr hat

set_option maxHeartbeats 4000000 in
set_option maxRecDepth 100000 in
theorem recTakeR {w : World} {t o base n : Nat} {c0 c1 c2 c3 c4 c5 c6 c7 c8 c9 c10 a b : Value} {xs : List Value} {f : Bool} {ty : TypeId} (ht : Blk w t ty #[.pointer (some ⟨o, 0, none⟩)])
    (ho : Blk w o 129 #[c0, c1, c2, c3, c4, c5, c6, c7, c8, c9, c10]) (hown : w.ownsRow base 192 3 c5 n xs) (ha : ∃ A n c, a = .slice A n c) (hb : ∃ A n c, b = .slice A n c) (hn : n ≤ 1000000000) (hbase : base ≤ w.heap.size) (hob : o < base) (HT : ¬ (some t = c5.ownBlock)) :
    Calls Try.prog 102 #[.bool f, a, b, .pointer (some ⟨t, 0, none⟩)] w fun e w' => e = .returned (.tuple #[]) ∧ ∃ v', Blk w' o 129 #[c0, c1, c2, c3, c4, v', c6, c7, c8, c9, c10] ∧ w'.ownsRow base 192 3 v' (n + 1) (xs ++ [a, b, .bool f]) ∧ Chg (fun k => k = o ∨ some k = c5.ownBlock) w w' ∧ (v'.ownBlock = c5.ownBlock ∨ ∀ k, v'.ownBlock = some k → w.heap.size ≤ k) := by
  obtain ⟨A, an, ac, rfl⟩ := ha
  obtain ⟨B, bn, bc, rfl⟩ := hb
  have d0 := ht.cell 0
  have d1 := ho.cell 5
  have f1 := ho.frozen 5
  simp at d0 d1
  have HO := hide ho
  have HW := hide hown
  clear ho hown
  go_enter Try.func102, Try.ntmps102
  go_wp2_with fail
  have hk1 := (Chg.refl Non w).drew.alloc (.cells #[.slice A an ac, .slice B bn bc, .bool f] 192)
  have a0 : (w.alloc (.cells #[.slice A an ac, .slice B bn bc, .bool f] 192)).cell? ⟨t, 0, none⟩ = some (.pointer (some ⟨o, 0, none⟩)) := cell_al d0
  have a1 : (w.alloc (.cells #[.slice A an ac, .slice B bn bc, .bool f] 192)).cell? ⟨o, 5, none⟩ = some c5 := cell_al d1
  have HO1 := hide (HO.out.c0 hk1)
  have hown1 := row_chg HW.out hk1 fun _ _ h => h
  have hbl := Blk.new w.drew 192 #[.slice A an ac, .slice B bn bc, .bool f]
  have hs1 : base ≤ (w.drew.alloc (.cells #[.slice A an ac, .slice B bn bc, .bool f] 192)).heap.size := Nat.le_trans hbase hk1.size
  have hn9 : n + 1 ≤ 1000000000000 := by omega
  have hno : ¬ (some o = c5.ownBlock) := fun e => by have := (World.ownsRow.lt HW.out o e.symm).1; omega
  have hnt : ¬ (some t = c5.ownBlock) := HT
  go_region_law (first
    | (refine step_R1 rfl _ _ rfl hown1 rfl hbl rfl hn9 hs1 ?_; intro v3 w3 hO3 hg3 hat3; obtain ⟨A3, n3, k3, rfl⟩ := RdV.sl (RdV.of_own hO3); have b0 := (Chg.of_grown hg3).cell a0 hnt; have b1 := (Chg.of_grown hg3).cell a1 hno; have HB3 := hide (HO1.out.chg (Chg.of_grown hg3) hno); have g1 := HB3.out.frozen 5))
  all_goals
    have hx := (Chg.refl (fun j => j = o) w3).setCell (p := ⟨o, 5, none⟩) (fun _ => rfl) (.slice A3 n3 k3)
    have hb4 := HB3.out.set_ 5 (.slice A3 n3 k3)
    simp only [List.setIfInBounds_toArray, List.set_cons_succ, List.set_cons_zero] at hb4
    have hO4 := row_chg hO3 hx fun j hj e => by have := (World.ownsRow.lt hO3 j hj).1; omega
    refine bodyPost_end (results_none rfl _ _ _) rfl ⟨rfl, .slice A3 n3 k3, hb4, hO4, ((hk1.mono (S' := fun k => k = o ∨ some k = c5.ownBlock) fun _ _ h => h.elim).grown hg3 (fun k hk _ => .inr hk.symm)).trans hx (fun _ _ h => .inl h), ?_⟩
    rcases hat3 with h | h
    · exact .inl h
    · exact .inr fun k hk => by rw [h] at hk; injection hk with hk; rw [← hk]; exact hk1.size
end Go.Proofs.Ytncchbcoldgpbaa

namespace Go.Proofs.Ytncchbcoldgpbaa
open Go.RowKit
set_option linter.unusedVariables false

/-- values that own their bytes, no two in one block -/
def OwnPs (w : World) (base : Nat) (ps : List (Value × List UInt8)) : Prop := (∀ p ∈ ps, OwnB w base p.1 p.2) ∧ ps.Pairwise fun p q => Dsj p.1 q.1
section
variable {w w' : World} {base : Nat} {ps qs : List (Value × List UInt8)} {S : Nat → Prop}
theorem OwnPs.nil_ (w : World) (base : Nat) : OwnPs w base [] := ⟨fun p h => by simp at h, .nil⟩
theorem OwnPs.sub (h : OwnPs w base ps) (hs : qs.Sublist ps) : OwnPs w base qs := ⟨fun p hp => h.1 p (hs.subset hp), h.2.sublist hs⟩
theorem OwnPs.chg (h : OwnPs w base ps) (hc : Chg S w w') (hS : ∀ k, base ≤ k → k < w.heap.size → ¬ S k) : OwnPs w' base ps :=
  ⟨fun p hp => (h.1 p hp).chg hc fun k hk => hS k ((h.1 p hp).lt k hk).1 ((h.1 p hp).lt k hk).2, h.2⟩
theorem OwnPs.chg' (h : OwnPs w base ps) (hc : Chg S w w') (hS : ∀ p ∈ ps, ∀ k, p.1.ownBlock = some k → ¬ S k) : OwnPs w' base ps :=
  ⟨fun p hp => (h.1 p hp).chg hc fun k hk => hS p hp k hk, h.2⟩
theorem OwnPs.c0 (h : OwnPs w base ps) (hc : Chg Non w w') : OwnPs w' base ps := h.chg hc fun _ _ _ h => h
theorem OwnPs.low (h : OwnPs w base ps) {b : Nat} (hb : b ≤ base) : OwnPs w b ps := ⟨fun p hp => (h.1 p hp).low hb, h.2⟩
theorem OwnPs.app {b1 b2 m : Nat} (h : OwnPs w b1 ps) (h' : OwnPs w b2 qs) (hlt : ∀ p ∈ ps, ∀ k, p.1.ownBlock = some k → k < m) (hge : m ≤ b2) (hb : base ≤ b1) (hb2 : base ≤ b2) : OwnPs w base (ps ++ qs) := by
  refine ⟨fun p hp => ?_, List.pairwise_append.2 ⟨h.2, h'.2, fun p hp q hq k hk e => ?_⟩⟩
  · rcases List.mem_append.1 hp with hp | hp
    · exact (h.1 p hp).low hb
    · exact (h'.1 p hp).low hb2
  · have h1 := hlt p hp k hk
    have h2 := ((h'.1 q hq).lt k e).1
    omega
theorem OwnPs.lt (h : OwnPs w base ps) : ∀ p ∈ ps, ∀ k, p.1.ownBlock = some k → k < w.heap.size := fun p hp k hk => ((h.1 p hp).lt k hk).2
theorem OwnPs.perm (h : OwnPs w base ps) (hp : ps.Perm qs) : OwnPs w base qs := ⟨fun p hq => h.1 p (hp.mem_iff.2 hq), hp.pairwise h.2 fun h => h.symm⟩
/-- what Split hands back, in these words -/
theorem OwnsBB.psOf {v : Value} {ll : List (List UInt8)} (h : OwnsBB w base v ll) : ∃ vs : List Value, vs.length = ll.length ∧ w.ownsRow base 26 1 v ll.length vs ∧ OwnPs w base (vs.zip ll) := by
  obtain ⟨vs, h1, h2, h3, h4⟩ := h
  refine ⟨vs, h1, h2, fun p hp => ?_, ?_⟩
  · obtain ⟨k, hk, rfl⟩ := List.mem_iff_getElem.1 hp
    rw [List.length_zip] at hk
    rw [List.getElem_zip]
    exact h4 k _ _ (List.getElem?_eq_getElem (by omega)) (List.getElem?_eq_getElem (by omega))
  · refine List.pairwise_iff_getElem.2 fun i j hi hj hij k hk e => ?_
    rw [List.length_zip] at hi hj
    rw [List.getElem_zip] at hk e
    exact h3.1 i j _ _ k hij (List.getElem?_eq_getElem (by omega)) (List.getElem?_eq_getElem (by omega)) hk e
end
/-- the pieces of a list of writes -/
def pcW (xs : List (Value × Value)) (l : List WrS) : List (Value × List UInt8) := (xs.zip l).flatMap fun p => [(p.1.1, p.2.a), (p.1.2, p.2.b)]
theorem pcW_snoc (xs : List (Value × Value)) (l : List WrS) (x : Value × Value) (y : WrS) (h : xs.length = l.length) : pcW (xs ++ [x]) (l ++ [y]) = pcW xs l ++ [(x.1, y.a), (x.2, y.b)] := by
  rw [pcW, List.zip_append h, List.flatMap_append]; rfl
theorem triL_cons (y : WrS) (l : List WrS) : triL (y :: l) = flB y.f :: y.a :: y.b :: triL l := rfl
theorem fits_triL {l : List WrS} (h : triW l ≤ 1048576) (hn : l.length ≤ 1048576) : Fits (triL l) := by
  refine ⟨by rw [triL_len]; omega, fun x hx => ?_⟩
  obtain ⟨w, hw, hx⟩ := List.mem_flatMap.1 hx
  have hle : w.a.length + w.b.length + 1 ≤ triW l := by
    have gen : ∀ l : List WrS, w ∈ l → w.a.length + w.b.length + 1 ≤ (l.map fun w => w.a.length + w.b.length + 1).sum := by
      intro l hw
      induction l with
      | nil => simp at hw
      | cons a l ih =>
        simp only [List.map_cons, List.sum_cons]
        rcases List.mem_cons.1 hw with rfl | hw
        · omega
        · have := ih hw; omega
    exact gen l hw
  simp at hx
  rcases hx with rfl | rfl | rfl
  · rw [flB_len]; omega
  · omega
  · omega
/-- how many parts a reader still has -/
def leftN (w : World) (g : Nat) : Nat := match w.cell? ⟨g, 0, none⟩ with | some (.slice _ n _) => n | _ => 0
theorem RdOk.left {w : World} {F : Nat → Prop} {g : Nat} {vs : List Value} (h : RdOk w F g vs) : leftN w g = vs.length := by
  obtain ⟨v, h1, h2, h3⟩ := h
  obtain ⟨A, c, rfl, _, _⟩ := h2.shape
  have := h1.cell 0
  simp at this
  rw [leftN, this]
theorem hmf : ∀ (fn : Fn) (first cap : Array Value) (w : World), (Instr.makeFunc fn first cap).run Try.prog w = .ok (.func fn first cap) w := fun _ _ _ _ => rfl

set_option maxHeartbeats 8000000 in
set_option maxRecDepth 100000 in
theorem recTriW {w : World} {F G : Nat → Prop} {g t o : Nat} {ty : TypeId} {p : Value} {vs : List Value} {l : List WrS} {c0 c1 c2 c3 c5 c6 c7 c8 c9 c10 : Value} (h : RdOk w F g (p :: vs)) (hr : RdB w G p (triB l)) (hG : ¬ G g) (hl : vs.length ≤ 1000000000000)
    (hw : triW l ≤ 1048576) (hn : l.length ≤ 1048576) (hFw : ∀ k, F k → k < w.heap.size ∧ k ≠ o)
    (ht : Blk w t ty #[.pointer (some ⟨o, 0, none⟩)]) (ho : Blk w o 129 #[c0, c1, c2, c3, .slice none 0 0, c5, c6, c7, c8, c9, c10]) (hog : o ≠ g) (htg : t ≠ g) (hto : t ≠ o) :
    Calls Try.prog 100 #[.pointer (some ⟨g, 0, none⟩), .func (.func 101) #[] #[.pointer (some ⟨t, 0, none⟩)]] w fun e w' => e = .returned (.tuple #[]) ∧ ∃ v' xs, xs.length = l.length ∧
      Blk w' o 129 #[c0, c1, c2, c3, v', c5, c6, c7, c8, c9, c10] ∧ w'.ownsRow w.heap.size 125 3 v' l.length (flW xs l) ∧ OwnPs w' w.heap.size (pcW xs l) ∧ RdOk w' F g vs ∧ Chg (fun k => k = g ∨ k = o) w w' := by
  have hg := h.blk
  have hol := ho.lt
  have htl := ht.lt
  have hnext := recNext h hr.sl hl
  have htb := triB_len l
  have hsp : splitB (triB l) = (triL l, 0) := splitB_join _ (fits_triL hw hn)
  have hlen3 := triL_len l
  go_enter Try.func100, Try.ntmps100
  go_wp2_with fail
  refine hnext.mono ?_
  rintro e w1 ⟨rfl, hk1, hc1⟩
  have hr1 := hr.chg hc1 fun k hk (e : k = g) => hG (e ▸ hk)
  have ht1 := ht.chg hc1 htg
  have ho1 := ho.chg hc1 hog
  have hs1 := hc1.size
  clear h hr ht ho hnext
  have hk1' := hk1
  obtain ⟨v1, hb1, hv1, hF1⟩ := hk1'
  have a1 := hb1.cell 1
  simp at a1
  go_upto_region 3 with fail
  have hB2 := Blk.new w1 205 #[.slice none 0 0, .int .i64 0]
  have hc2 := (Chg.refl Non w1).alloc (.cells #[.slice none 0 0, .int .i64 0] 205)
  have hr2 := hr1.c0 hc2
  have ht2 := ht1.c0 hc2
  have ho2 := ho1.c0 hc2
  have hk2 := hk1.c0 hc2
  have hg2s : (w1.alloc (.cells #[.slice none 0 0, .int .i64 0] 205)).heap.size = w1.heap.size + 1 := by simp
  obtain ⟨g2, hg2⟩ : ∃ g2, g2 = w1.heap.size := ⟨_, rfl⟩
  rw [← hg2] at hB2 hg2s ⊢
  have hg2l : w.heap.size ≤ g2 := by omega
  clear hr1 ht1 ho1 hk1 hb1 hv1 a1 hg2
  generalize World.alloc _ _ = w2 at hB2 hc2 hr2 ht2 ho2 hk2 hg2s ⊢
  have hspl := packSplit hr2 (by omega)
  rw [hsp] at hspl
  clear hr2
  go_upto_region 4 with (go_at_call 84; refine hspl.mono ?_; rintro e w3 ⟨u3, rfl, hO3, hc3⟩; obtain ⟨U3, m3, rfl, hm3, hmm3⟩ := hO3.shape; have f0 := (hB2.c0 hc3).frozen 0; have f1 := (hB2.c0 hc3).frozen 1; have z0 : w3.cell? ⟨g2, 0, none⟩ = some (.slice none 0 0) := (hB2.c0 hc3).cell 0; have z1 : w3.cell? ⟨g2, 1, none⟩ = some (.int .i64 0) := (hB2.c0 hc3).cell 1)
  have hs3 := hc3.size
  have hB5 := ((hB2.c0 hc3).set_ 0 (.slice U3 (triL l).length m3)).set_ 1 (.int .i64 0)
  simp only [List.setIfInBounds_toArray, List.set_cons_succ, List.set_cons_zero] at hB5
  have hc5 : Chg (fun k => k = g2) w3 ((w3.setCell ⟨g2, 0, none⟩ (.slice U3 (triL l).length m3)).setCell ⟨g2, 1, none⟩ (.int .i64 0)) := ((Chg.refl (fun k => k = g2) w3).setCell (p := ⟨g2, 0, none⟩) (fun _ => rfl) _).setCell (p := ⟨g2, 1, none⟩) (fun _ => rfl) _
  obtain ⟨rs0, hrl, hrow, hps⟩ := hO3.psOf
  rw [hlen3] at hB5 hc5 hrow
  have hrl3 : rs0.length = 3 * l.length := by rw [hrl, hlen3]
  generalize World.setCell _ _ _ = w5 at hB5 hc5 ⊢
  have hs5 := hc5.size
  have hrow5 : RdV w5 (fun b => g2 < b ∧ b < w3.heap.size) 1 (.slice U3 (3 * l.length) m3) rs0.length rs0 := by
    have h := RdV.of_own hrow
    rw [hrl3]
    refine (h.mono (F' := fun b => g2 < b ∧ b < w3.heap.size) fun k hk => ?_).chg hc5 fun k (hk : g2 < k ∧ k < w3.heap.size) (e : k = g2) => by omega
    have := World.ownsRow.lt hrow k hk
    omega
  have hps5 := hps.chg hc5 fun k hk _ e => by subst e; omega
  have hpl5 : ∀ p ∈ rs0.zip (triL l), ∀ k, p.1.ownBlock = some k → k < w3.heap.size := hps.lt
  have hRd5 : RdOk w5 (fun b => g2 < b ∧ b < w3.heap.size) g2 rs0 := ⟨_, hB5, hrow5, fun h => Nat.lt_irrefl _ h.1⟩
  have ht5 := (ht2.c0 hc3).chg hc5 (by omega)
  have ho5 := (ho2.c0 hc3).chg hc5 (by omega)
  have hk5 := (hk2.c0 hc3).chg hc5 (by omega) fun k hk e => by have := hFw k hk; omega
  have hct : Chg (fun k => k = g ∨ k = o) w w5 := ((hc1.mono (S' := fun k => k = g ∨ k = o) fun _ _ h => .inl h).trans0 (hc2.trans0 hc3)).trans hc5 fun k hk e => by omega
  have b0 := hB5.cell 0
  have b1 := hB5.cell 1
  simp at b0 b1
  clear hspl hO3 f0 f1 z0 z1 hB2 hps hrow hrow5 hk2 ht2 ho2 hsp htb hlen3 hrl
  have hmod : ((((3 * l.length : Nat) : Int)).tmod 3 != 0) = false := by
    have : (((3 * l.length : Nat) : Int)).tmod 3 = 0 := by rw [Int.natCast_mul]; exact Int.mul_tmod_right 3 _
    rw [this]; rfl
  go_wp2_with fail
  have hw2 : w.heap.size ≤ w2.heap.size := by omega
  go_loopw [] (fun wr => ∃ (l1 l2 : List WrS) (xs : List (Value × Value)) (rs : List Value) (wv : Value), Hid (l = l1 ++ l2) ∧ xs.length = l1.length ∧ rs.length = 3 * l2.length ∧ RdOk wr (fun b => g2 < b ∧ b < w3.heap.size) g2 rs ∧
    Blk wr o 129 #[c0, c1, c2, c3, wv, c5, c6, c7, c8, c9, c10] ∧ wr.ownsRow w.heap.size 125 3 wv l1.length (flW xs l1) ∧ (∀ k, wv.ownBlock = some k → w3.heap.size ≤ k) ∧
    OwnPs wr w2.heap.size (pcW xs l1 ++ rs.zip (triL l2)) ∧ (∀ p ∈ pcW xs l1 ++ rs.zip (triL l2), ∀ k, p.1.ownBlock = some k → k < w3.heap.size) ∧
    Blk wr t ty #[.pointer (some ⟨o, 0, none⟩)] ∧ RdOk wr F g vs ∧ Chg (fun k => k = g ∨ k = o) w wr ∧ w3.heap.size ≤ wr.heap.size) (fun wr => leftN wr g2)
  case atStart => exact ⟨[], l, [], rs0, _, hide rfl, rfl, hrl3, hRd5, ho5, World.ownsRow_nil _ _ _ 3, fun k hk => by simp [Value.ownBlock] at hk, hps5, hpl5, ht5, hk5, hct, hs5⟩
  case round =>
    clear hps5 hpl5 ht5 ho5 hk5 hct hB5 hRd5 b0 b1 hmod hc5
    obtain ⟨l1, l2, xs, rs, wv, HL, hxl, hrsl, hRd, ho, hrow, hwv, hP, hPl, ht, hk, hct, hsr⟩ := hrel
    have hleft := hRd.left
    have hRd' := hRd
    obtain ⟨v2, hb2, hv2, _⟩ := hRd'
    obtain ⟨V, d, rfl, hd, hdm⟩ := hv2.shape
    have b0 := hb2.cell 0
    have b1 := hb2.cell 1
    simp at b0 b1
    clear hv2 hb2
    rcases l2 with _ | ⟨y, l2⟩
    · have hr0 : rs = [] := List.eq_nil_of_length_eq_zero (by simpa using hrsl)
      subst hr0
      have HL' := hide (show l1 = l by have := HL.out; simpa using this.symm)
      rw [HL'.out] at hxl hrow hP
      have hk' := hk
      obtain ⟨v7, hb7, hv7, hF7⟩ := hk'
      have d1 := hb7.cell 1
      have e1 := hb7.frozen 1
      simp at d1
      have hb8 := hb7.set_ 1 (.int .i64 0)
      simp only [List.setIfInBounds_toArray, List.set_cons_succ, List.set_cons_zero] at hb8
      have hc8 : Chg (fun k => k = g) wr (wr.setCell ⟨g, 1, none⟩ (.int .i64 0)) := (Chg.refl (fun k => k = g) wr).setCell (p := ⟨g, 1, none⟩) (fun _ => rfl) _
      have hlen1 : decide ((0 : Int) < (0 : Int)) = false := rfl
      have ho8 := ho.chg hc8 hog
      have hrow8 := row_chg hrow hc8 fun k hk e => by have := hwv k hk; omega
      have hP8 := (hP.sub (List.sublist_append_left _ _)).chg hc8 fun k hk _ e => by omega
      have hk8 : RdOk (wr.setCell ⟨g, 1, none⟩ (.int .i64 0)) F g vs := ⟨v7, hb8, hv7.chg hc8 fun k hk e => hF7 (e ▸ hk), hF7⟩
      have hct8 : Chg (fun k => k = g ∨ k = o) w (wr.setCell ⟨g, 1, none⟩ (.int .i64 0)) := hct.trans hc8 fun k hk e => .inl e
      have HO8 := hide ho8
      have HR8 := hide hrow8
      have HP8 := hide hP8
      have HK8 := hide hk8
      have HC8 := hide hct8
      clear ho8 hrow8 hP8 hk8 hct8 hc8 hb8 hb7 hv7 ho hrow hP hk hct hRd hleft ht hPl
      go_wp2_with fail
      exact bodyPost_end (results_none rfl _ _ _) rfl ⟨rfl, wv, xs, hxl, HO8.out, HR8.out, HP8.out.low hw2, HK8.out, HC8.out⟩
    · obtain ⟨f, a, b, rs, rfl⟩ : ∃ f a b rs', rs = f :: a :: b :: rs' := by
        match rs, hrsl with
        | [], h => simp at h
        | [x], h => simp at h; omega
        | [x, y], h => simp at h; omega
        | f :: a :: b :: rs', _ => exact ⟨f, a, b, rs', rfl⟩
      have hll : l1.length + (l2.length + 1) ≤ 1048576 := by
        have := congrArg List.length HL.out
        simp only [List.length_append, List.length_cons] at this
        omega
      have hrs' : rs.length = 3 * l2.length := by simp at hrsl; omega
      rw [triL_cons] at hP hPl
      simp only [List.zip_cons_cons] at hP hPl
      have of : OwnB wr w2.heap.size f (flB y.f) := hP.1 (f, flB y.f) (by simp)
      have oa : OwnB wr w2.heap.size a y.a := hP.1 (a, y.a) (by simp)
      have ob : OwnB wr w2.heap.size b y.b := hP.1 (b, y.b) (by simp)
      have hP' := hP.sub (qs := pcW xs l1 ++ (a, y.a) :: (b, y.b) :: rs.zip (triL l2)) (List.Sublist.append (List.Sublist.refl _) (List.sublist_cons_self _ _))
      have hPl' : ∀ p ∈ pcW xs l1 ++ (a, y.a) :: (b, y.b) :: rs.zip (triL l2), ∀ k, p.1.ownBlock = some k → k < w3.heap.size := fun p hp => hPl p (by
        rcases List.mem_append.1 hp with h | h
        · exact List.mem_append_left _ h
        · exact List.mem_append_right _ (List.mem_cons_of_mem _ h))
      have htr := recTruthR hRd of.rd (fun e => by have := (of.lt _ e).1; omega) (by simp; omega)
      have hlen2 : (0 : Int) < (((f :: a :: b :: rs).length : Nat) : Int) := by simp; omega
      have hlen1 : decide ((0 : Int) < (((f :: a :: b :: rs).length : Nat) : Int)) = true := decide_eq_true hlen2
      have HLEFT := hide hleft
      obtain ⟨sa1, sa2, sa3, rfl⟩ := oa.sl
      obtain ⟨sb1, sb2, sb3, rfl⟩ := ob.sl
      clear of hP hPl hleft
      go_wp2_with fail
      refine htr.mono ?_
      rintro e w6 ⟨rfl, hRd6, hc6⟩
      have hn6 := recNext hRd6 ⟨_, _, _, rfl⟩ (by simp; omega)
      clear htr hlen1 hlen2 b0 b1
      go_wp2_with fail
      refine hn6.mono ?_
      rintro e w7 ⟨rfl, hRd7, hc7⟩
      have hn7 := recNext hRd7 ⟨_, _, _, rfl⟩ (by omega)
      clear hn6
      go_wp2_with fail
      refine hn7.mono ?_
      rintro e w8 ⟨rfl, hRd8, hc8⟩
      have hc68 : Chg (fun k => k = g2) wr w8 := (hc6.trans hc7 fun _ _ h => h).trans hc8 fun _ _ h => h
      have hs8 := hc68.size
      have ho8 := ho.chg hc68 (by omega)
      have ht8 := ht.chg hc68 (by omega)
      have hk8 := hk.chg hc68 (by omega) fun k hk e => by have := hFw k hk; omega
      have hrow8 := row_chg hrow hc68 fun k hk e => by have := hwv k hk; omega
      have hP8 := hP'.chg hc68 fun k hk _ e => by omega
      have htake := recTakeW (a := .slice sa1 sa2 sa3) (b := .slice sb1 sb2 sb3) (f := y.f) ht8 ho8 hrow8 ⟨_, _, _, rfl⟩ ⟨_, _, _, rfl⟩ (by omega) (by omega) hol (fun e => by have := hwv t e.symm; omega)
      clear hn7 hRd6 hRd7 hc6 hc7 hc8 ho ht hk hrow hP' oa ob hRd
      go_wp2_with fail
      refine htake.mono ?_
      rintro e w9 ⟨rfl, v9, ho9, hrow9, hc9, hv9⟩
      clear htake
      have hs9 := hc9.size
      have hRd9 := hRd8.chg hc9 (by rintro (e | e) <;> first | omega | (have := hwv g2 e.symm; omega)) fun k hk => by rintro (e | e) <;> first | omega | (have := hwv k e.symm; omega)
      have hP9 := hP8.chg' hc9 fun p hp k hk => by
        have h1 := hPl' p hp k hk
        have h2 := ((hP8.1 p hp).lt k hk).1
        rintro (e | e)
        · omega
        · have := hwv k e.symm; omega
      have ht9 := ht8.chg hc9 (by rintro (e | e) <;> first | exact hto e | (have := hwv t e.symm; omega))
      have hk9 := hk8.chg hc9 (by rintro (e | e) <;> first | exact hog e.symm | (have := hwv g e.symm; omega)) fun k hk => by
        have := hFw k hk
        rintro (e | e)
        · exact this.2 e
        · have := hwv k e.symm; omega
      have hct9 : Chg (fun k => k = g ∨ k = o) w w9 := (hct.trans hc68 fun k hk e => by omega).trans hc9 fun k hk => by
        rintro (e | e)
        · exact .inr e
        · have := hwv k e.symm; omega
      have HPC := hide (pcW_snoc xs l1 (.slice sa1 sa2 sa3, .slice sb1 sb2 sb3) y hxl)
      have HFL := hide (flW_snoc xs l1 (.slice sa1 sa2 sa3, .slice sb1 sb2 sb3) y hxl)
      have hl9 := hRd9.left
      go_wp2_with fail
      go_roundw
      case rel =>
        refine ⟨l1 ++ [y], l2, xs ++ [(.slice sa1 sa2 sa3, .slice sb1 sb2 sb3)], rs, v9, hide (by rw [HL.out, List.append_assoc]; rfl), by simp [hxl], hrs', hRd9, ho9, ?_, fun k hk => ?_, ?_, ?_, ht9, hk9, hct9, by omega⟩
        · rw [HFL.out, List.length_append]; exact hrow9
        · rcases hv9 with h | h
          · rw [h] at hk; exact hwv k hk
          · have := h k hk; omega
        · rw [HPC.out, List.append_assoc]; exact hP9
        · rw [HPC.out, List.append_assoc]; exact hPl'
      case measure => rw [hl9, HLEFT.out]; simp; omega

set_option maxHeartbeats 8000000 in
set_option maxRecDepth 100000 in
theorem recTriR {w : World} {F G : Nat → Prop} {g t o : Nat} {ty : TypeId} {p : Value} {vs : List Value} {l : List WrS} {c0 c1 c2 c3 c4 c6 c7 c8 c9 c10 : Value} (h : RdOk w F g (p :: vs)) (hr : RdB w G p (triB l)) (hG : ¬ G g) (hl : vs.length ≤ 1000000000000)
    (hw : triW l ≤ 1048576) (hn : l.length ≤ 1048576) (hFw : ∀ k, F k → k < w.heap.size ∧ k ≠ o)
    (ht : Blk w t ty #[.pointer (some ⟨o, 0, none⟩)]) (ho : Blk w o 129 #[c0, c1, c2, c3, c4, .slice none 0 0, c6, c7, c8, c9, c10]) (hog : o ≠ g) (htg : t ≠ g) (hto : t ≠ o) :
    Calls Try.prog 100 #[.pointer (some ⟨g, 0, none⟩), .func (.func 102) #[] #[.pointer (some ⟨t, 0, none⟩)]] w fun e w' => e = .returned (.tuple #[]) ∧ ∃ v' xs, xs.length = l.length ∧
      Blk w' o 129 #[c0, c1, c2, c3, c4, v', c6, c7, c8, c9, c10] ∧ w'.ownsRow w.heap.size 192 3 v' l.length (flW xs l) ∧ OwnPs w' w.heap.size (pcW xs l) ∧ RdOk w' F g vs ∧ Chg (fun k => k = g ∨ k = o) w w' := by
  have hg := h.blk
  have hol := ho.lt
  have htl := ht.lt
  have hnext := recNext h hr.sl hl
  have htb := triB_len l
  have hsp : splitB (triB l) = (triL l, 0) := splitB_join _ (fits_triL hw hn)
  have hlen3 := triL_len l
  go_enter Try.func100, Try.ntmps100
  go_wp2_with fail
  refine hnext.mono ?_
  rintro e w1 ⟨rfl, hk1, hc1⟩
  have hr1 := hr.chg hc1 fun k hk (e : k = g) => hG (e ▸ hk)
  have ht1 := ht.chg hc1 htg
  have ho1 := ho.chg hc1 hog
  have hs1 := hc1.size
  clear h hr ht ho hnext
  have hk1' := hk1
  obtain ⟨v1, hb1, hv1, hF1⟩ := hk1'
  have a1 := hb1.cell 1
  simp at a1
  go_upto_region 3 with fail
  have hB2 := Blk.new w1 205 #[.slice none 0 0, .int .i64 0]
  have hc2 := (Chg.refl Non w1).alloc (.cells #[.slice none 0 0, .int .i64 0] 205)
  have hr2 := hr1.c0 hc2
  have ht2 := ht1.c0 hc2
  have ho2 := ho1.c0 hc2
  have hk2 := hk1.c0 hc2
  have hg2s : (w1.alloc (.cells #[.slice none 0 0, .int .i64 0] 205)).heap.size = w1.heap.size + 1 := by simp
  obtain ⟨g2, hg2⟩ : ∃ g2, g2 = w1.heap.size := ⟨_, rfl⟩
  rw [← hg2] at hB2 hg2s ⊢
  have hg2l : w.heap.size ≤ g2 := by omega
  clear hr1 ht1 ho1 hk1 hb1 hv1 a1 hg2
  generalize World.alloc _ _ = w2 at hB2 hc2 hr2 ht2 ho2 hk2 hg2s ⊢
  have hspl := packSplit hr2 (by omega)
  rw [hsp] at hspl
  clear hr2
  go_upto_region 4 with (go_at_call 84; refine hspl.mono ?_; rintro e w3 ⟨u3, rfl, hO3, hc3⟩; obtain ⟨U3, m3, rfl, hm3, hmm3⟩ := hO3.shape; have f0 := (hB2.c0 hc3).frozen 0; have f1 := (hB2.c0 hc3).frozen 1; have z0 : w3.cell? ⟨g2, 0, none⟩ = some (.slice none 0 0) := (hB2.c0 hc3).cell 0; have z1 : w3.cell? ⟨g2, 1, none⟩ = some (.int .i64 0) := (hB2.c0 hc3).cell 1)
  have hs3 := hc3.size
  have hB5 := ((hB2.c0 hc3).set_ 0 (.slice U3 (triL l).length m3)).set_ 1 (.int .i64 0)
  simp only [List.setIfInBounds_toArray, List.set_cons_succ, List.set_cons_zero] at hB5
  have hc5 : Chg (fun k => k = g2) w3 ((w3.setCell ⟨g2, 0, none⟩ (.slice U3 (triL l).length m3)).setCell ⟨g2, 1, none⟩ (.int .i64 0)) := ((Chg.refl (fun k => k = g2) w3).setCell (p := ⟨g2, 0, none⟩) (fun _ => rfl) _).setCell (p := ⟨g2, 1, none⟩) (fun _ => rfl) _
  obtain ⟨rs0, hrl, hrow, hps⟩ := hO3.psOf
  rw [hlen3] at hB5 hc5 hrow
  have hrl3 : rs0.length = 3 * l.length := by rw [hrl, hlen3]
  generalize World.setCell _ _ _ = w5 at hB5 hc5 ⊢
  have hs5 := hc5.size
  have hrow5 : RdV w5 (fun b => g2 < b ∧ b < w3.heap.size) 1 (.slice U3 (3 * l.length) m3) rs0.length rs0 := by
    have h := RdV.of_own hrow
    rw [hrl3]
    refine (h.mono (F' := fun b => g2 < b ∧ b < w3.heap.size) fun k hk => ?_).chg hc5 fun k (hk : g2 < k ∧ k < w3.heap.size) (e : k = g2) => by omega
    have := World.ownsRow.lt hrow k hk
    omega
  have hps5 := hps.chg hc5 fun k hk _ e => by subst e; omega
  have hpl5 : ∀ p ∈ rs0.zip (triL l), ∀ k, p.1.ownBlock = some k → k < w3.heap.size := hps.lt
  have hRd5 : RdOk w5 (fun b => g2 < b ∧ b < w3.heap.size) g2 rs0 := ⟨_, hB5, hrow5, fun h => Nat.lt_irrefl _ h.1⟩
  have ht5 := (ht2.c0 hc3).chg hc5 (by omega)
  have ho5 := (ho2.c0 hc3).chg hc5 (by omega)
  have hk5 := (hk2.c0 hc3).chg hc5 (by omega) fun k hk e => by have := hFw k hk; omega
  have hct : Chg (fun k => k = g ∨ k = o) w w5 := ((hc1.mono (S' := fun k => k = g ∨ k = o) fun _ _ h => .inl h).trans0 (hc2.trans0 hc3)).trans hc5 fun k hk e => by omega
  have b0 := hB5.cell 0
  have b1 := hB5.cell 1
  simp at b0 b1
  clear hspl hO3 f0 f1 z0 z1 hB2 hps hrow hrow5 hk2 ht2 ho2 hsp htb hlen3 hrl
  have hmod : ((((3 * l.length : Nat) : Int)).tmod 3 != 0) = false := by
    have : (((3 * l.length : Nat) : Int)).tmod 3 = 0 := by rw [Int.natCast_mul]; exact Int.mul_tmod_right 3 _
    rw [this]; rfl
  go_wp2_with fail
  have hw2 : w.heap.size ≤ w2.heap.size := by omega
  go_loopw [] (fun wr => ∃ (l1 l2 : List WrS) (xs : List (Value × Value)) (rs : List Value) (wv : Value), Hid (l = l1 ++ l2) ∧ xs.length = l1.length ∧ rs.length = 3 * l2.length ∧ RdOk wr (fun b => g2 < b ∧ b < w3.heap.size) g2 rs ∧
    Blk wr o 129 #[c0, c1, c2, c3, c4, wv, c6, c7, c8, c9, c10] ∧ wr.ownsRow w.heap.size 192 3 wv l1.length (flW xs l1) ∧ (∀ k, wv.ownBlock = some k → w3.heap.size ≤ k) ∧
    OwnPs wr w2.heap.size (pcW xs l1 ++ rs.zip (triL l2)) ∧ (∀ p ∈ pcW xs l1 ++ rs.zip (triL l2), ∀ k, p.1.ownBlock = some k → k < w3.heap.size) ∧
    Blk wr t ty #[.pointer (some ⟨o, 0, none⟩)] ∧ RdOk wr F g vs ∧ Chg (fun k => k = g ∨ k = o) w wr ∧ w3.heap.size ≤ wr.heap.size) (fun wr => leftN wr g2)
  case atStart => exact ⟨[], l, [], rs0, _, hide rfl, rfl, hrl3, hRd5, ho5, World.ownsRow_nil _ _ _ 3, fun k hk => by simp [Value.ownBlock] at hk, hps5, hpl5, ht5, hk5, hct, hs5⟩
  case round =>
    clear hps5 hpl5 ht5 ho5 hk5 hct hB5 hRd5 b0 b1 hmod hc5
    obtain ⟨l1, l2, xs, rs, wv, HL, hxl, hrsl, hRd, ho, hrow, hwv, hP, hPl, ht, hk, hct, hsr⟩ := hrel
    have hleft := hRd.left
    have hRd' := hRd
    obtain ⟨v2, hb2, hv2, _⟩ := hRd'
    obtain ⟨V, d, rfl, hd, hdm⟩ := hv2.shape
    have b0 := hb2.cell 0
    have b1 := hb2.cell 1
    simp at b0 b1
    clear hv2 hb2
    rcases l2 with _ | ⟨y, l2⟩
    · have hr0 : rs = [] := List.eq_nil_of_length_eq_zero (by simpa using hrsl)
      subst hr0
      have HL' := hide (show l1 = l by have := HL.out; simpa using this.symm)
      rw [HL'.out] at hxl hrow hP
      have hk' := hk
      obtain ⟨v7, hb7, hv7, hF7⟩ := hk'
      have d1 := hb7.cell 1
      have e1 := hb7.frozen 1
      simp at d1
      have hb8 := hb7.set_ 1 (.int .i64 0)
      simp only [List.setIfInBounds_toArray, List.set_cons_succ, List.set_cons_zero] at hb8
      have hc8 : Chg (fun k => k = g) wr (wr.setCell ⟨g, 1, none⟩ (.int .i64 0)) := (Chg.refl (fun k => k = g) wr).setCell (p := ⟨g, 1, none⟩) (fun _ => rfl) _
      have hlen1 : decide ((0 : Int) < (0 : Int)) = false := rfl
      have ho8 := ho.chg hc8 hog
      have hrow8 := row_chg hrow hc8 fun k hk e => by have := hwv k hk; omega
      have hP8 := (hP.sub (List.sublist_append_left _ _)).chg hc8 fun k hk _ e => by omega
      have hk8 : RdOk (wr.setCell ⟨g, 1, none⟩ (.int .i64 0)) F g vs := ⟨v7, hb8, hv7.chg hc8 fun k hk e => hF7 (e ▸ hk), hF7⟩
      have hct8 : Chg (fun k => k = g ∨ k = o) w (wr.setCell ⟨g, 1, none⟩ (.int .i64 0)) := hct.trans hc8 fun k hk e => .inl e
      have HO8 := hide ho8
      have HR8 := hide hrow8
      have HP8 := hide hP8
      have HK8 := hide hk8
      have HC8 := hide hct8
      clear ho8 hrow8 hP8 hk8 hct8 hc8 hb8 hb7 hv7 ho hrow hP hk hct hRd hleft ht hPl
      go_wp2_with fail
      exact bodyPost_end (results_none rfl _ _ _) rfl ⟨rfl, wv, xs, hxl, HO8.out, HR8.out, HP8.out.low hw2, HK8.out, HC8.out⟩
    · obtain ⟨f, a, b, rs, rfl⟩ : ∃ f a b rs', rs = f :: a :: b :: rs' := by
        match rs, hrsl with
        | [], h => simp at h
        | [x], h => simp at h; omega
        | [x, y], h => simp at h; omega
        | f :: a :: b :: rs', _ => exact ⟨f, a, b, rs', rfl⟩
      have hll : l1.length + (l2.length + 1) ≤ 1048576 := by
        have := congrArg List.length HL.out
        simp only [List.length_append, List.length_cons] at this
        omega
      have hrs' : rs.length = 3 * l2.length := by simp at hrsl; omega
      rw [triL_cons] at hP hPl
      simp only [List.zip_cons_cons] at hP hPl
      have of : OwnB wr w2.heap.size f (flB y.f) := hP.1 (f, flB y.f) (by simp)
      have oa : OwnB wr w2.heap.size a y.a := hP.1 (a, y.a) (by simp)
      have ob : OwnB wr w2.heap.size b y.b := hP.1 (b, y.b) (by simp)
      have hP' := hP.sub (qs := pcW xs l1 ++ (a, y.a) :: (b, y.b) :: rs.zip (triL l2)) (List.Sublist.append (List.Sublist.refl _) (List.sublist_cons_self _ _))
      have hPl' : ∀ p ∈ pcW xs l1 ++ (a, y.a) :: (b, y.b) :: rs.zip (triL l2), ∀ k, p.1.ownBlock = some k → k < w3.heap.size := fun p hp => hPl p (by
        rcases List.mem_append.1 hp with h | h
        · exact List.mem_append_left _ h
        · exact List.mem_append_right _ (List.mem_cons_of_mem _ h))
      have htr := recTruthR hRd of.rd (fun e => by have := (of.lt _ e).1; omega) (by simp; omega)
      have hlen2 : (0 : Int) < (((f :: a :: b :: rs).length : Nat) : Int) := by simp; omega
      have hlen1 : decide ((0 : Int) < (((f :: a :: b :: rs).length : Nat) : Int)) = true := decide_eq_true hlen2
      have HLEFT := hide hleft
      obtain ⟨sa1, sa2, sa3, rfl⟩ := oa.sl
      obtain ⟨sb1, sb2, sb3, rfl⟩ := ob.sl
      clear of hP hPl hleft
      go_wp2_with fail
      refine htr.mono ?_
      rintro e w6 ⟨rfl, hRd6, hc6⟩
      have hn6 := recNext hRd6 ⟨_, _, _, rfl⟩ (by simp; omega)
      clear htr hlen1 hlen2 b0 b1
      go_wp2_with fail
      refine hn6.mono ?_
      rintro e w7 ⟨rfl, hRd7, hc7⟩
      have hn7 := recNext hRd7 ⟨_, _, _, rfl⟩ (by omega)
      clear hn6
      go_wp2_with fail
      refine hn7.mono ?_
      rintro e w8 ⟨rfl, hRd8, hc8⟩
      have hc68 : Chg (fun k => k = g2) wr w8 := (hc6.trans hc7 fun _ _ h => h).trans hc8 fun _ _ h => h
      have hs8 := hc68.size
      have ho8 := ho.chg hc68 (by omega)
      have ht8 := ht.chg hc68 (by omega)
      have hk8 := hk.chg hc68 (by omega) fun k hk e => by have := hFw k hk; omega
      have hrow8 := row_chg hrow hc68 fun k hk e => by have := hwv k hk; omega
      have hP8 := hP'.chg hc68 fun k hk _ e => by omega
      have htake := recTakeR (a := .slice sa1 sa2 sa3) (b := .slice sb1 sb2 sb3) (f := y.f) ht8 ho8 hrow8 ⟨_, _, _, rfl⟩ ⟨_, _, _, rfl⟩ (by omega) (by omega) hol (fun e => by have := hwv t e.symm; omega)
      clear hn7 hRd6 hRd7 hc6 hc7 hc8 ho ht hk hrow hP' oa ob hRd
      go_wp2_with fail
      refine htake.mono ?_
      rintro e w9 ⟨rfl, v9, ho9, hrow9, hc9, hv9⟩
      clear htake
      have hs9 := hc9.size
      have hRd9 := hRd8.chg hc9 (by rintro (e | e) <;> first | omega | (have := hwv g2 e.symm; omega)) fun k hk => by rintro (e | e) <;> first | omega | (have := hwv k e.symm; omega)
      have hP9 := hP8.chg' hc9 fun p hp k hk => by
        have h1 := hPl' p hp k hk
        have h2 := ((hP8.1 p hp).lt k hk).1
        rintro (e | e)
        · omega
        · have := hwv k e.symm; omega
      have ht9 := ht8.chg hc9 (by rintro (e | e) <;> first | exact hto e | (have := hwv t e.symm; omega))
      have hk9 := hk8.chg hc9 (by rintro (e | e) <;> first | exact hog e.symm | (have := hwv g e.symm; omega)) fun k hk => by
        have := hFw k hk
        rintro (e | e)
        · exact this.2 e
        · have := hwv k e.symm; omega
      have hct9 : Chg (fun k => k = g ∨ k = o) w w9 := (hct.trans hc68 fun k hk e => by omega).trans hc9 fun k hk => by
        rintro (e | e)
        · exact .inr e
        · have := hwv k e.symm; omega
      have HPC := hide (pcW_snoc xs l1 (.slice sa1 sa2 sa3, .slice sb1 sb2 sb3) y hxl)
      have HFL := hide (flW_snoc xs l1 (.slice sa1 sa2 sa3, .slice sb1 sb2 sb3) y hxl)
      have hl9 := hRd9.left
      go_wp2_with fail
      go_roundw
      case rel =>
        refine ⟨l1 ++ [y], l2, xs ++ [(.slice sa1 sa2 sa3, .slice sb1 sb2 sb3)], rs, v9, hide (by rw [HL.out, List.append_assoc]; rfl), by simp [hxl], hrs', hRd9, ho9, ?_, fun k hk => ?_, ?_, ?_, ht9, hk9, hct9, by omega⟩
        · rw [HFL.out, List.length_append]; exact hrow9
        · rcases hv9 with h | h
          · rw [h] at hk; exact hwv k hk
          · have := h k hk; omega
        · rw [HPC.out, List.append_assoc]; exact hP9
        · rw [HPC.out, List.append_assoc]; exact hPl'
      case measure => rw [hl9, HLEFT.out]; simp; omega
end Go.Proofs.Ytncchbcoldgpbaa

namespace Go.Proofs.Ytncchbcoldgpbaa
open Go.RowKit
set_option linter.unusedVariables false

/-- what comes next is nothing, and an error stands behind it -/
def RdBad (w : World) (g : Nat) : Prop := ∃ er, g < w.heap.size ∧ ∀ w', Chg Non w w' → Calls Try.prog 97 #[.pointer (some ⟨g, 0, none⟩)] w' fun e w'' => e = .returned (.slice none 0 0) ∧ RdErr w'' g er ∧ Chg (fun k => k = g) w' w''
theorem RdErr.bad {w : World} {g : Nat} {er : Int} (h : RdErr w g er) : RdBad w g := ⟨er, h.blk, fun w' hc => (recNextE (h.c0 hc)).mono fun e w'' ⟨h1, h2⟩ => ⟨h1, by rw [h2]; exact h.c0 hc, by rw [h2]; exact Chg.refl _ _⟩⟩
theorem RdOk.bad {w : World} {F : Nat → Prop} {g : Nat} (h : RdOk w F g []) : RdBad w g := ⟨3, h.blk, fun w' hc => recNextX (h.c0 hc)⟩
theorem RdBad.c0 {w w' : World} {g : Nat} (h : RdBad w g) (hc : Chg Non w w') : RdBad w' g := by
  obtain ⟨er, h0, h1⟩ := h
  exact ⟨er, Nat.lt_of_lt_of_le h0 hc.size, fun w'' hc' => h1 w'' (hc.trans0 hc')⟩

set_option maxHeartbeats 4000000 in
set_option maxRecDepth 100000 in
theorem recSomeB {w : World} {g : Nat} {n : Nat} (h : RdBad w g) (hn : n ≤ 1000) :
    Calls Try.prog 99 #[.pointer (some ⟨g, 0, none⟩), .int .i64 (n : Int)] w fun e w' => ∃ a er, e = .returned (.slice (some ⟨a, 0, none⟩) n n) ∧ w.heap.size ≤ a ∧ Blk w' a 22 (madeCells #[.int .u64 0] n) ∧ RdErr w' g er ∧ Chg (fun k => k = g) w w' := by
  have hmk := run_mk64 n hn
  obtain ⟨er, hg, hn1⟩ := h
  have HN := hide hn1
  clear hn1
  go_enter Try.func99, Try.ntmps99
  go_upto_region 1 with fail
  go_cut [5, 6, 7] from 13 (fun v5 v6 v7 wx => v5 = .slice none 0 0 ∧ v6 = .int .i64 0 ∧ ∃ a, v7 = .slice (some ⟨a, 0, none⟩) n n ∧ w.heap.size ≤ a ∧ Blk wx a 22 (madeCells #[.int .u64 0] n) ∧ RdErr wx g er ∧ Chg (fun k => k = g) w wx)
  case first =>
    go_region_law (first
      | (go_simp; go_at_call 97; refine (HN.out _ ((Chg.refl Non w).drew)).mono ?_; rintro e w1 ⟨rfl, hk1, hc1⟩)
      | (go_simp; go_at_call 97; refine (HN.out _ ((Chg.refl Non w).drew.alloc _)).mono ?_; rintro e w1 ⟨rfl, hk1, hc1⟩))
    · (try simp only [List.getElem_toArray, List.getElem_cons_zero, List.getElem_cons_succ, Act.put, List.setIfInBounds_toArray, List.set_cons_zero, List.set_cons_succ])
      have hB := Blk.new w1 22 (madeCells #[.int .u64 0] n)
      have hs' : w.heap.size ≤ w1.heap.size := hc1.size
      have hk2 := hk1.c0 ((Chg.refl Non w1).alloc (.cells (madeCells #[.int .u64 0] n) 22))
      have hc2 : Chg (fun k => k = g) w (w1.alloc (.cells (madeCells #[.int .u64 0] n) 22)) := ((Chg.refl (fun k => k = g) w).drew).trans (hc1.alloc _) fun _ _ h => h
      generalize World.alloc _ _ = w2 at hB hk2 hc2 ⊢
      go_wp2_with fail
      go_meet
      exact ⟨rfl, rfl, _, rfl, hs', hB, hk2, hc2⟩
    · (try simp only [List.getElem_toArray, List.getElem_cons_zero, List.getElem_cons_succ, Act.put, List.setIfInBounds_toArray, List.set_cons_zero, List.set_cons_succ])
      have hB := (Blk.new w.drew 22 (madeCells #[.int .u64 0] n)).chg hc1 (fun e => by have : w.drew.heap.size = w.heap.size := rfl; omega)
      have hc2 : Chg (fun k => k = g) w w1 := ((Chg.refl (fun k => k = g) w).drew.alloc _).trans hc1 fun _ _ h => h
      go_wp2_with fail
      go_meet
      exact ⟨rfl, rfl, _, rfl, Nat.le_refl _, hB, hk1, hc2⟩
  case rest =>
    obtain ⟨rfl, rfl, a, rfl, ha, hB, hE, hc⟩ := hcut
    have HE := hide hE
    obtain ⟨v, hb, he⟩ := hE
    clear HN hmk
    have e1 : (er == 0) = false := beq_eq_false_iff_ne.2 he
    go_wp2_with fail
    go_loopw [15] (fun iv wr => ∃ k, k ≤ n ∧ iv = .int .i64 (k : Int) ∧ wr = wc) (fun iv _ => n - (intOf iv).toNat)
    case atStart => exact ⟨0, Nat.zero_le _, rfl, rfl⟩
    case round =>
      obtain ⟨k, hk, rfl, rfl⟩ := hrel
      have c1 := hb.cell 1
      simp at c1
      by_cases h1 : k < n
      · clear hB hb
        go_wp2_with fail
        go_roundw
        case rel => exact ⟨k + 1, by omega, by go_num, trivial⟩
        case measure => simp [intOf]; omega
      · clear hb
        have HB := hide hB
        clear hB
        go_wp2_with fail
        go_ret
        exact ⟨a, er, rfl, ha, HB.out, HE.out, hc⟩
set_option maxHeartbeats 4000000 in
theorem recTruthB {w : World} {g : Nat} (h : RdBad w g) :
    Calls Try.prog 103 #[.pointer (some ⟨g, 0, none⟩)] w fun e w' => ∃ er, e = .returned (.bool false) ∧ RdErr w' g er ∧ Chg (fun k => k = g) w w' := by
  obtain ⟨er, hg, hn⟩ := h
  have hn := hn w (Chg.refl _ _)
  go_enter Try.func103, Try.ntmps103
  go_wp2_with fail
  refine hn.mono ?_
  rintro e w1 ⟨rfl, hE, hc⟩
  have HE := hide hE
  obtain ⟨v, hb, he⟩ := hE
  have c1 := hb.cell 1
  simp at c1
  have e1 : (er == 0) = false := beq_eq_false_iff_ne.2 he
  clear hb
  go_wp2_with fail
  go_ret
  exact ⟨er, rfl, HE.out, hc⟩
set_option maxHeartbeats 4000000 in
theorem recAllB {w : World} {g : Nat} (h : RdBad w g) :
    Calls Try.prog 104 #[.pointer (some ⟨g, 0, none⟩)] w fun e w' => ∃ er, e = .returned (.slice none 0 0) ∧ RdErr w' g er ∧ Chg (fun k => k = g) w w' := by
  obtain ⟨er, hg, hn⟩ := h
  have hn := hn w (Chg.refl _ _)
  go_enter Try.func104, Try.ntmps104
  go_wp2_with fail
  refine hn.mono ?_
  rintro e w1 ⟨rfl, hE, hc⟩
  have HE := hide hE
  obtain ⟨v, hb, he⟩ := hE
  have c1 := hb.cell 1
  simp at c1
  have e1 : (er == 0) = false := beq_eq_false_iff_ne.2 he
  clear hb
  go_wp2_with fail
  refine wp_loop_rounds 1 ?_
  rw [rounds_succ]
  go_wp2_with fail
  go_ret
  exact ⟨er, rfl, HE.out, hc⟩
set_option maxHeartbeats 4000000 in
theorem recTriB {w : World} {g : Nat} {fv : Value} (h : RdBad w g) :
    Calls Try.prog 100 #[.pointer (some ⟨g, 0, none⟩), fv] w fun e w' => ∃ er, e = .returned (.tuple #[]) ∧ RdErr w' g er ∧ Chg (fun k => k = g) w w' := by
  obtain ⟨er, hg, hn⟩ := h
  have hn := hn w (Chg.refl _ _)
  go_enter Try.func100, Try.ntmps100
  go_wp2_with fail
  refine hn.mono ?_
  rintro e w1 ⟨rfl, hE, hc⟩
  have HE := hide hE
  obtain ⟨v, hb, he⟩ := hE
  have c1 := hb.cell 1
  simp at c1
  have e1 : (er != 0) = true := by simp [he]
  clear hb
  go_wp2_with fail
  exact bodyPost_ret (results_none rfl _ _ _) rfl ⟨er, rfl, HE.out, hc⟩
end Go.Proofs.Ytncchbcoldgpbaa

namespace Go.Proofs.Ytncchbcoldgpbaa
open Go.RowKit
set_option linter.unusedVariables false

/-- stores into one block -/
theorem stored1 {w : World} {g : Nat} {t : TypeId} {cs : Array Value} (h : Blk w g t cs) (i : Nat) (u : Value) : Blk (w.setCell ⟨g, i, none⟩ u) g t (cs.setIfInBounds i u) ∧ Chg (fun k => k = g) w (w.setCell ⟨g, i, none⟩ u) :=
  ⟨h.set_ i u, (Chg.refl (fun k => k = g) w).setCell (p := ⟨g, i, none⟩) (fun _ => rfl) u⟩
theorem stored3 {w : World} {g : Nat} {t : TypeId} {cs : Array Value} (h : Blk w g t cs) (i j k : Nat) (u v x : Value) :
    Blk (((w.setCell ⟨g, i, none⟩ u).setCell ⟨g, j, none⟩ v).setCell ⟨g, k, none⟩ x) g t (((cs.setIfInBounds i u).setIfInBounds j v).setIfInBounds k x) ∧ Chg (fun k => k = g) w (((w.setCell ⟨g, i, none⟩ u).setCell ⟨g, j, none⟩ v).setCell ⟨g, k, none⟩ x) := by
  obtain ⟨h1, k1⟩ := stored1 h i u
  obtain ⟨h2, k2⟩ := stored1 h1 j v
  obtain ⟨h3, k3⟩ := stored1 h2 k x
  exact ⟨h3, (k1.trans k2 fun _ _ h => h).trans k3 fun _ _ h => h⟩
theorem run_nm {w : World} {F : Nat → Prop} {v : Value} {s : ByteArray} (h : RdB w F v (nmB s)) : (convert 26 9 v).run Try.prog w = .ok (.string s) w := run_str h
theorem row_low {w : World} {base b sz n : Nat} {e : TypeId} {v : Value} {xs : List Value} (h : w.ownsRow base e sz v n xs) (hb : b ≤ base) : w.ownsRow b e sz v n xs := by
  refine ⟨h.1, ?_⟩
  rcases h.2 with hn | ⟨g', cap, cur, rfl, hg, rest⟩
  · exact .inl hn
  · exact .inr ⟨g', cap, cur, rfl, by omega, rest⟩
theorem fieldEnd2 {w w0 w1 w2 : World} {F : Nat → Prop} {g o : Nat} {vs : List Value} {cs : Array Value} (hk0 : Chg Non w w0) (hc1 : Chg (fun k => k = g) w0 w1) (hRd : RdOk w1 F g vs)
    (hco : Chg (fun k => k = o) w1 w2) (hbo : Blk w2 o 129 cs) (hog : o ≠ g) (hol : o < w.heap.size) (hFw : ∀ k, F k → k < w.heap.size ∧ k ≠ o) :
    Ending.returned (.tuple #[]) = .returned (.tuple #[]) ∧ Blk w2 o 129 cs ∧ RdOk w2 F g vs ∧ Chg (fun k => k = g ∨ k = o) w w2 := by
  refine ⟨rfl, hbo, hRd.chg hco (fun e => hog e.symm) fun k hk e => (hFw k hk).2 e, ?_⟩
  exact ((hk0.mono (S' := fun k => k = g ∨ k = o) fun _ _ h => h.elim).trans hc1 fun _ _ h => .inl h).trans hco fun _ _ h => .inr h
/-- what a field leaves behind -/
theorem fieldEnd {w w0 w1 w2 : World} {F : Nat → Prop} {g o : Nat} {vs : List Value} {cs : Array Value} (hk0 : Chg Non w w0) (hc1 : Chg (fun k => k = g) w0 w1) (hRd : RdOk w1 F g vs)
    (hco : Chg (fun k => k = o) w1.drew w2) (hbo : Blk w2 o 129 cs) (hog : o ≠ g) (hol : o < w.heap.size) (hFw : ∀ k, F k → k < w.heap.size ∧ k ≠ o) :
    Ending.returned (.tuple #[]) = .returned (.tuple #[]) ∧ Blk w2 o 129 cs ∧ RdOk w2 F g vs ∧ Chg (fun k => k = g ∨ k = o) w w2 := by
  have hd : Chg Non w1 w1.drew := (Chg.refl Non w1).drew
  refine ⟨rfl, hbo, (hRd.c0 hd).chg hco (fun e => hog e.symm) fun k hk e => (hFw k hk).2 e, ?_⟩
  exact (((hk0.mono (S' := fun k => k = g ∨ k = o) fun _ _ h => h.elim).trans hc1 fun _ _ h => .inl h).trans0 hd).trans hco fun _ _ h => .inr h


set_option maxHeartbeats 8000000 in
set_option maxRecDepth 100000 in
theorem recFieldT {w : World} {F G : Nat → Prop} {g o : Nat} {p : Value} {vs : List Value} {c0 c1 c2 c3 c4 c5 c6 c7 c8 c9 c10 : Value}  (h : RdOk w F g (p :: vs)) (hG : ¬ G g) (hl : vs.length ≤ 1000000000000) (hFw : ∀ k, F k → k < w.heap.size ∧ k ≠ o)
    (ho : Blk w o 129 #[c0, c1, c2, c3, c4, c5, c6, c7, c8, c9, c10]) (hog : o ≠ g) {a b c : Nat} (hr : RdB w G p (numB a ++ (numB b ++ numB c))) (ha : U64 a) (hb : U64 b) (hc : U64 c) :
    Calls Try.prog 98 #[.pointer (some ⟨g, 0, none⟩), .pointer (some ⟨o, 0, none⟩), .int .i32 84] w fun e w' => e = .returned (.tuple #[]) ∧ Blk w' o 129 #[c0, .int .u64 (a : Int), .int .u64 (b : Int), .int .u64 (c : Int), c4, c5, c6, c7, c8, c9, c10] ∧ RdOk w' F g vs ∧ Chg (fun k => k = g ∨ k = o) w w' := by
  have hg := h.blk
  have hol := ho.lt
  have hb0 := Blk.new w 207 #[.pointer (some ⟨o, 0, none⟩)]
  have hk0 := (Chg.refl Non w).alloc (.cells #[.pointer (some ⟨o, 0, none⟩)] 207)
  have h0 := h.c0 hk0
  have ho0 := ho.c0 hk0
  have hr0 := hr.c0 hk0
  clear h ho hr
  go_enter Try.func98, Try.ntmps98
  go_upto_region 1 with fail
  have hsz : (w.alloc (.cells #[.pointer (some ⟨o, 0, none⟩)] 207)).heap.size = w.heap.size + 1 := by simp
  generalize World.alloc _ _ = w0 at hb0 hk0 h0 ho0 hr0 hsz ⊢
  have hF0 : ∀ k, F k → k < w0.heap.size := fun k hk => by have := hFw k hk; omega
  rw [← numsB3] at hr0
  have hs := recSome (ns := [a, b, c]) h0 hr0 hG hl (by simp [ha, hb, hc]) (by simp) hF0
  rw [show (([a, b, c].length : Nat) : Int) = 3 from rfl] at hs
  go_wp2_with fail
  refine hs.mono ?_
  rintro e w1 ⟨q, rfl, hq, hB, hRd, hc1⟩
  have hs1 := hc1.size
  have ho1 := ho0.chg hc1 hog
  have hb1 := hb0.chg hc1 (by omega)
  have t0 := hb1.cell 0
  have q0 : w1.cell? ⟨q, 0, none⟩ = some (.int .u64 (a : Int)) := hB.cell 0
  have q1 : w1.cell? ⟨q, 1, none⟩ = some (.int .u64 (b : Int)) := hB.cell 1
  have q2 : w1.cell? ⟨q, 2, none⟩ = some (.int .u64 (c : Int)) := hB.cell 2
  have o1 := ho1.cell 1
  have o2 := ho1.cell 2
  have o3 := ho1.cell 3
  have f1 := ho1.frozen 1
  have f2 := ho1.frozen 2
  have f3 := ho1.frozen 3
  simp at t0 o1 o2 o3
  clear hs hB
  go_upto_region 5 with fail
  go_still_tail 11, (by kernel_rfl)
  change wpList _ _ _ _ _ w1.drew
  have HX := hide (stored3 (w := w1.drew) ho1 1 2 3 (.int .u64 (a : Int)) (.int .u64 (b : Int)) (.int .u64 (c : Int)))
  go_wp2_with fail
  obtain ⟨hbo, hco⟩ := HX.out
  simp only [List.setIfInBounds_toArray, List.set_cons_succ, List.set_cons_zero] at hbo
  exact bodyPost_end (results_none rfl _ _ _) rfl (fieldEnd hk0 hc1 hRd hco hbo hog hol hFw)

set_option maxHeartbeats 8000000 in
set_option maxRecDepth 100000 in
theorem recFieldC {w : World} {F G : Nat → Prop} {g o : Nat} {p : Value} {vs : List Value} {c0 c1 c2 c3 c4 c5 c6 c7 c8 c9 c10 : Value}  (h : RdOk w F g (p :: vs)) (hG : ¬ G g) (hl : vs.length ≤ 1000000000000) (hFw : ∀ k, F k → k < w.heap.size ∧ k ≠ o)
    (ho : Blk w o 129 #[c0, c1, c2, c3, c4, c5, c6, c7, c8, c9, c10]) (hog : o ≠ g) {b : Bool} (hr : RdB w G p (flB b)) :
    Calls Try.prog 98 #[.pointer (some ⟨g, 0, none⟩), .pointer (some ⟨o, 0, none⟩), .int .i32 67] w fun e w' => e = .returned (.tuple #[]) ∧ Blk w' o 129 #[c0, c1, c2, c3, c4, c5, .bool b, c7, c8, c9, c10] ∧ RdOk w' F g vs ∧ Chg (fun k => k = g ∨ k = o) w w' := by
  have hg := h.blk
  have hol := ho.lt
  have hb0 := Blk.new w 207 #[.pointer (some ⟨o, 0, none⟩)]
  have hk0 := (Chg.refl Non w).alloc (.cells #[.pointer (some ⟨o, 0, none⟩)] 207)
  have h0 := h.c0 hk0
  have ho0 := ho.c0 hk0
  have hr0 := hr.c0 hk0
  clear h ho hr
  go_enter Try.func98, Try.ntmps98
  go_upto_region 1 with fail
  have hsz : (w.alloc (.cells #[.pointer (some ⟨o, 0, none⟩)] 207)).heap.size = w.heap.size + 1 := by simp
  generalize World.alloc _ _ = w0 at hb0 hk0 h0 ho0 hr0 hsz ⊢
  have hF0 : ∀ k, F k → k < w0.heap.size := fun k hk => by have := hFw k hk; omega
  have hkd := hk0.drew
  have hd : Chg Non w0 w0.drew := (Chg.refl Non w0).drew
  have h0 := h0.c0 hd
  have hr0 := hr0.c0 hd
  have t0 : w0.drew.cell? ⟨w.heap.size, 0, none⟩ = some (.pointer (some ⟨o, 0, none⟩)) := hb0.cell 0
  have t0' : w0.cell? ⟨w.heap.size, 0, none⟩ = some (.pointer (some ⟨o, 0, none⟩)) := t0
  have htg : ¬ (w.heap.size = g) := by omega
  have HC := hide (recTruthR h0 hr0 hG hl)
  go_upto_region 11 with fail
  go_region_law (first
    | (go_simp; go_at_call 103; refine HC.out.mono ?_; rintro e w1 ⟨rfl, hRd, hc1⟩; have t0 := hc1.cell t0 htg; have ho1 := (ho0.c0 hd).chg hc1 hog; have o1 := ho1.cell 6; have f1 := ho1.frozen 6))
  all_goals
    have HX := hide (stored1 ho1 6 (.bool b))
    (try simp only [List.getElem_toArray, List.getElem_cons_zero, List.getElem_cons_succ, Act.put, List.setIfInBounds_toArray, List.set_cons_zero, List.set_cons_succ])
    simp only [List.getElem?_toArray, List.getElem?_cons_succ, List.getElem?_cons_zero] at o1
    go_wp2_with fail
    obtain ⟨hbo, hco⟩ := HX.out
    simp only [List.setIfInBounds_toArray, List.set_cons_succ, List.set_cons_zero] at hbo
    exact bodyPost_end (results_none rfl _ _ _) rfl (fieldEnd2 hkd hc1 hRd hco hbo hog hol hFw)

set_option maxHeartbeats 8000000 in
set_option maxRecDepth 100000 in
theorem recFieldA {w : World} {F G : Nat → Prop} {g o : Nat} {p : Value} {vs : List Value} {c0 c1 c2 c3 c4 c5 c6 c7 c8 c9 c10 : Value}  (h : RdOk w F g (p :: vs)) (hG : ¬ G g) (hl : vs.length ≤ 1000000000000) (hFw : ∀ k, F k → k < w.heap.size ∧ k ≠ o)
    (ho : Blk w o 129 #[c0, c1, c2, c3, c4, c5, c6, c7, c8, c9, c10]) (hog : o ≠ g) (hr : ∃ A n c, p = .slice A n c) :
    Calls Try.prog 98 #[.pointer (some ⟨g, 0, none⟩), .pointer (some ⟨o, 0, none⟩), .int .i32 65] w fun e w' => e = .returned (.tuple #[]) ∧ Blk w' o 129 #[c0, c1, c2, c3, c4, c5, c6, c7, p, c9, c10] ∧ RdOk w' F g vs ∧ Chg (fun k => k = g ∨ k = o) w w' := by
  have hg := h.blk
  have hol := ho.lt
  have hb0 := Blk.new w 207 #[.pointer (some ⟨o, 0, none⟩)]
  have hk0 := (Chg.refl Non w).alloc (.cells #[.pointer (some ⟨o, 0, none⟩)] 207)
  have h0 := h.c0 hk0
  have ho0 := ho.c0 hk0
  obtain ⟨P, pn, pc, rfl⟩ := hr
  clear h ho
  go_enter Try.func98, Try.ntmps98
  go_upto_region 1 with fail
  have hsz : (w.alloc (.cells #[.pointer (some ⟨o, 0, none⟩)] 207)).heap.size = w.heap.size + 1 := by simp
  generalize World.alloc _ _ = w0 at hb0 hk0 h0 ho0 hsz ⊢
  have hF0 : ∀ k, F k → k < w0.heap.size := fun k hk => by have := hFw k hk; omega
  have hkd := hk0.drew
  have hd : Chg Non w0 w0.drew := (Chg.refl Non w0).drew
  have h0 := h0.c0 hd
  have t0 : w0.drew.cell? ⟨w.heap.size, 0, none⟩ = some (.pointer (some ⟨o, 0, none⟩)) := hb0.cell 0
  have t0' : w0.cell? ⟨w.heap.size, 0, none⟩ = some (.pointer (some ⟨o, 0, none⟩)) := t0
  have htg : ¬ (w.heap.size = g) := by omega
  have HC := hide (recNext h0 ⟨_, _, _, rfl⟩ hl)
  go_upto_region 19 with fail
  go_region_law (first
    | (go_simp; go_at_call 97; refine HC.out.mono ?_; rintro e w1 ⟨rfl, hRd, hc1⟩; have t0 := hc1.cell t0 htg; have ho1 := (ho0.c0 hd).chg hc1 hog; have o1 := ho1.cell 8; have f1 := ho1.frozen 8))
  all_goals
    have HX := hide (stored1 ho1 8 (.slice P pn pc))
    (try simp only [List.getElem_toArray, List.getElem_cons_zero, List.getElem_cons_succ, Act.put, List.setIfInBounds_toArray, List.set_cons_zero, List.set_cons_succ])
    simp only [List.getElem?_toArray, List.getElem?_cons_succ, List.getElem?_cons_zero] at o1
    go_wp2_with fail
    obtain ⟨hbo, hco⟩ := HX.out
    simp only [List.setIfInBounds_toArray, List.set_cons_succ, List.set_cons_zero] at hbo
    exact bodyPost_end (results_none rfl _ _ _) rfl (fieldEnd2 hkd hc1 hRd hco hbo hog hol hFw)

set_option maxHeartbeats 8000000 in
set_option maxRecDepth 100000 in
theorem recFieldN {w : World} {F G : Nat → Prop} {g o : Nat} {p : Value} {vs : List Value} {c0 c1 c2 c3 c4 c5 c6 c7 c8 c9 c10 : Value}  (h : RdOk w F g (p :: vs)) (hG : ¬ G g) (hl : vs.length ≤ 1000000000000) (hFw : ∀ k, F k → k < w.heap.size ∧ k ≠ o)
    (ho : Blk w o 129 #[c0, c1, c2, c3, c4, c5, c6, c7, c8, c9, c10]) (hog : o ≠ g) {s : ByteArray} (hr : RdB w G p (nmB s)) :
    Calls Try.prog 98 #[.pointer (some ⟨g, 0, none⟩), .pointer (some ⟨o, 0, none⟩), .int .i32 78] w fun e w' => e = .returned (.tuple #[]) ∧ Blk w' o 129 #[c0, c1, c2, c3, c4, c5, c6, c7, c8, c9, .string s] ∧ RdOk w' F g vs ∧ Chg (fun k => k = g ∨ k = o) w w' := by
  have hg := h.blk
  have hol := ho.lt
  have hb0 := Blk.new w 207 #[.pointer (some ⟨o, 0, none⟩)]
  have hk0 := (Chg.refl Non w).alloc (.cells #[.pointer (some ⟨o, 0, none⟩)] 207)
  have h0 := h.c0 hk0
  have ho0 := ho.c0 hk0
  have hr0 := hr.c0 hk0
  clear h ho hr
  go_enter Try.func98, Try.ntmps98
  go_upto_region 1 with fail
  have hsz : (w.alloc (.cells #[.pointer (some ⟨o, 0, none⟩)] 207)).heap.size = w.heap.size + 1 := by simp
  generalize World.alloc _ _ = w0 at hb0 hk0 h0 ho0 hr0 hsz ⊢
  have hF0 : ∀ k, F k → k < w0.heap.size := fun k hk => by have := hFw k hk; omega
  have hkd := hk0.drew
  have hd : Chg Non w0 w0.drew := (Chg.refl Non w0).drew
  have h0 := h0.c0 hd
  have hr0 := hr0.c0 hd
  have t0 : w0.drew.cell? ⟨w.heap.size, 0, none⟩ = some (.pointer (some ⟨o, 0, none⟩)) := hb0.cell 0
  have t0' : w0.cell? ⟨w.heap.size, 0, none⟩ = some (.pointer (some ⟨o, 0, none⟩)) := t0
  have htg : ¬ (w.heap.size = g) := by omega
  have HC := hide (recNext h0 hr0.sl hl)
  go_upto_region 2 with fail
  go_region_law (first
    | (go_simp; go_at_call 97; refine HC.out.mono ?_; rintro e w1 ⟨rfl, hRd, hc1⟩; have t0 := hc1.cell t0 htg; have ho1 := (ho0.c0 hd).chg hc1 hog; have o1 := ho1.cell 10; have f1 := ho1.frozen 10; have hcv := run_nm (hr0.chg hc1 (fun k hk e => hG (e ▸ hk)))))
  all_goals
    have HX := hide (stored1 ho1 10 (.string s))
    (try simp only [List.getElem_toArray, List.getElem_cons_zero, List.getElem_cons_succ, Act.put, List.setIfInBounds_toArray, List.set_cons_zero, List.set_cons_succ])
    simp only [List.getElem?_toArray, List.getElem?_cons_succ, List.getElem?_cons_zero] at o1
    go_wp2_with fail
    obtain ⟨hbo, hco⟩ := HX.out
    simp only [List.setIfInBounds_toArray, List.set_cons_succ, List.set_cons_zero] at hbo
    exact bodyPost_end (results_none rfl _ _ _) rfl (fieldEnd2 hkd hc1 hRd hco hbo hog hol hFw)

set_option maxHeartbeats 8000000 in
set_option maxRecDepth 100000 in
theorem recFieldI {w : World} {F G : Nat → Prop} {g o : Nat} {p : Value} {vs : List Value} {c0 c1 c2 c3 c4 c5 c6 c7 c8 c9 c10 : Value}  (h : RdOk w F g (p :: vs)) (hG : ¬ G g) (hl : vs.length ≤ 1000000000000) (hFw : ∀ k, F k → k < w.heap.size ∧ k ≠ o)
    (ho : Blk w o 129 #[c0, c1, c2, c3, c4, c5, c6, c7, c8, c9, c10]) (hog : o ≠ g) {n : Nat} (hr : RdB w G p (numB n)) (hn : U64 n) :
    Calls Try.prog 98 #[.pointer (some ⟨g, 0, none⟩), .pointer (some ⟨o, 0, none⟩), .int .i32 73] w fun e w' => e = .returned (.tuple #[]) ∧ Blk w' o 129 #[c0, c1, c2, c3, c4, c5, c6, c7, c8, .int .u64 (n : Int), c10] ∧ RdOk w' F g vs ∧ Chg (fun k => k = g ∨ k = o) w w' := by
  have hg := h.blk
  have hol := ho.lt
  have hb0 := Blk.new w 207 #[.pointer (some ⟨o, 0, none⟩)]
  have hk0 := (Chg.refl Non w).alloc (.cells #[.pointer (some ⟨o, 0, none⟩)] 207)
  have h0 := h.c0 hk0
  have ho0 := ho.c0 hk0
  have hr0 := hr.c0 hk0
  clear h ho hr
  go_enter Try.func98, Try.ntmps98
  go_upto_region 1 with fail
  have hsz : (w.alloc (.cells #[.pointer (some ⟨o, 0, none⟩)] 207)).heap.size = w.heap.size + 1 := by simp
  generalize World.alloc _ _ = w0 at hb0 hk0 h0 ho0 hr0 hsz ⊢
  have hF0 : ∀ k, F k → k < w0.heap.size := fun k hk => by have := hFw k hk; omega
  have hkd := hk0.drew
  have hd : Chg Non w0 w0.drew := (Chg.refl Non w0).drew
  have h0 := h0.c0 hd
  have hr0 := hr0.c0 hd
  have t0 : w0.drew.cell? ⟨w.heap.size, 0, none⟩ = some (.pointer (some ⟨o, 0, none⟩)) := hb0.cell 0
  have t0' : w0.cell? ⟨w.heap.size, 0, none⟩ = some (.pointer (some ⟨o, 0, none⟩)) := t0
  have htg : ¬ (w.heap.size = g) := by omega
  rw [← numsB1] at hr0
  have hs := recSome (ns := [n]) h0 hr0 hG hl (by simp [hn]) (by simp) hF0
  rw [show (([n].length : Nat) : Int) = 1 from rfl] at hs
  have HC := hide (hs)
  go_upto_region 21 with fail
  go_region_law (first
    | (go_simp; go_at_call 99; refine HC.out.mono ?_; rintro e w1 ⟨q, rfl, hq, hB, hRd, hc1⟩; have t0 := hc1.cell t0 htg; have ho1 := (ho0.c0 hd).chg hc1 hog; have o1 := ho1.cell 9; have f1 := ho1.frozen 9; have q0 : w1.cell? ⟨q, 0, none⟩ = some (.int .u64 (n : Int)) := hB.cell 0))
  all_goals
    have HX := hide (stored1 ho1 9 (.int .u64 (n : Int)))
    (try simp only [List.getElem_toArray, List.getElem_cons_zero, List.getElem_cons_succ, Act.put, List.setIfInBounds_toArray, List.set_cons_zero, List.set_cons_succ])
    simp only [List.getElem?_toArray, List.getElem?_cons_succ, List.getElem?_cons_zero] at o1
    go_wp2_with fail
    obtain ⟨hbo, hco⟩ := HX.out
    simp only [List.setIfInBounds_toArray, List.set_cons_succ, List.set_cons_zero] at hbo
    exact bodyPost_end (results_none rfl _ _ _) rfl (fieldEnd2 hkd hc1 hRd hco hbo hog hol hFw)

set_option maxHeartbeats 8000000 in
set_option maxRecDepth 100000 in
theorem recFieldW {w : World} {F G : Nat → Prop} {g o : Nat} {p : Value} {vs : List Value} {c0 c1 c2 c3 c5 c6 c7 c8 c9 c10 : Value}  (h : RdOk w F g (p :: vs)) (hG : ¬ G g) (hl : vs.length ≤ 1000000000000) (hFw : ∀ k, F k → k < w.heap.size ∧ k ≠ o)
    (ho : Blk w o 129 #[c0, c1, c2, c3, .slice none 0 0, c5, c6, c7, c8, c9, c10]) (hog : o ≠ g) {l : List WrS} (hr : RdB w G p (triB l)) (hw : triW l ≤ 1048576) (hn : l.length ≤ 1048576) :
    Calls Try.prog 98 #[.pointer (some ⟨g, 0, none⟩), .pointer (some ⟨o, 0, none⟩), .int .i32 87] w fun e w' => e = .returned (.tuple #[]) ∧ ∃ v' xs, xs.length = l.length ∧ Blk w' o 129 #[c0, c1, c2, c3, v', c5, c6, c7, c8, c9, c10] ∧ w'.ownsRow w.heap.size 125 3 v' l.length (flW xs l) ∧ OwnPs w' w.heap.size (pcW xs l) ∧ RdOk w' F g vs ∧ Chg (fun k => k = g ∨ k = o) w w' := by
  have hg := h.blk
  have hol := ho.lt
  have hb0 := Blk.new w 207 #[.pointer (some ⟨o, 0, none⟩)]
  have hk0 := (Chg.refl Non w).alloc (.cells #[.pointer (some ⟨o, 0, none⟩)] 207)
  have h0 := h.c0 hk0
  have ho0 := ho.c0 hk0
  have hr0 := hr.c0 hk0
  clear h ho hr
  go_enter Try.func98, Try.ntmps98
  go_upto_region 1 with fail
  have hsz : (w.alloc (.cells #[.pointer (some ⟨o, 0, none⟩)] 207)).heap.size = w.heap.size + 1 := by simp
  generalize World.alloc _ _ = w0 at hb0 hk0 h0 ho0 hr0 hsz ⊢
  have hF0 : ∀ k, F k → k < w0.heap.size := fun k hk => by have := hFw k hk; omega
  have ht := recTriW (t := w.heap.size) h0 hr0 hG hl hw hn (fun k hk => ⟨hF0 k hk, (hFw k hk).2⟩) hb0 ho0 hog (by omega) (by omega)
  have hmf' := hmf
  go_wp2_with fail
  refine ht.mono ?_
  rintro e w1 ⟨rfl, v', xs, hx, hbo, hrow, hP, hRd, hc1⟩
  go_wp2_with fail
  refine bodyPost_end (results_none rfl _ _ _) rfl ⟨rfl, v', xs, hx, hbo, row_low hrow hk0.size, hP.low hk0.size, hRd, (hk0.mono (fun _ _ h => h.elim)).trans hc1 fun _ _ h => h⟩

set_option maxHeartbeats 8000000 in
set_option maxRecDepth 100000 in
theorem recFieldR {w : World} {F G : Nat → Prop} {g o : Nat} {p : Value} {vs : List Value} {c0 c1 c2 c3 c4 c6 c7 c8 c9 c10 : Value}  (h : RdOk w F g (p :: vs)) (hG : ¬ G g) (hl : vs.length ≤ 1000000000000) (hFw : ∀ k, F k → k < w.heap.size ∧ k ≠ o)
    (ho : Blk w o 129 #[c0, c1, c2, c3, c4, .slice none 0 0, c6, c7, c8, c9, c10]) (hog : o ≠ g) {l : List WrS} (hr : RdB w G p (triB l)) (hw : triW l ≤ 1048576) (hn : l.length ≤ 1048576) :
    Calls Try.prog 98 #[.pointer (some ⟨g, 0, none⟩), .pointer (some ⟨o, 0, none⟩), .int .i32 82] w fun e w' => e = .returned (.tuple #[]) ∧ ∃ v' xs, xs.length = l.length ∧ Blk w' o 129 #[c0, c1, c2, c3, c4, v', c6, c7, c8, c9, c10] ∧ w'.ownsRow w.heap.size 192 3 v' l.length (flW xs l) ∧ OwnPs w' w.heap.size (pcW xs l) ∧ RdOk w' F g vs ∧ Chg (fun k => k = g ∨ k = o) w w' := by
  have hg := h.blk
  have hol := ho.lt
  have hb0 := Blk.new w 207 #[.pointer (some ⟨o, 0, none⟩)]
  have hk0 := (Chg.refl Non w).alloc (.cells #[.pointer (some ⟨o, 0, none⟩)] 207)
  have h0 := h.c0 hk0
  have ho0 := ho.c0 hk0
  have hr0 := hr.c0 hk0
  clear h ho hr
  go_enter Try.func98, Try.ntmps98
  go_upto_region 1 with fail
  have hsz : (w.alloc (.cells #[.pointer (some ⟨o, 0, none⟩)] 207)).heap.size = w.heap.size + 1 := by simp
  generalize World.alloc _ _ = w0 at hb0 hk0 h0 ho0 hr0 hsz ⊢
  have hF0 : ∀ k, F k → k < w0.heap.size := fun k hk => by have := hFw k hk; omega
  have ht := recTriR (t := w.heap.size) h0 hr0 hG hl hw hn (fun k hk => ⟨hF0 k hk, (hFw k hk).2⟩) hb0 ho0 hog (by omega) (by omega)
  have hmf' := hmf
  go_wp2_with fail
  refine ht.mono ?_
  rintro e w1 ⟨rfl, v', xs, hx, hbo, hrow, hP, hRd, hc1⟩
  go_wp2_with fail
  refine bodyPost_end (results_none rfl _ _ _) rfl ⟨rfl, v', xs, hx, hbo, row_low hrow hk0.size, hP.low hk0.size, hRd, (hk0.mono (fun _ _ h => h.elim)).trans hc1 fun _ _ h => h⟩
end Go.Proofs.Ytncchbcoldgpbaa

namespace Go.Proofs.Ytncchbcoldgpbaa
open Go.RowKit
set_option linter.unusedVariables false

theorem step_I1 {w : World} {ops : Array Oper} {o : Oper} {a : Act} {K : Act → World → Prop} {Q : Exit → Act → World → Prop} {E : Prop} (hgd : o.guard = none) (s x : Operand)
    (ho : o.op = .call { callee := .builtin .append, args := #[s, x], argTypes := #[127, 127] })
    {base : Nat} {v : Value} {xs : List Value} {n : Nat} (hown : w.ownsRow base 3 1 v n xs) (hv : a.eval s = v)
    {m : Int} {g : Nat} (hg : Blk w g 3 #[.int .i64 m]) (hy : a.eval x = .slice (some ⟨g, 0, none⟩) 1 1)
    (hb : n + 1 ≤ 1000000000000) (hbase : base ≤ w.heap.size)
    (h : ∀ v' w', w'.ownsRow base 3 1 v' (n + 1) (xs ++ [.int .i64 m]) → w.grownBy w' v.ownBlock → K (a.put o.dst v') w') :
    if Region.wanted o (yielded ops a.tmps) = true then Oper.wp Try.prog o a w K Q else E := by
  have hw : Region.wanted o (yielded ops a.tmps) = true := by simp [Region.wanted, hgd]
  rw [if_pos hw]
  obtain ⟨i, hi, hz, h1, h2⟩ := info_parts info_int
  have hr : RdV w (fun _ => True) 1 (.slice (some ⟨g, 0, none⟩) 1 1) 1 [.int .i64 m] := ⟨rfl, _, 1, rfl, Nat.le_refl _, by simp [maxLen], fun _ => ⟨_, rfl, trivial, fun j y hyj => by
    rw [add_none, hg.cell]
    match j, hyj with
    | 0, hyj => simpa using hyj
    | j + 1, hyj => simp at hyj⟩⟩
  subst hv
  rw [← hy] at hr
  refine wp_append_rd w s x _ ho base 3 i _ 1 8 Try.underlying127 hi hz h1 h2 rfl (by omega) _ _ hown _ _ _ hr (fun y hy => by simp at hy; subst hy; rfl) (by simp only [maxLen]; omega) (by omega) hbase ?_
  intro v' w' hown' hgr _ _
  exact h v' w' hown' hgr
theorem shB_nums (l : List Int) : shB l = numsB (l.map u64z) := by
  simp [shB, numsB, List.flatMap_map]
theorem wrap_u64z {s : Int} (h : -9223372036854775808 ≤ s ∧ s ≤ 9223372036854775807) : IntKind.i64.wrap ((u64z s : Nat) : Int) = s := by
  rw [IntKind.wrap_i64]
  unfold u64z
  omega

set_option maxHeartbeats 8000000 in
set_option maxRecDepth 100000 in
theorem recFieldS {w : World} {F G : Nat → Prop} {g o : Nat} {p : Value} {vs : List Value} {c0 c1 c2 c3 c4 c5 c6 c8 c9 c10 : Value} {l : List Int} (h : RdOk w F g (p :: vs)) (hG : ¬ G g) (hl : vs.length ≤ 1000000000000) (hFw : ∀ k, F k → k < w.heap.size ∧ k ≠ o)
    (ho : Blk w o 129 #[c0, c1, c2, c3, c4, c5, c6, .slice none 0 0, c8, c9, c10]) (hog : o ≠ g) (hr : RdB w G p (shB l)) (hn : l.length ≤ 1048576) (hw : ∀ s ∈ l, -9223372036854775808 ≤ s ∧ s ≤ 9223372036854775807) :
    Calls Try.prog 98 #[.pointer (some ⟨g, 0, none⟩), .pointer (some ⟨o, 0, none⟩), .int .i32 83] w fun e w' => e = .returned (.tuple #[]) ∧ ∃ sv, Blk w' o 129 #[c0, c1, c2, c3, c4, c5, c6, sv, c8, c9, c10] ∧ w'.ownsRow w.heap.size 3 1 sv l.length (l.map fun n => .int .i64 n) ∧ RdOk w' F g vs ∧ Chg (fun k => k = g ∨ k = o) w w' := by
  have hg := h.blk
  have hol := ho.lt
  have hb0 := Blk.new w 207 #[.pointer (some ⟨o, 0, none⟩)]
  have hk0 := (Chg.refl Non w).alloc (.cells #[.pointer (some ⟨o, 0, none⟩)] 207)
  have h0 := h.c0 hk0
  have ho0 := ho.c0 hk0
  have hr0 := hr.c0 hk0
  clear h ho hr
  go_enter Try.func98, Try.ntmps98
  go_upto_region 1 with fail
  have hsz : (w.alloc (.cells #[.pointer (some ⟨o, 0, none⟩)] 207)).heap.size = w.heap.size + 1 := by simp
  generalize World.alloc _ _ = w0 at hb0 hk0 h0 ho0 hr0 hsz ⊢
  have hF0 : ∀ k, F k → k < w0.heap.size := fun k hk => by have := hFw k hk; omega
  rw [shB_nums] at hr0
  have hall := recAll h0 hr0 hG hl (fun n hn => by obtain ⟨s, _, rfl⟩ := List.mem_map.1 hn; exact u64z_lt s) (by rw [List.length_map]; omega) hF0
  go_wp2_with fail
  refine hall.mono ?_
  rintro e w1 ⟨u, rfl, hu, hRd, hc1⟩
  have hlen : (l.map u64z).length = l.length := List.length_map ..
  obtain ⟨U, cu, rfl, hcu, hmu⟩ := hu.shape
  rw [hlen] at hu hcu ⊢
  unfold maxLen at hmu
  have ho1 := ho0.chg hc1 hog
  have hb1 := hb0.chg hc1 (by omega)
  have hs1 := hc1.size
  clear hall h0 hr0
  go_wp2_with fail
  go_loopw [55] (fun iv wr => ∃ (k : Nat) (sv : Value), k ≤ l.length ∧ iv = .int .i64 (k : Int) ∧ Blk wr o 129 #[c0, c1, c2, c3, c4, c5, c6, sv, c8, c9, c10] ∧ wr.ownsRow w1.heap.size 3 1 sv k ((l.take k).map fun n => .int .i64 n) ∧ Blk wr w.heap.size 207 #[.pointer (some ⟨o, 0, none⟩)] ∧ RdOk wr F g vs ∧ Chg (fun j => j = o) w1 wr) (fun iv _ => l.length - (intOf iv).toNat)
  case atStart => exact ⟨0, _, Nat.zero_le _, rfl, ho1, World.ownsRow_nil _ _ _ 1, hb1, hRd, Chg.refl _ _⟩
  case round =>
    clear hRd ho1 hb1
    obtain ⟨k, sv, hk, rfl, ho, hrow, hb, hRd, hcw⟩ := hrel
    by_cases h1 : k < l.length
    · have hu2 : RdU wr (fun b => w0.heap.size ≤ b) (.slice U l.length cu) (l.map u64z) := by
        refine RdU.chg hu hcw fun j hj e => ?_
        subst e
        have : w0.heap.size ≤ j := hj
        omega
      obtain ⟨ad, rfl, _, _, hca⟩ := hu2.at_ (k := k) (by rw [hlen]; exact h1)
      have hel : (l.map u64z)[k]'(by rw [hlen]; exact h1) = u64z l[k] := List.getElem_map ..
      rw [hel] at hca
      have HT := hide (show (l.take (k + 1)).map (fun n => Value.int .i64 n) = (l.take k).map (fun n => .int .i64 n) ++ [.int .i64 l[k]] from by rw [List.take_succ_eq_append_getElem h1, List.map_append]; rfl)
      have hwr := wrap_u64z (hw _ (List.getElem_mem h1))
      obtain ⟨m, hm⟩ : ∃ m, m = l[k] := ⟨_, rfl⟩
      rw [← hm] at hca HT hwr
      obtain ⟨z, hz⟩ : ∃ z, z = u64z m := ⟨_, rfl⟩
      rw [← hz] at hca hwr
      clear hel hu2 hm hz
      have h1i : (k : Int) < (l.length : Int) := by omega
      have h0i : (0 : Int) ≤ (k : Int) := by omega
      go_upto_region 16 with fail
      have hkd := (Chg.refl Non wr).drew.alloc (.cells #[.int .i64 m] 3)
      have d0 : wr.cell? ⟨w.heap.size, 0, none⟩ = some (.pointer (some ⟨o, 0, none⟩)) := hb.cell 0
      have d1 : wr.cell? ⟨o, 7, none⟩ = some sv := ho.cell 7
      have a0 : (wr.alloc (.cells #[.int .i64 m] 3)).cell? ⟨w.heap.size, 0, none⟩ = some (.pointer (some ⟨o, 0, none⟩)) := cell_al d0
      have a1 : (wr.alloc (.cells #[.int .i64 m] 3)).cell? ⟨o, 7, none⟩ = some sv := cell_al d1
      have HO1 := hide (ho.c0 hkd)
      have HB1 := hide (hb.c0 hkd)
      have HR1 := hide (hRd.c0 hkd)
      have hown1 := row_chg hrow hkd fun _ _ h => h
      have hbl := Blk.new wr.drew 3 #[.int .i64 m]
      have hs9 : w1.heap.size ≤ (wr.drew.alloc (.cells #[.int .i64 m] 3)).heap.size := Nat.le_trans hcw.size hkd.size
      have hn9 : k + 1 ≤ 1000000000000 := by omega
      have hno : ¬ (some o = sv.ownBlock) := fun e => by have := (World.ownsRow.lt hrow o e.symm).1; omega
      have hnt : ¬ (some w.heap.size = sv.ownBlock) := fun e => by have := (World.ownsRow.lt hrow _ e.symm).1; omega
      have HCW := hide hcw
      have HOW := hide hown1
      clear ho hb hRd hrow hcw
      go_region_law (first
        | (refine step_I1 rfl _ _ rfl hown1 rfl hbl rfl hn9 hs9 ?_; intro v3 w3 hO3 hg3; obtain ⟨A3, n3, k3, rfl⟩ := RdV.sl (RdV.of_own hO3); have b0 := (Chg.of_grown hg3).cell a0 hnt; have b1 := (Chg.of_grown hg3).cell a1 hno; have HB3 := hide (HO1.out.chg (Chg.of_grown hg3) hno); have g1 := HB3.out.frozen 7))
      all_goals
        (try simp only [List.getElem_toArray, List.getElem_cons_zero, List.getElem_cons_succ, Act.put, List.setIfInBounds_toArray, List.set_cons_zero, List.set_cons_succ])
        have hbl := HOW.out
        have hlo : ∀ j, sv.ownBlock = some j → w1.heap.size ≤ j := fun j hj => (World.ownsRow.lt HOW.out j hj).1
        have hlo3 := fun j hj => (World.ownsRow.lt hO3 j hj).1
        have HX := hide (stored1 HB3.out 7 (.slice A3 n3 k3))
        have HG := hide hg3
        have HO3 := hide hO3
        clear b0 b1 a0 a1 d0 d1 hbl hO3 hg3 hown1
        go_wp2_with fail
        obtain ⟨hbo, hco⟩ := HX.out
        simp only [List.setIfInBounds_toArray, List.set_cons_succ, List.set_cons_zero] at hbo
        have hbt := (HB1.out.chg (Chg.of_grown HG.out) hnt).chg hco (by omega)
        have hrd := (HR1.out.chg (Chg.of_grown HG.out) (fun e => by have := hlo g e.symm; omega) (fun j hj e => by have := hlo j e.symm; have := hFw j hj; omega)).chg hco (fun e => hog e.symm) (fun j hj e => (hFw j hj).2 e)
        have hr9 := row_chg HO3.out hco fun j hj e => by have := hlo3 j hj; omega
        have hc9 : Chg (fun j => j = o) w1 _ := ((HCW.out.trans0 hkd).own HG.out hlo).trans hco fun _ _ h => h
        go_roundw
        case rel => exact ⟨k + 1, _, by omega, by go_num, hbo, by rw [HT.out]; exact hr9, hbt, hrd, hc9⟩
        case measure => simp [intOf]; omega
    · have hkn : k = l.length := by omega
      subst hkn
      have hfull : l.take l.length = l := List.take_length
      rw [hfull] at hrow
      have HO := hide ho
      have HR := hide hrow
      have HD := hide hRd
      have HC := hide hcw
      clear ho hrow hRd hcw hb
      go_wp2_with fail
      exact bodyPost_end (results_none rfl _ _ _) rfl ⟨rfl, sv, HO.out, row_low HR.out (Nat.le_trans hk0.size hs1), HD.out, ((hk0.mono (S' := fun k => k = g ∨ k = o) fun _ _ h => h.elim).trans hc1 fun _ _ h => .inl h).trans HC.out fun _ _ h => .inr h⟩
end Go.Proofs.Ytncchbcoldgpbaa

namespace Go.Proofs.Ytncchbcoldgpbaa
open Go.RowKit
set_option linter.unusedVariables false

/-- a record's block, whatever stands in it -/
def RecBox (w : World) (o : Nat) : Prop := ∃ c0 c1 c2 c3 c4 c5 c6 c7 c8 c9 c10, Blk w o 129 #[c0, c1, c2, c3, c4, c5, c6, c7, c8, c9, c10]
theorem fieldEndB {w w0 w1 w2 : World} {g o : Nat} {er : Int} {c0 c1 c2 c3 c4 c5 c6 c7 c8 c9 c10 : Value} (hk0 : Chg Non w w0) (hc1 : Chg (fun k => k = g) w0 w1) (hRd : RdErr w1 g er)
    (hco : Chg (fun k => k = o) w1 w2) (hbo : Blk w2 o 129 #[c0, c1, c2, c3, c4, c5, c6, c7, c8, c9, c10]) (hog : o ≠ g) :
    Ending.returned (.tuple #[]) = .returned (.tuple #[]) ∧ ∃ er, RecBox w2 o ∧ RdErr w2 g er ∧ Chg (fun k => k = g ∨ k = o) w w2 := by
  refine ⟨rfl, er, ⟨_, _, _, _, _, _, _, _, _, _, _, hbo⟩, hRd.chg hco (fun e => hog e.symm), ?_⟩
  exact ((hk0.mono (S' := fun k => k = g ∨ k = o) fun _ _ h => h.elim).trans hc1 fun _ _ h => .inl h).trans hco fun _ _ h => .inr h
theorem made3 : madeCells #[.int .u64 0] 3 = #[.int .u64 0, .int .u64 0, .int .u64 0] := Array.toList_inj.1 (by rw [toList_madeCells_one]; rfl)
theorem made1 : madeCells #[.int .u64 0] 1 = #[.int .u64 0] := Array.toList_inj.1 (by rw [toList_madeCells_one]; rfl)

set_option maxHeartbeats 8000000 in
set_option maxRecDepth 100000 in
theorem recFieldTB {w : World} {g o : Nat}  (h : RdBad w g) (hbx : RecBox w o) (hog : o ≠ g)  :
    Calls Try.prog 98 #[.pointer (some ⟨g, 0, none⟩), .pointer (some ⟨o, 0, none⟩), .int .i32 84] w fun e w' => e = .returned (.tuple #[]) ∧ ∃ er, RecBox w' o ∧ RdErr w' g er ∧ Chg (fun k => k = g ∨ k = o) w w' := by
  obtain ⟨c0, c1, c2, c3, c4, c5, c6, c7, c8, c9, c10, ho⟩ := hbx
  have hg : g < w.heap.size := by obtain ⟨er, h1, _⟩ := h; exact h1
  have hol := ho.lt
  have hb0 := Blk.new w 207 #[.pointer (some ⟨o, 0, none⟩)]
  have hk0 := (Chg.refl Non w).alloc (.cells #[.pointer (some ⟨o, 0, none⟩)] 207)
  have h0 := h.c0 hk0
  have ho0 := ho.c0 hk0
  clear h ho
  go_enter Try.func98, Try.ntmps98
  go_upto_region 1 with fail
  have hsz : (w.alloc (.cells #[.pointer (some ⟨o, 0, none⟩)] 207)).heap.size = w.heap.size + 1 := by simp
  generalize World.alloc _ _ = w0 at hb0 hk0 h0 ho0 hsz ⊢
  have hs := recSomeB (n := 3) h0 (by omega)
  rw [show ((3 : Nat) : Int) = 3 from rfl] at hs
  go_wp2_with fail
  refine hs.mono ?_
  rintro e w1 ⟨q, er, rfl, hq, hB, hRd, hc1⟩
  rw [made3] at hB
  have ho1 := ho0.chg hc1 hog
  have hb1 := hb0.chg hc1 (by omega)
  have t0 := hb1.cell 0
  have q0 : w1.cell? ⟨q, 0, none⟩ = some (.int .u64 0) := hB.cell 0
  have q1 : w1.cell? ⟨q, 1, none⟩ = some (.int .u64 0) := hB.cell 1
  have q2 : w1.cell? ⟨q, 2, none⟩ = some (.int .u64 0) := hB.cell 2
  have o1 := ho1.cell 1
  have o2 := ho1.cell 2
  have o3 := ho1.cell 3
  have f1 := ho1.frozen 1
  have f2 := ho1.frozen 2
  have f3 := ho1.frozen 3
  simp at t0 o1 o2 o3
  clear hs hB
  go_upto_region 5 with fail
  go_still_tail 11, (by kernel_rfl)
  change wpList _ _ _ _ _ w1.drew
  have HX := hide (stored3 (w := w1.drew) ho1 1 2 3 (.int .u64 0) (.int .u64 0) (.int .u64 0))
  go_wp2_with fail
  obtain ⟨hbo, hco⟩ := HX.out
  simp only [List.setIfInBounds_toArray, List.set_cons_succ, List.set_cons_zero] at hbo
  have hd : Chg Non w1 w1.drew := (Chg.refl Non w1).drew
  exact bodyPost_end (results_none rfl _ _ _) rfl (fieldEndB hk0 (hc1.trans0 hd) (hRd.c0 hd) hco hbo hog)

set_option maxHeartbeats 8000000 in
set_option maxRecDepth 100000 in
theorem recFieldCB {w : World} {g o : Nat}  (h : RdBad w g) (hbx : RecBox w o) (hog : o ≠ g)  :
    Calls Try.prog 98 #[.pointer (some ⟨g, 0, none⟩), .pointer (some ⟨o, 0, none⟩), .int .i32 67] w fun e w' => e = .returned (.tuple #[]) ∧ ∃ er, RecBox w' o ∧ RdErr w' g er ∧ Chg (fun k => k = g ∨ k = o) w w' := by
  obtain ⟨c0, c1, c2, c3, c4, c5, c6, c7, c8, c9, c10, ho⟩ := hbx
  have hg : g < w.heap.size := by obtain ⟨er, h1, _⟩ := h; exact h1
  have hol := ho.lt
  have hb0 := Blk.new w 207 #[.pointer (some ⟨o, 0, none⟩)]
  have hk0 := (Chg.refl Non w).alloc (.cells #[.pointer (some ⟨o, 0, none⟩)] 207)
  have h0 := h.c0 hk0
  have ho0 := ho.c0 hk0
  clear h ho
  go_enter Try.func98, Try.ntmps98
  go_upto_region 1 with fail
  have hsz : (w.alloc (.cells #[.pointer (some ⟨o, 0, none⟩)] 207)).heap.size = w.heap.size + 1 := by simp
  generalize World.alloc _ _ = w0 at hb0 hk0 h0 ho0 hsz ⊢
  have hkd := hk0.drew
  have hd : Chg Non w0 w0.drew := (Chg.refl Non w0).drew
  have h0 := h0.c0 hd
  have t0 : w0.drew.cell? ⟨w.heap.size, 0, none⟩ = some (.pointer (some ⟨o, 0, none⟩)) := hb0.cell 0
  have t0' : w0.cell? ⟨w.heap.size, 0, none⟩ = some (.pointer (some ⟨o, 0, none⟩)) := t0
  have htg : ¬ (w.heap.size = g) := by omega
  have HC := hide (recTruthB h0)
  go_upto_region 11 with fail
  go_region_law (first
    | (go_simp; go_at_call 103; refine HC.out.mono ?_; rintro e w1 ⟨er, rfl, hRd, hc1⟩; have t0 := hc1.cell t0 htg; have ho1 := (ho0.c0 hd).chg hc1 hog; have o1 := ho1.cell 6; have f1 := ho1.frozen 6))
  all_goals
    have HX := hide (stored1 ho1 6 (.bool false))
    (try simp only [List.getElem_toArray, List.getElem_cons_zero, List.getElem_cons_succ, Act.put, List.setIfInBounds_toArray, List.set_cons_zero, List.set_cons_succ])
    simp only [List.getElem?_toArray, List.getElem?_cons_succ, List.getElem?_cons_zero] at o1
    go_wp2_with fail
    obtain ⟨hbo, hco⟩ := HX.out
    simp only [List.setIfInBounds_toArray, List.set_cons_succ, List.set_cons_zero] at hbo
    exact bodyPost_end (results_none rfl _ _ _) rfl (fieldEndB hkd hc1 hRd hco hbo hog)

set_option maxHeartbeats 8000000 in
set_option maxRecDepth 100000 in
theorem recFieldAB {w : World} {g o : Nat}  (h : RdBad w g) (hbx : RecBox w o) (hog : o ≠ g)  :
    Calls Try.prog 98 #[.pointer (some ⟨g, 0, none⟩), .pointer (some ⟨o, 0, none⟩), .int .i32 65] w fun e w' => e = .returned (.tuple #[]) ∧ ∃ er, RecBox w' o ∧ RdErr w' g er ∧ Chg (fun k => k = g ∨ k = o) w w' := by
  obtain ⟨c0, c1, c2, c3, c4, c5, c6, c7, c8, c9, c10, ho⟩ := hbx
  have hg : g < w.heap.size := by obtain ⟨er, h1, _⟩ := h; exact h1
  have hol := ho.lt
  have hb0 := Blk.new w 207 #[.pointer (some ⟨o, 0, none⟩)]
  have hk0 := (Chg.refl Non w).alloc (.cells #[.pointer (some ⟨o, 0, none⟩)] 207)
  have h0 := h.c0 hk0
  have ho0 := ho.c0 hk0
  clear h ho
  go_enter Try.func98, Try.ntmps98
  go_upto_region 1 with fail
  have hsz : (w.alloc (.cells #[.pointer (some ⟨o, 0, none⟩)] 207)).heap.size = w.heap.size + 1 := by simp
  generalize World.alloc _ _ = w0 at hb0 hk0 h0 ho0 hsz ⊢
  have hkd := hk0.drew
  have hd : Chg Non w0 w0.drew := (Chg.refl Non w0).drew
  have h0 := h0.c0 hd
  have t0 : w0.drew.cell? ⟨w.heap.size, 0, none⟩ = some (.pointer (some ⟨o, 0, none⟩)) := hb0.cell 0
  have t0' : w0.cell? ⟨w.heap.size, 0, none⟩ = some (.pointer (some ⟨o, 0, none⟩)) := t0
  have htg : ¬ (w.heap.size = g) := by omega
  obtain ⟨er, hgl, hn0⟩ := h0
  have hn1 := hn0 w0.drew (Chg.refl _ _)
  have HC := hide (hn1)
  go_upto_region 19 with fail
  go_region_law (first
    | (go_simp; go_at_call 97; refine HC.out.mono ?_; rintro e w1 ⟨rfl, hRd, hc1⟩; have t0 := hc1.cell t0 htg; have ho1 := (ho0.c0 hd).chg hc1 hog; have o1 := ho1.cell 8; have f1 := ho1.frozen 8))
  all_goals
    have HX := hide (stored1 ho1 8 (.slice none 0 0))
    (try simp only [List.getElem_toArray, List.getElem_cons_zero, List.getElem_cons_succ, Act.put, List.setIfInBounds_toArray, List.set_cons_zero, List.set_cons_succ])
    simp only [List.getElem?_toArray, List.getElem?_cons_succ, List.getElem?_cons_zero] at o1
    go_wp2_with fail
    obtain ⟨hbo, hco⟩ := HX.out
    simp only [List.setIfInBounds_toArray, List.set_cons_succ, List.set_cons_zero] at hbo
    exact bodyPost_end (results_none rfl _ _ _) rfl (fieldEndB hkd hc1 hRd hco hbo hog)

set_option maxHeartbeats 8000000 in
set_option maxRecDepth 100000 in
theorem recFieldNB {w : World} {g o : Nat}  (h : RdBad w g) (hbx : RecBox w o) (hog : o ≠ g)  :
    Calls Try.prog 98 #[.pointer (some ⟨g, 0, none⟩), .pointer (some ⟨o, 0, none⟩), .int .i32 78] w fun e w' => e = .returned (.tuple #[]) ∧ ∃ er, RecBox w' o ∧ RdErr w' g er ∧ Chg (fun k => k = g ∨ k = o) w w' := by
  obtain ⟨c0, c1, c2, c3, c4, c5, c6, c7, c8, c9, c10, ho⟩ := hbx
  have hg : g < w.heap.size := by obtain ⟨er, h1, _⟩ := h; exact h1
  have hol := ho.lt
  have hb0 := Blk.new w 207 #[.pointer (some ⟨o, 0, none⟩)]
  have hk0 := (Chg.refl Non w).alloc (.cells #[.pointer (some ⟨o, 0, none⟩)] 207)
  have h0 := h.c0 hk0
  have ho0 := ho.c0 hk0
  clear h ho
  go_enter Try.func98, Try.ntmps98
  go_upto_region 1 with fail
  have hsz : (w.alloc (.cells #[.pointer (some ⟨o, 0, none⟩)] 207)).heap.size = w.heap.size + 1 := by simp
  generalize World.alloc _ _ = w0 at hb0 hk0 h0 ho0 hsz ⊢
  have hkd := hk0.drew
  have hd : Chg Non w0 w0.drew := (Chg.refl Non w0).drew
  have h0 := h0.c0 hd
  have t0 : w0.drew.cell? ⟨w.heap.size, 0, none⟩ = some (.pointer (some ⟨o, 0, none⟩)) := hb0.cell 0
  have t0' : w0.cell? ⟨w.heap.size, 0, none⟩ = some (.pointer (some ⟨o, 0, none⟩)) := t0
  have htg : ¬ (w.heap.size = g) := by omega
  obtain ⟨er, hgl, hn0⟩ := h0
  have hn1 := hn0 w0.drew (Chg.refl _ _)
  have HC := hide (hn1)
  go_upto_region 2 with fail
  go_region_law (first
    | (go_simp; go_at_call 97; refine HC.out.mono ?_; rintro e w1 ⟨rfl, hRd, hc1⟩; have t0 := hc1.cell t0 htg; have ho1 := (ho0.c0 hd).chg hc1 hog; have o1 := ho1.cell 10; have f1 := ho1.frozen 10; have hcv := run_str (RdB.nil_ w1 Non)))
  all_goals
    have HX := hide (stored1 ho1 10 (.string ⟨#[]⟩))
    (try simp only [List.getElem_toArray, List.getElem_cons_zero, List.getElem_cons_succ, Act.put, List.setIfInBounds_toArray, List.set_cons_zero, List.set_cons_succ])
    simp only [List.getElem?_toArray, List.getElem?_cons_succ, List.getElem?_cons_zero] at o1
    go_wp2_with fail
    obtain ⟨hbo, hco⟩ := HX.out
    simp only [List.setIfInBounds_toArray, List.set_cons_succ, List.set_cons_zero] at hbo
    exact bodyPost_end (results_none rfl _ _ _) rfl (fieldEndB hkd hc1 hRd hco hbo hog)

set_option maxHeartbeats 8000000 in
set_option maxRecDepth 100000 in
theorem recFieldIB {w : World} {g o : Nat}  (h : RdBad w g) (hbx : RecBox w o) (hog : o ≠ g)  :
    Calls Try.prog 98 #[.pointer (some ⟨g, 0, none⟩), .pointer (some ⟨o, 0, none⟩), .int .i32 73] w fun e w' => e = .returned (.tuple #[]) ∧ ∃ er, RecBox w' o ∧ RdErr w' g er ∧ Chg (fun k => k = g ∨ k = o) w w' := by
  obtain ⟨c0, c1, c2, c3, c4, c5, c6, c7, c8, c9, c10, ho⟩ := hbx
  have hg : g < w.heap.size := by obtain ⟨er, h1, _⟩ := h; exact h1
  have hol := ho.lt
  have hb0 := Blk.new w 207 #[.pointer (some ⟨o, 0, none⟩)]
  have hk0 := (Chg.refl Non w).alloc (.cells #[.pointer (some ⟨o, 0, none⟩)] 207)
  have h0 := h.c0 hk0
  have ho0 := ho.c0 hk0
  clear h ho
  go_enter Try.func98, Try.ntmps98
  go_upto_region 1 with fail
  have hsz : (w.alloc (.cells #[.pointer (some ⟨o, 0, none⟩)] 207)).heap.size = w.heap.size + 1 := by simp
  generalize World.alloc _ _ = w0 at hb0 hk0 h0 ho0 hsz ⊢
  have hkd := hk0.drew
  have hd : Chg Non w0 w0.drew := (Chg.refl Non w0).drew
  have h0 := h0.c0 hd
  have t0 : w0.drew.cell? ⟨w.heap.size, 0, none⟩ = some (.pointer (some ⟨o, 0, none⟩)) := hb0.cell 0
  have t0' : w0.cell? ⟨w.heap.size, 0, none⟩ = some (.pointer (some ⟨o, 0, none⟩)) := t0
  have htg : ¬ (w.heap.size = g) := by omega
  have hs := recSomeB (n := 1) h0 (by omega)
  rw [show ((1 : Nat) : Int) = 1 from rfl, made1] at hs
  have HC := hide (hs)
  go_upto_region 21 with fail
  go_region_law (first
    | (go_simp; go_at_call 99; refine HC.out.mono ?_; rintro e w1 ⟨q, er, rfl, hq, hB, hRd, hc1⟩; have t0 := hc1.cell t0 htg; have ho1 := (ho0.c0 hd).chg hc1 hog; have o1 := ho1.cell 9; have f1 := ho1.frozen 9; have q0 : w1.cell? ⟨q, 0, none⟩ = some (.int .u64 0) := hB.cell 0))
  all_goals
    have HX := hide (stored1 ho1 9 (.int .u64 0))
    (try simp only [List.getElem_toArray, List.getElem_cons_zero, List.getElem_cons_succ, Act.put, List.setIfInBounds_toArray, List.set_cons_zero, List.set_cons_succ])
    simp only [List.getElem?_toArray, List.getElem?_cons_succ, List.getElem?_cons_zero] at o1
    go_wp2_with fail
    obtain ⟨hbo, hco⟩ := HX.out
    simp only [List.setIfInBounds_toArray, List.set_cons_succ, List.set_cons_zero] at hbo
    exact bodyPost_end (results_none rfl _ _ _) rfl (fieldEndB hkd hc1 hRd hco hbo hog)

set_option maxHeartbeats 8000000 in
set_option maxRecDepth 100000 in
theorem recFieldWB {w : World} {g o : Nat}  (h : RdBad w g) (hbx : RecBox w o) (hog : o ≠ g)  :
    Calls Try.prog 98 #[.pointer (some ⟨g, 0, none⟩), .pointer (some ⟨o, 0, none⟩), .int .i32 87] w fun e w' => e = .returned (.tuple #[]) ∧ ∃ er, RecBox w' o ∧ RdErr w' g er ∧ Chg (fun k => k = g ∨ k = o) w w' := by
  obtain ⟨c0, c1, c2, c3, c4, c5, c6, c7, c8, c9, c10, ho⟩ := hbx
  have hg : g < w.heap.size := by obtain ⟨er, h1, _⟩ := h; exact h1
  have hol := ho.lt
  have hb0 := Blk.new w 207 #[.pointer (some ⟨o, 0, none⟩)]
  have hk0 := (Chg.refl Non w).alloc (.cells #[.pointer (some ⟨o, 0, none⟩)] 207)
  have h0 := h.c0 hk0
  have ho0 := ho.c0 hk0
  clear h ho
  go_enter Try.func98, Try.ntmps98
  go_upto_region 1 with fail
  have hsz : (w.alloc (.cells #[.pointer (some ⟨o, 0, none⟩)] 207)).heap.size = w.heap.size + 1 := by simp
  generalize World.alloc _ _ = w0 at hb0 hk0 h0 ho0 hsz ⊢
  have ht := recTriB (fv := .func (.func 101) #[] #[.pointer (some ⟨w.heap.size, 0, none⟩)]) h0
  have hmf' := hmf
  go_wp2_with fail
  refine ht.mono ?_
  rintro e w1 ⟨er, rfl, hRd, hc1⟩
  go_wp2_with fail
  exact bodyPost_end (results_none rfl _ _ _) rfl (fieldEndB hk0 hc1 hRd (Chg.refl _ _) (ho0.chg hc1 hog) hog)

set_option maxHeartbeats 8000000 in
set_option maxRecDepth 100000 in
theorem recFieldRB {w : World} {g o : Nat}  (h : RdBad w g) (hbx : RecBox w o) (hog : o ≠ g)  :
    Calls Try.prog 98 #[.pointer (some ⟨g, 0, none⟩), .pointer (some ⟨o, 0, none⟩), .int .i32 82] w fun e w' => e = .returned (.tuple #[]) ∧ ∃ er, RecBox w' o ∧ RdErr w' g er ∧ Chg (fun k => k = g ∨ k = o) w w' := by
  obtain ⟨c0, c1, c2, c3, c4, c5, c6, c7, c8, c9, c10, ho⟩ := hbx
  have hg : g < w.heap.size := by obtain ⟨er, h1, _⟩ := h; exact h1
  have hol := ho.lt
  have hb0 := Blk.new w 207 #[.pointer (some ⟨o, 0, none⟩)]
  have hk0 := (Chg.refl Non w).alloc (.cells #[.pointer (some ⟨o, 0, none⟩)] 207)
  have h0 := h.c0 hk0
  have ho0 := ho.c0 hk0
  clear h ho
  go_enter Try.func98, Try.ntmps98
  go_upto_region 1 with fail
  have hsz : (w.alloc (.cells #[.pointer (some ⟨o, 0, none⟩)] 207)).heap.size = w.heap.size + 1 := by simp
  generalize World.alloc _ _ = w0 at hb0 hk0 h0 ho0 hsz ⊢
  have ht := recTriB (fv := .func (.func 102) #[] #[.pointer (some ⟨w.heap.size, 0, none⟩)]) h0
  have hmf' := hmf
  go_wp2_with fail
  refine ht.mono ?_
  rintro e w1 ⟨er, rfl, hRd, hc1⟩
  go_wp2_with fail
  exact bodyPost_end (results_none rfl _ _ _) rfl (fieldEndB hk0 hc1 hRd (Chg.refl _ _) (ho0.chg hc1 hog) hog)

set_option maxHeartbeats 8000000 in
set_option maxRecDepth 100000 in
theorem recFieldSB {w : World} {g o : Nat}  (h : RdBad w g) (hbx : RecBox w o) (hog : o ≠ g)  :
    Calls Try.prog 98 #[.pointer (some ⟨g, 0, none⟩), .pointer (some ⟨o, 0, none⟩), .int .i32 83] w fun e w' => e = .returned (.tuple #[]) ∧ ∃ er, RecBox w' o ∧ RdErr w' g er ∧ Chg (fun k => k = g ∨ k = o) w w' := by
  obtain ⟨c0, c1, c2, c3, c4, c5, c6, c7, c8, c9, c10, ho⟩ := hbx
  have hg : g < w.heap.size := by obtain ⟨er, h1, _⟩ := h; exact h1
  have hol := ho.lt
  have hb0 := Blk.new w 207 #[.pointer (some ⟨o, 0, none⟩)]
  have hk0 := (Chg.refl Non w).alloc (.cells #[.pointer (some ⟨o, 0, none⟩)] 207)
  have h0 := h.c0 hk0
  have ho0 := ho.c0 hk0
  clear h ho
  go_enter Try.func98, Try.ntmps98
  go_upto_region 1 with fail
  have hsz : (w.alloc (.cells #[.pointer (some ⟨o, 0, none⟩)] 207)).heap.size = w.heap.size + 1 := by simp
  generalize World.alloc _ _ = w0 at hb0 hk0 h0 ho0 hsz ⊢
  have ht := recAllB h0
  go_wp2_with fail
  refine ht.mono ?_
  rintro e w1 ⟨er, rfl, hRd, hc1⟩
  go_wp2_with fail
  refine wp_loop_rounds 1 ?_
  rw [rounds_succ]
  go_wp2_with fail
  exact bodyPost_end (results_none rfl _ _ _) rfl (fieldEndB hk0 hc1 hRd (Chg.refl _ _) (ho0.chg hc1 hog) hog)
end Go.Proofs.Ytncchbcoldgpbaa

namespace Go.Proofs.Ytncchbcoldgpbaa
open Go.RowKit
set_option linter.unusedVariables false

/-- a record of the call's own -/
structure RecOwn (w : World) (base : Nat) (x : RcS) (a b c d : Value) (xs ys : List (Value × Value)) : Prop where
  wl : xs.length = x.ws.length
  rl : ys.length = x.rs.length
  ws : w.ownsRow base 125 3 a x.ws.length (flW xs x.ws)
  rs : w.ownsRow base 192 3 b x.rs.length (flW ys x.rs)
  sh : w.ownsRow base 3 1 c x.shards.length (x.shards.map fun n => .int .i64 n)
  ps : OwnPs w base (pcW xs x.ws ++ pcW ys x.rs ++ [(d, x.reply)])
theorem rdW_of {w : World} {base : Nat} {ty : TypeId} {v : Value} {l : List WrS} {xs : List (Value × Value)} (hl : xs.length = l.length) (h : w.ownsRow base ty 3 v l.length (flW xs l)) (hp : ∀ p ∈ pcW xs l, OwnB w base p.1 p.2) : RdW w (fun k => base ≤ k) v l := by
  refine ⟨xs, hl, (RdV.of_own h).mono fun k hk => (World.ownsRow.lt h k hk).1, fun i x y hx hy => ?_⟩
  have hi := (List.getElem?_eq_some_iff.1 hx).1
  have hz : (xs.zip l)[i]? = some (x, y) := by
    rw [List.getElem?_zip_eq_some]; exact ⟨hx, hy⟩
  have hm : (x, y) ∈ xs.zip l := List.mem_of_getElem? hz
  have h1 : (x.1, y.a) ∈ pcW xs l := List.mem_flatMap.2 ⟨(x, y), hm, by simp⟩
  have h2 : (x.2, y.b) ∈ pcW xs l := List.mem_flatMap.2 ⟨(x, y), hm, by simp⟩
  exact ⟨(hp _ h1).rd.mono fun k hk => ((hp _ h1).lt k hk).1, (hp _ h2).rd.mono fun k hk => ((hp _ h2).lt k hk).1⟩
theorem RecOwn.rd {w : World} {base : Nat} {x : RcS} {a b c d : Value} {xs ys : List (Value × Value)} (h : RecOwn w base x a b c d xs ys) (hu : U64 x.boot ∧ U64 x.sess ∧ U64 x.seq ∧ U64 x.id) (hk : (Lit.int .i64 x.kind).wf = true) : RecR w (fun k => base ≤ k) x a b c d := by
  obtain ⟨h1, h2, h3, h4, h5, h6⟩ := h
  refine ⟨rdW_of h1 h3 fun p hp => h6.1 p (by simp [hp]), rdW_of h2 h4 fun p hp => h6.1 p (by simp [hp]), ?_, ?_, hu.1, hu.2.1, hu.2.2.1, hu.2.2.2, hk⟩
  · have := RdV.of_own h5
    unfold RdI
    exact this.mono fun k hk => (World.ownsRow.lt h5 k hk).1
  · have h7 := h6.1 (d, x.reply) (by simp)
    exact h7.rd.mono fun k hk => (h7.lt k hk).1
/-- what a record must be: its numbers fit -/
structure RcWf (x : RcS) : Prop where
  u : U64 x.boot ∧ U64 x.sess ∧ U64 x.seq ∧ U64 x.id
  sh : ∀ s ∈ x.shards, -9223372036854775808 ≤ s ∧ s ≤ 9223372036854775807
theorem row_iterAt {w : World} {base sz n : Nat} {e : TypeId} {v : Value} {xs : List Value} {g : Nat} {s : ByteArray} {pos : Nat} (h : w.ownsRow base e sz v n xs) (hk : w.heap[g]? = some (.stringIter s pos)) (pos' : Nat) : (w.iterAt g s pos').ownsRow base e sz v n xs := by
  refine ⟨h.1, ?_⟩
  rcases h.2 with hn | ⟨g', cap, cur, rfl, hb, hg, rest⟩
  · exact .inl hn
  · refine .inr ⟨g', cap, cur, rfl, hb, ?_, rest⟩
    rw [Lib.iterAt_other _ _ _ _ _ (fun e => by subst e; rw [hk] at hg; cases hg)]
    exact hg
theorem OwnPs.iterAt {w : World} {base : Nat} {ps : List (Value × List UInt8)} {g : Nat} {s : ByteArray} {pos : Nat} (h : OwnPs w base ps) (hk : w.heap[g]? = some (.stringIter s pos)) (pos' : Nat) : OwnPs (w.iterAt g s pos') base ps :=
  ⟨fun p hp => row_iterAt (h.1 p hp) hk pos', h.2⟩
theorem Blk.iterAt {w : World} {b : Nat} {t : TypeId} {cs : Array Value} {g : Nat} {s : ByteArray} {pos : Nat} (h : Blk w b t cs) (hk : w.heap[g]? = some (.stringIter s pos)) (pos' : Nat) : Blk (w.iterAt g s pos') b t cs := by
  unfold Blk at h ⊢
  rw [Lib.iterAt_other _ _ _ _ _ (fun e => by subst e; rw [hk] at h; cases h)]
  exact h
theorem RdV.iterAt {w : World} {F : Nat → Prop} {sz n : Nat} {v : Value} {xs : List Value} {g : Nat} {s : ByteArray} {pos : Nat} (h : RdV w F sz v n xs) (hk : w.heap[g]? = some (.stringIter s pos)) (pos' : Nat) : RdV (w.iterAt g s pos') F sz v n xs := by
  obtain ⟨h1, A, c, hv, hc, hm, h2⟩ := h
  refine ⟨h1, A, c, hv, hc, hm, fun hn => ?_⟩
  obtain ⟨ad, e, hf, hcell⟩ := h2 hn
  exact ⟨ad, e, hf, fun j u hu => cell_iterAt hk (hcell j u hu)⟩
theorem RdOk.iterAt {w : World} {F : Nat → Prop} {g : Nat} {vs : List Value} {k : Nat} {s : ByteArray} {pos : Nat} (h : RdOk w F g vs) (hk : w.heap[k]? = some (.stringIter s pos)) (pos' : Nat) : RdOk (w.iterAt k s pos') F g vs := by
  obtain ⟨v, h1, h2, h3⟩ := h
  exact ⟨v, h1.iterAt hk pos', h2.iterAt hk pos', h3⟩
theorem readStart {w2 w3 : World} {g n m : Nat} {U : Option Addr} {parts : List (List UInt8)} (hO : OwnsBB w3 w2.heap.size (.slice U n m) parts) (hn : n = parts.length) (hb : Blk w3 g 205 #[.slice none 0 0, .int .i64 0]) (hszg : w2.heap.size = g + 1) :
    ∃ vs0 : List Value, vs0.length = parts.length ∧ RdOk ((w3.setCell ⟨g, 0, none⟩ (.slice U n m)).setCell ⟨g, 1, none⟩ (.int .i64 0)) (fun b => g < b ∧ b < w3.heap.size) g vs0 ∧
      OwnPs ((w3.setCell ⟨g, 0, none⟩ (.slice U n m)).setCell ⟨g, 1, none⟩ (.int .i64 0)) (g + 1) (vs0.zip parts) ∧ (∀ p ∈ vs0.zip parts, ∀ k, p.1.ownBlock = some k → k < w3.heap.size) ∧
      Chg (fun k => k = g) w3 ((w3.setCell ⟨g, 0, none⟩ (.slice U n m)).setCell ⟨g, 1, none⟩ (.int .i64 0)) := by
  subst hn
  obtain ⟨vs0, h1, h2, h3⟩ := hO.psOf
  rw [hszg] at h3
  have hB := (hb.set_ 0 (.slice U parts.length m)).set_ 1 (.int .i64 0)
  simp only [List.setIfInBounds_toArray, List.set_cons_succ, List.set_cons_zero] at hB
  have hc : Chg (fun k => k = g) w3 ((w3.setCell ⟨g, 0, none⟩ (.slice U parts.length m)).setCell ⟨g, 1, none⟩ (.int .i64 0)) := ((Chg.refl (fun k => k = g) w3).setCell (p := ⟨g, 0, none⟩) (fun _ => rfl) _).setCell (p := ⟨g, 1, none⟩) (fun _ => rfl) _
  refine ⟨vs0, h1, ⟨_, hB, ?_, fun h => Nat.lt_irrefl _ h.1⟩, h3.chg hc fun k hk _ e => by omega, h3.lt, hc⟩
  rw [h1]
  refine ((RdV.of_own h2).mono (F' := fun b => g < b ∧ b < w3.heap.size) fun k hk => ?_).chg hc fun k (hk : g < k ∧ k < w3.heap.size) (e : k = g) => by omega
  have := World.ownsRow.lt h2 k hk
  omega
theorem OwnPs.one {w : World} {base : Nat} {v : Value} {l : List UInt8} (h : OwnB w base v l) : OwnPs w base [(v, l)] := ⟨fun p hp => by simp at hp; subst hp; exact h, List.pairwise_singleton _ _⟩
theorem ret_rec {a b : Array Value} (h : a = b) : Ending.returned (.tuple #[.agg a, .int .i64 0]) = .returned (.tuple #[.agg b, .int .i64 0]) := by rw [h]
theorem fits_rec {x : RcS} (hs : RcSm x) : Fits ([kiB x.kind] :: fldR x) := by
  have a1 := txB_len x
  have a2 := triB_len x.ws
  have a3 := triB_len x.rs
  have a4 := flB_len x.commit
  have a5 := shB_len x.shards
  have a6 := numB_length x.id
  have a7 : (nmB x.name).length = x.name.size := Array.length_toList
  obtain ⟨h1, h2, h3, h4, h5, h6, h7⟩ := hs
  have hlen : (fldR x).length ≤ 4 := by
    unfold fldR
    split
    · simp
    split
    · simp
    split
    · simp
    split
    · simp
    split
    · simp
    · simp
  have hmem : ∀ l ∈ fldR x, l.length ≤ 100000000 := by
    intro l hl
    unfold fldR at hl
    split at hl
    · simp at hl; rcases hl with rfl | rfl | rfl <;> omega
    split at hl
    · simp at hl; subst hl; omega
    split at hl
    · simp at hl; rcases hl with rfl | rfl | rfl <;> omega
    split at hl
    · simp at hl; rcases hl with rfl | rfl <;> omega
    split at hl
    · simp at hl; rcases hl with rfl | rfl | rfl | rfl <;> omega
    · simp at hl
  refine ⟨by simp only [List.length_cons]; omega, fun l hl => ?_⟩
  rcases List.mem_cons.1 hl with rfl | hl
  · simp
  · have := hmem l hl; omega
end Go.Proofs.Ytncchbcoldgpbaa
