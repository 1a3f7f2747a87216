/- The walk of label's Pick. -/
import Derived.Test.YtnoimmhdoaeeiaaDoorPick2
namespace Go.Proofs.YtnoimmhdoaeeiaaDoor
open Go.RowKit Go.Lib Go.Sort

/-- those that match, in the order given -/
def filtS (l : List ByteArray) (pat : ByteArray) : List ByteArray := l.filter fun s => matS s.data.toList pat.data.toList
theorem filtS_snoc (l : List ByteArray) (pat : ByteArray) (k : Nat) (hk : k < l.length) : filtS (l.take (k + 1)) pat = filtS (l.take k) pat ++ (if matS l[k].data.toList pat.data.toList then [l[k]] else []) := by
  rw [filtS, List.take_succ_eq_append_getElem hk, List.filter_append, ← filtS]
  congr 1
  cases h : matS l[k].data.toList pat.data.toList <;> simp [h]
theorem filtS_len (l : List ByteArray) (pat : ByteArray) : (filtS l pat).length ≤ l.length := List.length_filter_le _ _
theorem pick_filt (l : List ByteArray) (pat : ByteArray) : srt ((filtS l pat).map (·.data.toList)) = pickL l pat := by
  rw [pickL, filtS]
  congr 1
  induction l with
  | nil => rfl
  | cons x r ih =>
    simp only [List.filter_cons, List.map_cons]
    split
    · rw [List.map_cons, ih]
    · exact ih

set_option maxHeartbeats 2000000 in
theorem labPick {w : World} {F : Nat → Prop} {pat : ByteArray} {v : Value} {l : List ByteArray} (hr : RdS w F v l) (hlen : l.length ≤ 100000) (hpat : pat.size ≤ 1000000000) (hsz : ∀ s ∈ l, s.size ≤ 1000000000) :
    Calls Tryd.prog 6 #[.string pat, v] w fun e w' => ∃ u, e = .returned u ∧ RdS w' (fun k => w.heap.size ≤ k) u ((pickL l pat).map fun l => ⟨l.toArray⟩) ∧ Chg Non w w' := by
  obtain ⟨A, c, rfl, hc, hm⟩ := hr.shape
  have HR := hide hr
  have HSZ := hide hsz
  have HPT := hide hpat
  clear hr hsz hpat
  unfold maxLen at hm
  go_enter Tryd.func6, Tryd.ntmps6
  go_wp2_with fail
  go_loopw [5, 10] (fun ov iv wr => ∃ k : Nat, iv = .int .i64 (k : Int) ∧ k ≤ l.length ∧ OwnS wr w.heap.size ov (filtS (l.take k) pat) ∧ Chg Non w wr) (fun _ iv _ => l.length - (intOf iv).toNat)
  case atStart => exact ⟨0, rfl, Nat.zero_le _, OwnS.nil_ _ _, Chg.refl _ _⟩
  case round =>
    obtain ⟨k, rfl, hk, hO, hcw⟩ := hrel
    obtain ⟨oA, oc, rfl, hoc, hom⟩ := hO.shape
    by_cases h1 : k < l.length
    · have hd1 : decide ((k : Int) < (l.length : Int)) = true := decide_eq_true (by omega)
      have hi1 : (0 : Int) ≤ (k : Int) := by omega
      have hi2 : (k : Int) < (l.length : Int) := by omega
      obtain ⟨ad, rfl, _, hcell⟩ := (HR.out.c0 hcw).at_ h1
      obtain ⟨s, hs⟩ : ∃ s, s = l[k] := ⟨_, rfl⟩
      have hss : s.size ≤ 1000000000 := HSZ.out s (by rw [hs]; exact List.getElem_mem h1)
      have hsn := filtS_snoc l pat k h1
      rw [← hs] at hcell hsn
      have hfl := filtS_len (l.take k) pat
      rw [List.length_take] at hfl
      have hflb : (filtS (l.take k) pat).length + [s].length ≤ 1000000000000 := by simp; omega
      have hmt := fun (w' : World) => labMatch (Str.any s) (Str.any pat) (by rw [← (Str.any s).sz]; exact hss) (by rw [← (Str.any pat).sz]; exact HPT.out) w'
      have H1 := hide h1
      have HMT := hide hmt
      have HSN := hide hsn
      have HO := hide hO
      have HCW := hide hcw
      obtain ⟨nf, hnf⟩ : ∃ nf, nf = (filtS (l.take k) pat).length := ⟨_, rfl⟩
      rw [← hnf] at HO ⊢
      have HNF := hide hnf
      clear hs hfl hmt hsn hO hcw hnf hoc hom
      go_wp2_with fail
      refine (HMT.out _).mono ?_
      rintro e w1 ⟨rfl, hq1⟩
      clear hcell
      cases hM : matS s.data.toList pat.data.toList
      · have HS2 := hide (show filtS (l.take (k + 1)) pat = filtS (l.take k) pat by rw [HSN.out, hM]; simp)
        have HO2 := hide (HO.out.c0 ((Chg.refl Non wr).quiet hq1))
        have HC2 := hide (HCW.out.quiet hq1)
        clear hq1 hM HSN HO HCW
        go_wp2_with fail
        go_round
        case rel => exact ⟨k + 1, by go_num, by have := H1.out; omega, by rw [HS2.out]; exact HO2.out, HC2.out⟩
        case measure => have := H1.out; simp [intOf]; omega
      · have HS2 := hide (show filtS (l.take (k + 1)) pat = filtS (l.take k) pat ++ [s] by rw [HSN.out, hM]; simp)
        have kA := (HCW.out.quiet hq1).alloc (.cells #[.string s] 9)
        have hO2 := HO.out.c0 (((Chg.refl Non wr).quiet hq1).alloc (.cells #[.string s] 9))
        have hr1 := RdS.one w1 9 s
        have hsz2 := kA.size
        have HKA := hide kA
        clear hq1 hM HSN HO HCW kA
        go_wp2_with (at_builtin; refine append_S rfl _ _ rfl hO2 rfl hr1 rfl hflb hsz2 ?_; intro v1 w2 hown1 hg1 hat1)
        have HC2 := hide (HKA.out.grown hg1 fun j hj hlt => by have := (hO2.lt j hj).1; omega)
        clear hO2 hr1 hg1 hat1 hflb hsz2
        go_wp2_with fail
        go_round
        case rel => exact ⟨k + 1, by go_num, by have := H1.out; omega, by rw [HS2.out]; exact hown1, HC2.out⟩
        case measure => have := H1.out; simp [intOf]; omega
    · obtain rfl : k = l.length := by omega
      have hd1 : decide ((l.length : Int) < (l.length : Int)) = false := decide_eq_false (by omega)
      rw [List.take_length] at hO ⊢
      have hfb := filtS_len l pat
      have hfs : ∀ s ∈ filtS l pat, s.size ≤ 1000000000 := fun s hs => HSZ.out s (List.mem_filter.1 hs).1
      have hpf := pick_filt l pat
      rw [List.take_length] at hoc
      obtain ⟨L, hL⟩ : ∃ L, L = filtS l pat := ⟨_, rfl⟩
      rw [← hL] at hO hfb hfs hpf hoc ⊢
      have HPF := hide hpf
      have HCW := hide hcw
      clear hL hpf hcw
      by_cases hLL : L = []
      · subst hLL
        have hs0 := fun (w' : World) => Tryd.slices_SortFunc_none (α := Txt) oA oc (.func (.func 18) #[] #[]) w'
        have hc0 := fun (w' : World) => Tryd.slices_Compact_string_empty oA oc w'
        have HP0 := hide (show pickL l pat = [] by rw [← HPF.out, List.map_nil, srt, List.mergeSort_nil]; rfl)
        have HO := hide hO
        have HOC := hide hom
        clear hO hfs hfb hoc hom
        rw [show ([] : List ByteArray).length = 0 from rfl]
        go_wp2_with fail
        refine (hs0 _).mono ?_
        rintro e w1 ⟨rfl, rfl⟩
        go_wp2_with fail
        refine (hc0 _).mono ?_
        rintro e w1 ⟨rfl, rfl⟩
        go_wp2_with fail
        go_ret
        refine ⟨_, rfl, ?_, HCW.out⟩
        rw [HP0.out]
        exact ⟨rfl, oA, oc, rfl, Nat.zero_le _, HOC.out, fun h => absurd h (by simp)⟩
      · have hpos : 0 < L.length := List.length_pos_iff.2 hLL
        clear hLL
        obtain ⟨b, cap, e1, hb1, hb2⟩ := World.ownsRow.form hO hpos
        injection e1 with e1 e2 e3
        subst e1 e3
        have hsrt := pickSort hO hfs (by omega) hb2
        have HBB := hide hb1
        have HOM := hide hom
        have HOC := hide hoc
        have HLB := hide (show L.length ≤ 1000000 by omega)
        obtain ⟨nL, hnL⟩ : ∃ nL, nL = L.length := ⟨_, rfl⟩
        rw [← hnL] at hsrt hoc ⊢
        have HNL := hide hnL
        clear hO hfs hfb hpos hb1 hb2 hnL hoc hom
        go_wp2_with fail
        refine hsrt.mono ?_
        rintro e w1 ⟨rfl, hH1, hC1⟩
        have hcp := pickCompact (D := L.map (·.data.toList)) (c := oc) hH1 (by rw [List.length_map]; exact HLB.out) (by rw [List.length_map]; exact HOC.out) HOM.out
        rw [List.length_map, ← HNL.out, HPF.out] at hcp
        have HC1 := hide hC1
        clear hH1 hC1 hsrt
        go_wp2_with fail
        refine hcp.mono ?_
        rintro e w2 ⟨u, rfl, hR2, hC2⟩
        have HC2 := hide hC2
        have HR2 := hide hR2
        clear hcp hC2 hR2
        go_wp2_with fail
        go_ret
        refine ⟨u, rfl, HR2.out.mono fun k hk => by have := HBB.out; omega, ?_⟩
        exact (HCW.out.trans HC1.out fun k hk e => by have := HBB.out; omega).trans HC2.out fun k hk e => by have := HBB.out; omega
end Go.Proofs.YtnoimmhdoaeeiaaDoor
