/- The walk of rec.Touched. -/
import Derived.Test.YtpbgjldjipgfeaaTxM
import Derived.Test.YtpbgjldjipgfeaaOpenRl
import Derived.Deep.Cut
import Derived.Deep.CutRange
namespace Go.Proofs.Ytpbgjldjipgfeaa
open Go.RowKit
set_option linter.unusedVariables false
set_option linter.unusedSimpArgs false

theorem rec_at {w : World} {F : Nat → Prop} {n m cp k : Nat} {Ad : Option Addr} {X Y : List Value} {x : RcS} {a b c d : Value} (h : RdV w F 11 (.slice Ad n cp) m (X ++ (recL x a b c d ++ Y))) (hX : X.length = k * 11) :
    ∃ ad, Ad = some ad ∧ F ad.block ∧ w.cell? (ad.add (k * 11)) = some (.int .i64 x.kind) ∧ w.cell? ⟨(ad.add (k * 11)).block, (ad.add (k * 11)).off + 1, none⟩ = some (.int .u64 (x.boot : Int)) ∧ w.cell? ⟨(ad.add (k * 11)).block, (ad.add (k * 11)).off + 2, none⟩ = some (.int .u64 (x.sess : Int)) ∧ w.cell? ⟨(ad.add (k * 11)).block, (ad.add (k * 11)).off + 3, none⟩ = some (.int .u64 (x.seq : Int)) ∧ w.cell? ⟨(ad.add (k * 11)).block, (ad.add (k * 11)).off + 4, none⟩ = some (a) ∧ w.cell? ⟨(ad.add (k * 11)).block, (ad.add (k * 11)).off + 5, none⟩ = some (b) ∧ w.cell? ⟨(ad.add (k * 11)).block, (ad.add (k * 11)).off + 6, none⟩ = some (.bool x.commit) ∧ w.cell? ⟨(ad.add (k * 11)).block, (ad.add (k * 11)).off + 7, none⟩ = some (c) ∧ w.cell? ⟨(ad.add (k * 11)).block, (ad.add (k * 11)).off + 8, none⟩ = some (d) ∧ w.cell? ⟨(ad.add (k * 11)).block, (ad.add (k * 11)).off + 9, none⟩ = some (.int .u64 (x.id : Int)) ∧ w.cell? ⟨(ad.add (k * 11)).block, (ad.add (k * 11)).off + 10, none⟩ = some (.string x.name) := by
  obtain ⟨h1, A', c', e, _, _, h2⟩ := h
  injection e with e1 e2 e3
  subst e1
  have hpos : 0 < m := by simp [recL] at h1; omega
  obtain ⟨ad, e, hF, hc⟩ := h2 hpos
  subst e
  have key : ∀ i u, i < 11 → (recL x a b c d)[i]? = some u → w.cell? (ad.add (k * 11 + i)) = some u := fun i u hi hu => hc _ _ (by
    rw [← hX, List.getElem?_append_right (by omega), Nat.add_sub_cancel_left, List.getElem?_append_left (by simp only [recL, List.length_cons, List.length_nil]; omega)]
    exact hu)
  refine ⟨ad, rfl, hF, ?_, ?_, ?_, ?_, ?_, ?_, ?_, ?_, ?_, ?_, ?_⟩
  · exact key 0 _ (by omega) rfl
  · rw [← add_succ ad (k * 11) 1 (by omega)]; exact key 1 _ (by omega) rfl
  · rw [← add_succ ad (k * 11) 2 (by omega)]; exact key 2 _ (by omega) rfl
  · rw [← add_succ ad (k * 11) 3 (by omega)]; exact key 3 _ (by omega) rfl
  · rw [← add_succ ad (k * 11) 4 (by omega)]; exact key 4 _ (by omega) rfl
  · rw [← add_succ ad (k * 11) 5 (by omega)]; exact key 5 _ (by omega) rfl
  · rw [← add_succ ad (k * 11) 6 (by omega)]; exact key 6 _ (by omega) rfl
  · rw [← add_succ ad (k * 11) 7 (by omega)]; exact key 7 _ (by omega) rfl
  · rw [← add_succ ad (k * 11) 8 (by omega)]; exact key 8 _ (by omega) rfl
  · rw [← add_succ ad (k * 11) 9 (by omega)]; exact key 9 _ (by omega) rfl
  · rw [← add_succ ad (k * 11) 10 (by omega)]; exact key 10 _ (by omega) rfl

def txOf (x : RcS) : Tx := (x.boot, x.sess, x.seq)
def tchF (acc : List Tx) (x : RcS) : List Tx := if hasT x.kind && !acc.contains (txOf x) then acc ++ [txOf x] else acc
theorem tchF_len (acc : List Tx) (x : RcS) : (tchF acc x).length ≤ acc.length + 1 := by
  unfold tchF; split <;> simp
theorem tchL_len : ∀ (l : List RcS) (acc : List Tx), (l.foldl tchF acc).length ≤ acc.length + l.length
  | [], acc => by simp
  | x :: l, acc => by
    rw [List.foldl_cons, List.length_cons]
    have h1 := tchL_len l (tchF acc x)
    have h2 := tchF_len acc x
    omega
theorem fldS_cases (k : Int) : (fldS k = ⟨#[84, 87, 82]⟩ ∧ hasT k = true) ∨ (fldS k = ⟨#[84]⟩ ∧ hasT k = true) ∨ (fldS k = ⟨#[84, 87, 65]⟩ ∧ hasT k = true) ∨ (fldS k = ⟨#[84, 67, 83, 65]⟩ ∧ hasT k = true) ∨ (fldS k = ⟨#[73, 78]⟩ ∧ hasT k = false) ∨ (fldS k = ⟨#[]⟩ ∧ hasT k = false) := by
  by_cases h : 1 ≤ k ∧ k ≤ 9
  · rcases (show k = 1 ∨ k = 2 ∨ k = 3 ∨ k = 4 ∨ k = 5 ∨ k = 6 ∨ k = 7 ∨ k = 8 ∨ k = 9 by omega) with rfl | rfl | rfl | rfl | rfl | rfl | rfl | rfl | rfl
    · exact .inl ⟨rfl, rfl⟩
    · exact .inr (.inl ⟨rfl, rfl⟩)
    · exact .inr (.inl ⟨rfl, rfl⟩)
    · exact .inr (.inr (.inl ⟨rfl, rfl⟩))
    · exact .inr (.inr (.inr (.inr (.inl ⟨rfl, rfl⟩))))
    · exact .inr (.inr (.inr (.inl ⟨rfl, rfl⟩)))
    · exact .inr (.inr (.inr (.inr (.inl ⟨rfl, rfl⟩))))
    · exact .inr (.inr (.inr (.inr (.inl ⟨rfl, rfl⟩))))
    · exact .inr (.inl ⟨rfl, rfl⟩)
  · refine .inr (.inr (.inr (.inr (.inr ⟨?_, hasT_not h⟩))))
    unfold fldS
    rw [if_neg (by omega), if_neg (by omega), if_neg (by omega), if_neg (by omega), if_neg (by omega)]

set_option maxHeartbeats 16000000 in
set_option maxRecDepth 100000 in
theorem recTouched {v : Value} {l : List RcS} {F : Nat → Prop} {w : World} (hr : RdL w F v l) (hl : l.length ≤ 1000000000) :
    Calls Try.prog 22 #[v] w fun e w' => ∃ u, e = .returned u ∧ w'.ownsRow w.heap.size 24 3 u (l.foldl tchF []).length ((l.foldl tchF []).flatMap tvs) ∧ Chg Non w w' := by
  obtain ⟨qs0, hq0, hV, hE⟩ := hr
  obtain ⟨A, m, c, rfl⟩ := RdV.sl hV
  have hm : m = l.length := by obtain ⟨_, A', c', e, _⟩ := hV; injection e
  have HM := hide hm
  clear hm
  go_enter Try.func22, Try.ntmps22
  go_wp2_with fail
  go_loopw [3, 9] (fun out iv wr => ∃ (l1 l2 : List RcS) (q1 q2 : List Q4), iv = .int .i64 (l1.length : Int) ∧ Hid (l = l1 ++ l2) ∧ Hid (qs0 = q1 ++ q2) ∧ q1.length = l1.length ∧ Hid (wr.ownsRow w.heap.size 24 3 out (l1.foldl tchF []).length ((l1.foldl tchF []).flatMap tvs)) ∧ Chg Non w wr) (fun _ iv _ => l.length - (intOf iv).toNat)
  case atStart => exact ⟨[], l, [], qs0, rfl, hide rfl, hide rfl, rfl, hide (World.ownsRow_nil _ _ _ 3), Chg.refl _ _⟩
  case round =>
    obtain ⟨l1, l2, q1, q2, rfl, HL, HQ, hx1, HO, hcw⟩ := hrel
    have hlen : l.length = l1.length + l2.length := by rw [HL.out, List.length_append]
    have hlen2 : q2.length = l2.length := by have := hq0; rw [HQ.out, HL.out, List.length_append, List.length_append] at this; omega
    have hm := HM.out
    obtain ⟨oA, on, oc, rfl⟩ := row_sl HO.out
    rcases l2 with _ | ⟨x, l2⟩
    · have hge : ¬ ((l1.length : Int) < (m : Int)) := by simp at hlen; omega
      have hL : l1 = l := by have := HL.out; simpa using this.symm
      have HF := hide hL
      clear hL hlen hlen2 hm
      go_wp2_with fail
      go_ret
      refine ⟨_, rfl, ?_, hcw⟩
      have h := HO.out
      rw [HF.out] at h
      exact h
    · rcases q2 with _ | ⟨q, q2⟩
      · simp at hlen2
      · simp only [List.length_cons] at hlen hlen2
        have h1i : (l1.length : Int) < (m : Int) := by omega
        have h0i : (0 : Int) ≤ (l1.length : Int) := by omega
        have h9 : l1.length ≤ 1000000000 := by omega
        obtain ⟨va, vb, vc, vd⟩ := q
        have hVr := RdV.chg hV hcw (fun _ _ h => h)
        rw [HL.out, HQ.out, flL_app hx1, flL_cons] at hVr
        obtain ⟨ad, rfl, _, c0, c1, c2, c3, c4, c5, c6, c7, c8, c9, c10⟩ := rec_at (k := l1.length) hVr (flL_len q1 l1 hx1)
        have hrx : RecR wr F x va vb vc vd := (hE l1.length (va, vb, vc, vd) x (by rw [HQ.out, List.getElem?_append_right (by omega), hx1, Nat.sub_self]; rfl) (by rw [HL.out, List.getElem?_append_right (by omega), Nat.sub_self]; rfl)).c0 hcw
        obtain ⟨B1, m1, d1, rfl⟩ := hrx.ws.sl
        obtain ⟨B2, m2, d2, rfl⟩ := hrx.rs.sl
        obtain ⟨B3, m3, d3, rfl⟩ := RdV.sl hrx.sh
        obtain ⟨B4, m4, d4, rfl⟩ := hrx.rep.sl
        simp only at c0 c1 c2 c3 c4 c5 c6 c7 c8 c9 c10
        have HLEN := hide (And.intro hlen (And.intro hlen2 (And.intro hx1 hm)))
        clear hVr hlen hlen2 hx1 hm hrx
        go_upto_region 5 with fail
        clear c0 c1 c2 c3 c4 c5 c6 c7 c8 c9 c10
        have hX := Blk.new wr 32 #[.int .i64 x.kind, .int .u64 (x.boot : Int), .int .u64 (x.sess : Int), .int .u64 (x.seq : Int), .slice B1 m1 d1, .slice B2 m2 d2, .bool x.commit, .slice B3 m3 d3, .slice B4 m4 d4, .int .u64 (x.id : Int), .string x.name]
        have hcA := (Chg.refl Non wr).alloc (.cells #[.int .i64 x.kind, .int .u64 (x.boot : Int), .int .u64 (x.sess : Int), .int .u64 (x.seq : Int), .slice B1 m1 d1, .slice B2 m2 d2, .bool x.commit, .slice B3 m3 d3, .slice B4 m4 d4, .int .u64 (x.id : Int), .string x.name] 32)
        obtain ⟨bp, hbp⟩ : ∃ b, b = wr.heap.size := ⟨_, rfl⟩
        rw [← hbp] at hX ⊢
        generalize World.alloc _ _ = wA at hX hcA ⊢
        clear hbp
        have HB := hide hX
        obtain ⟨acc, hacc⟩ : ∃ acc, acc = l1.foldl tchF [] := ⟨_, rfl⟩
        have HOA : Hid (wA.ownsRow w.heap.size 24 3 (.slice oA on oc) acc.length (acc.flatMap tvs)) := hide (by rw [hacc]; exact row_chg HO.out hcA (fun _ _ h => h))
        have hal : acc.length ≤ 1000000000 := by rw [hacc]; have := tchL_len l1 []; simp at this; omega
        have HACC := hide hacc
        clear hacc HO
        have e0 : wA.cell? ⟨bp, 0, none⟩ = some (.int .i64 x.kind) := hX.cell 0
        have e1 : wA.cell? ⟨bp, 1, none⟩ = some (.int .u64 (x.boot : Int)) := hX.cell 1
        have e2 : wA.cell? ⟨bp, 2, none⟩ = some (.int .u64 (x.sess : Int)) := hX.cell 2
        have e3 : wA.cell? ⟨bp, 3, none⟩ = some (.int .u64 (x.seq : Int)) := hX.cell 3
        clear hX
        go_upto_region 6 with (go_at_call 23; refine recFields.mono ?_; rintro e w' ⟨rfl, hw⟩; replace hw := hw.symm; subst hw)
        go_cut [6, 29] from 15 to 30 (fun s6 b wx => b = .bool (hasT x.kind && !acc.contains (txOf x)) ∧ Chg Non wA wx)
        case first =>
          have hrd : RdTx wA (fun _ => True) (.slice oA on oc) acc := (RdV.of_own HOA.out).mono fun _ _ => trivial
          rcases fldS_cases x.kind with ⟨hs, ht⟩ | ⟨hs, ht⟩ | ⟨hs, ht⟩ | ⟨hs, ht⟩ | ⟨hs, ht⟩ | ⟨hs, ht⟩
          · rw [hs]
            have HSS := hide hs
            have HR := hide (show (hasT x.kind && !acc.contains (txOf x)) = !acc.contains (txOf x) by rw [ht, Bool.true_and])
            clear hs ht
            go_wp2_with (go_at_call 42; refine (txContains (p := txOf x) hrd).mono ?_; rintro e w' ⟨rfl, hcc⟩; obtain ⟨bb, hbb⟩ : ∃ bb, bb = acc.contains (txOf x) := ⟨_, rfl⟩; rw [← hbb]; have HBB := hide hbb; clear hbb)
            go_meet
            exact ⟨by rw [HR.out, ← HBB.out], hcc⟩
          · rw [hs]
            have HSS := hide hs
            have HR := hide (show (hasT x.kind && !acc.contains (txOf x)) = !acc.contains (txOf x) by rw [ht, Bool.true_and])
            clear hs ht
            go_wp2_with (go_at_call 42; refine (txContains (p := txOf x) hrd).mono ?_; rintro e w' ⟨rfl, hcc⟩; obtain ⟨bb, hbb⟩ : ∃ bb, bb = acc.contains (txOf x) := ⟨_, rfl⟩; rw [← hbb]; have HBB := hide hbb; clear hbb)
            go_meet
            exact ⟨by rw [HR.out, ← HBB.out], hcc⟩
          · rw [hs]
            have HSS := hide hs
            have HR := hide (show (hasT x.kind && !acc.contains (txOf x)) = !acc.contains (txOf x) by rw [ht, Bool.true_and])
            clear hs ht
            go_wp2_with (go_at_call 42; refine (txContains (p := txOf x) hrd).mono ?_; rintro e w' ⟨rfl, hcc⟩; obtain ⟨bb, hbb⟩ : ∃ bb, bb = acc.contains (txOf x) := ⟨_, rfl⟩; rw [← hbb]; have HBB := hide hbb; clear hbb)
            go_meet
            exact ⟨by rw [HR.out, ← HBB.out], hcc⟩
          · rw [hs]
            have HSS := hide hs
            have HR := hide (show (hasT x.kind && !acc.contains (txOf x)) = !acc.contains (txOf x) by rw [ht, Bool.true_and])
            clear hs ht
            go_wp2_with (go_at_call 42; refine (txContains (p := txOf x) hrd).mono ?_; rintro e w' ⟨rfl, hcc⟩; obtain ⟨bb, hbb⟩ : ∃ bb, bb = acc.contains (txOf x) := ⟨_, rfl⟩; rw [← hbb]; have HBB := hide hbb; clear hbb)
            go_meet
            exact ⟨by rw [HR.out, ← HBB.out], hcc⟩
          · rw [hs]
            have HSS := hide hs
            have HR := hide (show (hasT x.kind && !acc.contains (txOf x)) = false by rw [ht, Bool.false_and])
            clear hs ht
            go_wp2_with fail
            go_meet
            exact ⟨by rw [HR.out], Chg.refl _ _⟩
          · rw [hs]
            have HSS := hide hs
            have HR := hide (show (hasT x.kind && !acc.contains (txOf x)) = false by rw [ht, Bool.false_and])
            clear hs ht
            go_wp2_with fail
            go_meet
            exact ⟨by rw [HR.out], Chg.refl _ _⟩
        case rest =>
          obtain ⟨rfl, hcX⟩ := hcut
          obtain ⟨wz, hwz⟩ : ∃ z, z = wA := ⟨_, rfl⟩
          have hcT := hcw.trans0 (hcA.trans0 hcX)
          have hrowX := row_chg HOA.out hcX (fun _ _ h => h)
          have HX1 := hide (HB.out.c0 hcX)
          clear e0 e1 e2 e3 hwz
          cases hin : (hasT x.kind && !acc.contains (txOf x))
          · have hF : (l1 ++ [x]).foldl tchF [] = acc := by rw [List.foldl_append, ← HACC.out, List.foldl_cons, List.foldl_nil, tchF, if_neg (by rw [hin]; simp)]
            have HF := hide hF
            clear hF hin
            go_wp2_with fail
            go_roundw
            case rel =>
              refine ⟨l1 ++ [x], l2, q1 ++ [(.slice B1 m1 d1, .slice B2 m2 d2, .slice B3 m3 d3, .slice B4 m4 d4)], q2, by rw [List.length_append]; go_num, hide (by rw [HL.out, List.append_assoc]; rfl), hide (by rw [HQ.out, List.append_assoc]; rfl), by simp [HLEN.out.2.2.1], hide ?_, hcT⟩
              rw [HF.out]; exact hrowX
            case measure => (have h := HLEN.out.1; have hm := HLEN.out.2.2.2; simp [intOf]; omega)
          · have hF : (l1 ++ [x]).foldl tchF [] = acc ++ [txOf x] := by rw [List.foldl_append, ← HACC.out, List.foldl_cons, List.foldl_nil, tchF, if_pos hin]
            have HF := hide hF
            clear hF hin
            obtain ⟨wb, hwb, HX2, hrow2, hcT2, hcXb⟩ : ∃ z, z = _ ∧ Hid (Blk z bp 32 #[.int .i64 x.kind, .int .u64 (x.boot : Int), .int .u64 (x.sess : Int), .int .u64 (x.seq : Int), .slice B1 m1 d1, .slice B2 m2 d2, .bool x.commit, .slice B3 m3 d3, .slice B4 m4 d4, .int .u64 (x.id : Int), .string x.name]) ∧ z.ownsRow w.heap.size 24 3 (.slice oA on oc) acc.length (acc.flatMap tvs) ∧ Chg Non w z ∧ Chg Non wA z := ⟨_, rfl, HX1, hrowX, hcT, hcX⟩
            rw [← hwb]
            clear hwb HX1 hrowX hcT hcX
            have e1 : wb.cell? ⟨bp, 1, none⟩ = some (.int .u64 (x.boot : Int)) := HX2.out.cell 1
            have e2 : wb.cell? ⟨bp, 2, none⟩ = some (.int .u64 (x.sess : Int)) := HX2.out.cell 2
            have e3 : wb.cell? ⟨bp, 3, none⟩ = some (.int .u64 (x.seq : Int)) := HX2.out.cell 3
            have hbl : Blk (wb.alloc (.cells #[.int .u64 (x.boot : Int), .int .u64 (x.sess : Int), .int .u64 (x.seq : Int)] 24)) wb.heap.size 24 #[.int .u64 ((txOf x).1 : Int), .int .u64 ((txOf x).2.1 : Int), .int .u64 ((txOf x).2.2 : Int)] := Blk.new wb _ _
            have hcL := (Chg.refl Non wb).alloc (.cells #[.int .u64 (x.boot : Int), .int .u64 (x.sess : Int), .int .u64 (x.seq : Int)] 24)
            have hrowL := row_chg hrow2 hcL (fun _ _ h => h)
            have hsz := Nat.le_trans hcT2.size hcL.size
            go_wp2_with (at_builtin; refine append_Tx rfl _ _ rfl hrowL rfl hbl rfl (by omega) hsz ?_; intro v3 w3 hO3 hg3 hat3; obtain ⟨A3, n3, k3, rfl⟩ := row_sl hO3)
            have hcF := (hcT2.trans0 hcL).own hg3 (fun k hk => (World.ownsRow.lt hrow2 k hk).1)
            go_roundw
            case rel =>
              refine ⟨l1 ++ [x], l2, q1 ++ [(.slice B1 m1 d1, .slice B2 m2 d2, .slice B3 m3 d3, .slice B4 m4 d4)], q2, by rw [List.length_append]; go_num, hide (by rw [HL.out, List.append_assoc]; rfl), hide (by rw [HQ.out, List.append_assoc]; rfl), by simp [HLEN.out.2.2.1], hide ?_, hcF⟩
              rw [HF.out, List.length_append, List.flatMap_append, List.flatMap_cons, List.flatMap_nil, List.append_nil]; exact hO3
            case measure => (have h := HLEN.out.1; have hm := HLEN.out.2.2.2; simp [intOf]; omega)
end Go.Proofs.Ytpbgjldjipgfeaa
