/- rpc's wire, where it reads: a packet. -/
import Derived.Test.YtncchbcoldgpbaaRkM
open List (getElem_toArray getElem_cons_succ getElem_cons_zero setIfInBounds_toArray set_cons_zero set_cons_succ)
namespace Go.Proofs.Ytncchbcoldgpbaa
open Go.RowKit
set_option linter.unusedVariables false
set_option linter.unusedSimpArgs false

theorem AskV.low {w : World} {base b' : Nat} {y : AskS} {vo vr : Value} {xs : List (Value × Value)} (h : AskV w base y vo vr xs) (hb : b' ≤ base) : AskV w b' y vo vr xs := ⟨h.ops.low hb, h.reply.low hb, h.kk, h.u⟩
theorem AnsV.low {w : World} {base b' : Nat} {y : AnsS} {vr vw vp : Value} (h : AnsV w base y vr vw vp) (hb : b' ≤ base) : AnsV w b' y vr vw vp := ⟨h.out.low hb, h.reply.low hb, h.kk, h.ke, h.u⟩

set_option maxHeartbeats 64000000 in
set_option maxRecDepth 100000 in
theorem rvPacket {x g a b : Nat} {er : Int} {l : List UInt8} {F : Nat → Prop} {w : World} (h : WRd w F x g l a er) (hB : Blk w b 63 zeroP) (hf : Free F x g b) :
    Calls Try.prog 26 #[.pointer (some ⟨x, 0, none⟩), .pointer (some ⟨b, 0, none⟩)] w fun e w' =>
      (e = .returned (.bool true) ∧ ∃ (fr tt : Nat) (p : Pay) (v1 v2 v3 : Value) (a' : Nat) (e' : Int), WRd w' F x g l a' e' ∧ PayV w' w.heap.size v1 v2 v3 p ∧ Blk w' b 63 (pktA fr tt p v1 v2 v3) ∧ Chg (fun k => k = g ∨ k = b) w w' ∧ Took DPkt EPkt l a er (fr, tt, p) a' e') ∨
      ((e = .returned (.bool false) ∧ Fell DPkt EPkt l a er ∧ (∃ q, Blk w' b 63 q ∧ q.size = zeroP.size) ∧ Chg (fun k => k = g ∨ k = b) w w') ∨
      (∃ er' : Int, er' ≠ 0 ∧ e = .panicked [{ v := .iface 39 (.int .i64 er'), recovered := false }] ∧ Fell DPkt EPkt l a er ∧ (∃ q, Blk w' b 63 q ∧ q.size = zeroP.size) ∧ Chg (fun k => k = g ∨ k = b) w w')) := by
  have hgl := h.rd.lt
  have hbl := hB.lt
  have HZ0 := hide (show zeroP[0]? = some (.int .i64 0) from rfl)
  have hpz : zeroP.size = 65 := rfl
  go_enter Try.func26, Try.ntmps26
  have hpt := RdPt.lit w 133 #[.pointer (some ⟨b, 0, none⟩)] [⟨b, 0, none⟩] 1 rfl rfl (by simp [maxLen])
  have hcL := (Chg.refl Non w).alloc (.cells #[.pointer (some ⟨b, 0, none⟩)] 133)
  have hWL := (h).c0 hcL
  have hBL := (hB).c0 hcL
  have hFp : ∀ k, k = w.heap.size → k ≠ g ∧ k ≠ b := fun k e => by have := (h).rd.lt; have := (hB).lt; omega
  have hos : ∀ o ∈ [0], ∃ z, (zeroP)[o]? = some (.int .i64 z) := fun o ho => by rw [List.mem_singleton] at ho; subst ho; exact ⟨_, (HZ0.out)⟩
  go_upto_region 2 with (go_at_call 52; refine (rvWhole (os := [0]) hWL hpt hFp hBL hf hos).mono ?_; rintro e w1 ⟨rfl, zs, a1, e1, hWx, hnx, hux, hBx, hcx, hTx⟩)
  obtain ⟨z, rfl⟩ : ∃ n, zs = [n] := List.length_eq_one_iff.1 hnx
  have HU1 := hide (hux z (by simp))
  have HB1 := hide (show Blk w1 b 63 (putL (zeroP) [0] [iv z]) from hBx)
  have HW1 := hide hWx
  have HT1 := hide (hTx.single)
  have HC1 := hide (((chgX (S := fun k => k = g ∨ k = b) hcL).trans hcx fun _ _ h => h))
  clear hWx hBx hcx hTx
  clear hpt hcL hWL hBL hFp hos hnx hux
  go_upto_region 2 with fail
  have hcd : Chg Non w1 w1.drew := (Chg.refl Non w1).drew
  have hpt := RdPt.lit w1.drew 135 #[.pointer (some ⟨b, 1, none⟩), .pointer (some ⟨b, 2, none⟩)] [⟨b, 1, none⟩, ⟨b, 2, none⟩] 2 rfl rfl (by simp [maxLen])
  have hcM := (Chg.refl Non w1.drew).alloc (.cells #[.pointer (some ⟨b, 1, none⟩), .pointer (some ⟨b, 2, none⟩)] 135)
  have hcL := hcd.trans0 hcM
  have hWL := (HW1.out).c0 hcL
  have hBL := (HB1.out).c0 hcL
  have hFp : ∀ k, k = w1.drew.heap.size → k ≠ g ∧ k ≠ b := fun k e => by have := (HW1.out).rd.lt; have := (HB1.out).lt; have : w1.drew.heap.size = w1.heap.size := rfl; omega
  have hos : ∀ o ∈ [1, 2], o < (putL (zeroP) [0] [iv z]).size := fun o ho => by (try simp only [putL_size, Array.size_setIfInBounds]); simp at ho; omega
  have HX := hide (rvNum (os := [1, 2]) hWL hpt hFp hBL hf hos)
  clear hos hFp hpt hWL hBL
  refine wp_region_T (fun _ => True) 99 (by kernel_rfl) ?_
  have HS := hide True.intro
  refine AnyT.take (i := 0) (v := ?_) rfl (by kernel_rfl) (by kernel_rfl) (fun _ _ _ h => h) (by kernel_rfl) (by kernel_rfl) (Or.inl ⟨by rfl, ?_⟩) HS.out ?_
  rotate_left
  · (intro w9 h9; go_simp; try with_reducible rfl)
  try simp only [getElem_toArray, getElem_cons_succ, getElem_cons_zero, Act.put, setIfInBounds_toArray, set_cons_zero, set_cons_succ]
  refine AnyT.take (i := 1) (v := ?_) rfl (by kernel_rfl) (by kernel_rfl) (fun _ _ _ h => h) (by kernel_rfl) (by kernel_rfl) (Or.inl ⟨by rfl, ?_⟩) HS.out ?_
  rotate_left
  · (intro w9 h9; go_simp; try with_reducible rfl)
  try simp only [getElem_toArray, getElem_cons_succ, getElem_cons_zero, Act.put, setIfInBounds_toArray, set_cons_zero, set_cons_succ]
  refine AnyT.take (i := 2) (v := ?_) rfl (by kernel_rfl) (by kernel_rfl) (fun _ _ _ h => h) (by kernel_rfl) (by kernel_rfl) (Or.inl ⟨by rfl, ?_⟩) HS.out ?_
  rotate_left
  · (intro w9 h9; go_simp; try with_reducible rfl)
  try simp only [getElem_toArray, getElem_cons_succ, getElem_cons_zero, Act.put, setIfInBounds_toArray, set_cons_zero, set_cons_succ]
  refine AnyT.take (i := 3) (v := ?_) rfl (by kernel_rfl) (by kernel_rfl) (fun _ _ _ h => h) (by kernel_rfl) (by kernel_rfl) (Or.inl ⟨by rfl, ?_⟩) HS.out ?_
  rotate_left
  · (intro w9 h9; go_simp; try with_reducible rfl)
  try simp only [getElem_toArray, getElem_cons_succ, getElem_cons_zero, Act.put, setIfInBounds_toArray, set_cons_zero, set_cons_succ]
  refine AnyT.take (i := 4) (v := ?_) rfl (by kernel_rfl) (by kernel_rfl) (fun _ _ _ h => h) (by kernel_rfl) (by kernel_rfl) (Or.inl ⟨by rfl, ?_⟩) HS.out ?_
  rotate_left
  · (intro w9 h9; go_simp; try with_reducible rfl)
  try simp only [getElem_toArray, getElem_cons_succ, getElem_cons_zero, Act.put, setIfInBounds_toArray, set_cons_zero, set_cons_succ]
  refine AnyT.take (i := 5) (v := ?_) rfl (by kernel_rfl) (by kernel_rfl) (fun _ _ _ h => h) (by kernel_rfl) (by kernel_rfl) (Or.inl ⟨by rfl, ?_⟩) HS.out ?_
  rotate_left
  · (intro w9 h9; go_simp; try with_reducible rfl)
  try simp only [getElem_toArray, getElem_cons_succ, getElem_cons_zero, Act.put, setIfInBounds_toArray, set_cons_zero, set_cons_succ]
  refine AnyT.take (i := 6) (v := ?_) rfl (by kernel_rfl) (by kernel_rfl) (fun _ _ _ h => h) (by kernel_rfl) (by kernel_rfl) (Or.inl ⟨by rfl, ?_⟩) HS.out ?_
  rotate_left
  · (intro w9 h9; go_simp; try with_reducible rfl)
  try simp only [getElem_toArray, getElem_cons_succ, getElem_cons_zero, Act.put, setIfInBounds_toArray, set_cons_zero, set_cons_succ]
  refine AnyT.one (i := 7) (by kernel_rfl) rfl (fun K hK => ?_)
  go_simp
  refine hK.out _ _ (fun _ => trivial) ?_
  clear hK K
  try simp only [getElem_toArray, getElem_cons_succ, getElem_cons_zero, Act.put, setIfInBounds_toArray, set_cons_zero, set_cons_succ]
  refine AnyT.one (i := 8) (by kernel_rfl) rfl (fun K hK => ?_)
  go_simp
  go_wp2_with (go_at_call 53; refine HX.out.mono ?_; rintro e w2 ⟨rfl, ns, a2, e2, hWx, hnx, hux, hBx, hcx, hTx⟩)
  refine hK.out _ _ (fun _ => trivial) ?_
  clear hK K
  try simp only [getElem_toArray, getElem_cons_succ, getElem_cons_zero, Act.put, setIfInBounds_toArray, set_cons_zero, set_cons_succ]
  refine AnyT.nil (by kernel_rfl) ?_
  clear HS
  obtain ⟨fr, tt, rfl⟩ : ∃ fr tt, ns = [fr, tt] := by
    match ns, hnx with
    | [fr, tt], _ => exact ⟨fr, tt, rfl⟩
  have HU2 := hide (And.intro True.intro hux)
  clear hnx
  have HB2 := hide (show Blk w2 b 63 (putL (putL (zeroP) [0] [iv z]) [1, 2] [uv fr, uv tt]) from hBx)
  have HW2 := hide hWx
  have HT2 := hide (hTx)
  have HC2 := hide (HC1.out.trans (((chgX (S := fun k => k = g ∨ k = b) hcL).trans hcx fun _ _ h => h)) fun _ _ h => h)
  clear hWx hBx hcx hTx HW1 HB1 HC1
  clear hcd hcM hcL HX hux
  by_cases z1 : z = 1
  · subst z1
    focus
      have HZ3 := hide (show zeroP[3]? = some (.int .i64 0) from rfl)
      have HZ10 := hide (show zeroP[10]? = some (.slice none 0 0) from rfl)
      have HZ14 := hide (show zeroP[14]? = some (.string ⟨#[]⟩) from rfl)
      have k0 : w2.cell? ⟨b, 0, none⟩ = some (.int .i64 1) := (HB2.out.cell 0).trans rfl
      go_upto_region 6 with fail
      clear k0
      go_upto_region 37 with (go_at_call 54; refine (rvAsk (i := 3) (HW2.out) (HB2.out) hf (putL_get (putL_get (HZ3.out) (by simp <;> omega)) (by simp <;> omega)) (putL_get (putL_get (HZ10.out) (by simp <;> omega)) (by simp <;> omega)) (putL_get (putL_get (HZ14.out) (by simp <;> omega)) (by simp <;> omega)) (by decide) (by simp only [putL_size, Array.size_setIfInBounds]; decide)).mono ?_; rintro e w3 (⟨rfl, y, vo, vr, xs, a3, e3, hWx, hux, hBx, hcx, hTx⟩ | ⟨er1, he1, rfl, hno, ⟨q, hq1, hq2⟩, hcx⟩))
      rotate_left
      · exact ⟨rfl, .inr (.inr ⟨er1, he1, rfl, Fell.pkt HT1.out HT2.out (show Fell PDAsk PEAsk l a2 e2 from hno) mkAsk mkAsk_E mkAsk_inv, ⟨q, hq1, by rw [hq2]; simp only [putL_size, Array.size_setIfInBounds]⟩, HC2.out.trans (hcx) fun _ _ h => h⟩)⟩
      have HB3 := hide (show Blk w3 b 63 (putL (putL (putL (zeroP) [0] [iv 1]) [1, 2] [uv fr, uv tt]) [3, 3 + 1, 3 + 2, 3 + 3, 3 + 10, 3 + 4, 3 + 4 + 1, 3 + 4 + 2, 3 + 7, 3 + 8, 3 + 9, 3 + 11] [iv y.kind, uv y.inc, uv y.head, uv y.boot, uv y.id, uv y.tb, uv y.ts, uv y.tq, vo, .bool y.commit, vr, .string y.name]) from hBx)
      have HW3 := hide hWx
      have HT3 := hide (hTx)
      have HC3 := hide (HC2.out.trans (hcx) fun _ _ h => h)
      have HO3 := hide (hux.low (HC2.out.size))
      clear hWx hBx hcx hTx HW2 HB2 HC2
      clear hux
      go_wp2_with fail
      go_ret
      exact .inl ⟨rfl, fr, tt, (.ask y), vo, vr, .slice none 0 0, a3, e3, HW3.out, ⟨xs, HO3.out⟩, (by have hb := HB3.out; simp only [pktA, payO, payVs, Pay.kind, putL] at hb ⊢; exact hb), HC3.out, Took.pkt (x := (y : PTAsk)) HT1.out HT2.out (HT3.out) mkAsk rfl mkAsk_E mkAsk_D mkAsk_inv⟩
  have n1 : (z == 1) = false := beq_eq_false_iff_ne.2 z1
  by_cases z2 : z = 2
  · subst z2
    clear z1 n1
    focus
      have HZ15 := hide (show zeroP[15]? = some (.int .i64 0) from rfl)
      have HZ22 := hide (show zeroP[22]? = some (.int .i64 0) from rfl)
      have HZ23 := hide (show zeroP[23]? = some (.int .i64 0) from rfl)
      have HZ24 := hide (show zeroP[24]? = some (.int .i64 0) from rfl)
      have HZ25 := hide (show zeroP[25]? = some (.slice none 0 0) from rfl)
      have HZ26 := hide (show zeroP[26]? = some (.slice none 0 0) from rfl)
      have k0 : w2.cell? ⟨b, 0, none⟩ = some (.int .i64 2) := (HB2.out.cell 0).trans rfl
      go_upto_region 8 with fail
      clear k0
      go_upto_region 37 with (go_at_call 55; refine (rvAnswer (i := 15) (HW2.out) (HB2.out) hf (putL_get (putL_get (HZ15.out) (by simp <;> omega)) (by simp <;> omega)) (putL_get (putL_get (HZ22.out) (by simp <;> omega)) (by simp <;> omega)) (putL_get (putL_get (HZ23.out) (by simp <;> omega)) (by simp <;> omega)) (putL_get (putL_get (HZ24.out) (by simp <;> omega)) (by simp <;> omega)) (putL_get (putL_get (HZ25.out) (by simp <;> omega)) (by simp <;> omega)) (putL_get (putL_get (HZ26.out) (by simp <;> omega)) (by simp <;> omega)) (by simp only [putL_size, Array.size_setIfInBounds]; decide)).mono ?_; rintro e w3 (⟨rfl, y, vr, vw, vp, a3, e3, hWx, hux, hBx, hcx, hTx⟩ | ⟨er1, he1, rfl, hno, ⟨q, hq1, hq2⟩, hcx⟩))
      rotate_left
      · exact ⟨rfl, .inr (.inr ⟨er1, he1, rfl, Fell.pkt HT1.out HT2.out (show Fell PDAnswer PEAnswer l a2 e2 from hno) mkAnswer mkAnswer_E mkAnswer_inv, ⟨q, hq1, by rw [hq2]; simp only [putL_size, Array.size_setIfInBounds]⟩, HC2.out.trans (hcx) fun _ _ h => h⟩)⟩
      have HB3 := hide (show Blk w3 b 63 (putL (putL (putL (zeroP) [0] [iv 2]) [1, 2] [uv fr, uv tt]) [15, 15 + 1, 15 + 2, 15 + 6, 15 + 14, 15 + 3, 15 + 3 + 1, 15 + 3 + 2, 15 + 7, 15 + 8, 15 + 8 + 1, 15 + 8 + 2, 15 + 8 + 3, 15 + 12, 15 + 13] [iv y.kind, uv y.inc, uv y.boot, uv y.id, uv y.at_, uv y.tb, uv y.ts, uv y.tq, iv y.err, iv y.out.err, iv y.out.at_, vr, vw, .bool y.commit, vp]) from hBx)
      have HW3 := hide hWx
      have HT3 := hide (hTx)
      have HC3 := hide (HC2.out.trans (hcx) fun _ _ h => h)
      have HO3 := hide (hux.low (HC2.out.size))
      clear hWx hBx hcx hTx HW2 HB2 HC2
      clear hux
      go_wp2_with fail
      go_ret
      exact .inl ⟨rfl, fr, tt, (.answer y), vr, vw, vp, a3, e3, HW3.out, HO3.out, (by have hb := HB3.out; simp only [pktA, payO, payVs, Pay.kind, putL] at hb ⊢; exact hb), HC3.out, Took.pkt (x := (y : PTAnswer)) HT1.out HT2.out (HT3.out) mkAnswer rfl mkAnswer_E mkAnswer_D mkAnswer_inv⟩
  have n2 : (z == 2) = false := beq_eq_false_iff_ne.2 z2
  by_cases z3 : z = 3
  · subst z3
    clear z1 n1 z2 n2
    focus
      have k0 : w2.cell? ⟨b, 0, none⟩ = some (.int .i64 3) := (HB2.out.cell 0).trans rfl
      go_upto_region 10 with fail
      clear k0
      go_upto_region 10 with fail
      have hcd : Chg Non w2 w2.drew := (Chg.refl Non w2).drew
      have hpt := RdPt.lit w2.drew 135 #[.pointer (some ⟨b, 30, none⟩), .pointer (some ⟨b, 31, none⟩)] [⟨b, 30, none⟩, ⟨b, 31, none⟩] 2 rfl rfl (by simp [maxLen])
      have hcM := (Chg.refl Non w2.drew).alloc (.cells #[.pointer (some ⟨b, 30, none⟩), .pointer (some ⟨b, 31, none⟩)] 135)
      have hcL := hcd.trans0 hcM
      have hWL := (HW2.out).c0 hcL
      have hBL := (HB2.out).c0 hcL
      have hFp : ∀ k, k = w2.drew.heap.size → k ≠ g ∧ k ≠ b := fun k e => by have := (HW2.out).rd.lt; have := (HB2.out).lt; have : w2.drew.heap.size = w2.heap.size := rfl; omega
      have hos : ∀ o ∈ [30, 31], o < (putL (putL (zeroP) [0] [iv 3]) [1, 2] [uv fr, uv tt]).size := fun o ho => by (try simp only [putL_size, Array.size_setIfInBounds]); simp at ho; omega
      have HX := hide (rvNum (os := [30, 31]) hWL hpt hFp hBL hf hos)
      clear hos hFp hpt hWL hBL
      refine wp_region_T (fun _ => True) 99 (by kernel_rfl) ?_
      have HS := hide True.intro
      refine AnyT.take (i := 0) (v := ?_) rfl (by kernel_rfl) (by kernel_rfl) (fun _ _ _ h => h) (by kernel_rfl) (by kernel_rfl) (Or.inl ⟨by rfl, ?_⟩) HS.out ?_
      rotate_left
      · (intro w9 h9; go_simp; try with_reducible rfl)
      try simp only [getElem_toArray, getElem_cons_succ, getElem_cons_zero, Act.put, setIfInBounds_toArray, set_cons_zero, set_cons_succ]
      refine AnyT.take (i := 1) (v := ?_) rfl (by kernel_rfl) (by kernel_rfl) (fun _ _ _ h => h) (by kernel_rfl) (by kernel_rfl) (Or.inl ⟨by rfl, ?_⟩) HS.out ?_
      rotate_left
      · (intro w9 h9; go_simp; try with_reducible rfl)
      try simp only [getElem_toArray, getElem_cons_succ, getElem_cons_zero, Act.put, setIfInBounds_toArray, set_cons_zero, set_cons_succ]
      refine AnyT.take (i := 2) (v := ?_) rfl (by kernel_rfl) (by kernel_rfl) (fun _ _ _ h => h) (by kernel_rfl) (by kernel_rfl) (Or.inl ⟨by rfl, ?_⟩) HS.out ?_
      rotate_left
      · (intro w9 h9; go_simp; try with_reducible rfl)
      try simp only [getElem_toArray, getElem_cons_succ, getElem_cons_zero, Act.put, setIfInBounds_toArray, set_cons_zero, set_cons_succ]
      refine AnyT.take (i := 3) (v := ?_) rfl (by kernel_rfl) (by kernel_rfl) (fun _ _ _ h => h) (by kernel_rfl) (by kernel_rfl) (Or.inl ⟨by rfl, ?_⟩) HS.out ?_
      rotate_left
      · (intro w9 h9; go_simp; try with_reducible rfl)
      try simp only [getElem_toArray, getElem_cons_succ, getElem_cons_zero, Act.put, setIfInBounds_toArray, set_cons_zero, set_cons_succ]
      refine AnyT.take (i := 4) (v := ?_) rfl (by kernel_rfl) (by kernel_rfl) (fun _ _ _ h => h) (by kernel_rfl) (by kernel_rfl) (Or.inl ⟨by rfl, ?_⟩) HS.out ?_
      rotate_left
      · (intro w9 h9; go_simp; try with_reducible rfl)
      try simp only [getElem_toArray, getElem_cons_succ, getElem_cons_zero, Act.put, setIfInBounds_toArray, set_cons_zero, set_cons_succ]
      refine AnyT.take (i := 5) (v := ?_) rfl (by kernel_rfl) (by kernel_rfl) (fun _ _ _ h => h) (by kernel_rfl) (by kernel_rfl) (Or.inl ⟨by rfl, ?_⟩) HS.out ?_
      rotate_left
      · (intro w9 h9; go_simp; try with_reducible rfl)
      try simp only [getElem_toArray, getElem_cons_succ, getElem_cons_zero, Act.put, setIfInBounds_toArray, set_cons_zero, set_cons_succ]
      refine AnyT.take (i := 6) (v := ?_) rfl (by kernel_rfl) (by kernel_rfl) (fun _ _ _ h => h) (by kernel_rfl) (by kernel_rfl) (Or.inl ⟨by rfl, ?_⟩) HS.out ?_
      rotate_left
      · (intro w9 h9; go_simp; try with_reducible rfl)
      try simp only [getElem_toArray, getElem_cons_succ, getElem_cons_zero, Act.put, setIfInBounds_toArray, set_cons_zero, set_cons_succ]
      refine AnyT.take (i := 7) (v := ?_) rfl (by kernel_rfl) (by kernel_rfl) (fun _ _ _ h => h) (by kernel_rfl) (by kernel_rfl) (Or.inl ⟨by rfl, ?_⟩) HS.out ?_
      rotate_left
      · (intro w9 h9; go_simp; try with_reducible rfl)
      try simp only [getElem_toArray, getElem_cons_succ, getElem_cons_zero, Act.put, setIfInBounds_toArray, set_cons_zero, set_cons_succ]
      refine AnyT.take (i := 8) (v := ?_) rfl (by kernel_rfl) (by kernel_rfl) (fun _ _ _ h => h) (by kernel_rfl) (by kernel_rfl) (Or.inl ⟨by rfl, ?_⟩) HS.out ?_
      rotate_left
      · (intro w9 h9; go_simp; try with_reducible rfl)
      try simp only [getElem_toArray, getElem_cons_succ, getElem_cons_zero, Act.put, setIfInBounds_toArray, set_cons_zero, set_cons_succ]
      refine AnyT.one (i := 9) (by kernel_rfl) rfl (fun K hK => ?_)
      go_simp
      refine hK.out _ _ (fun _ => trivial) ?_
      clear hK K
      try simp only [getElem_toArray, getElem_cons_succ, getElem_cons_zero, Act.put, setIfInBounds_toArray, set_cons_zero, set_cons_succ]
      refine AnyT.one (i := 10) (by kernel_rfl) rfl (fun K hK => ?_)
      go_simp
      go_wp2_with (go_at_call 53; refine HX.out.mono ?_; rintro e w3 ⟨rfl, ns, a3, e3, hWx, hnx, hux, hBx, hcx, hTx⟩)
      refine hK.out _ _ (fun _ => trivial) ?_
      clear hK K
      try simp only [getElem_toArray, getElem_cons_succ, getElem_cons_zero, Act.put, setIfInBounds_toArray, set_cons_zero, set_cons_succ]
      refine AnyT.nil (by kernel_rfl) ?_
      clear HS
      obtain ⟨inc, boot, rfl⟩ : ∃ inc boot, ns = [inc, boot] := by
        match ns, hnx with
        | [inc, boot], _ => exact ⟨inc, boot, rfl⟩
      have HU3 := hide (And.intro True.intro hux)
      clear hnx
      have HB3 := hide (show Blk w3 b 63 (putL (putL (putL (zeroP) [0] [iv 3]) [1, 2] [uv fr, uv tt]) [30, 31] [uv inc, uv boot]) from hBx)
      have HW3 := hide hWx
      have HT3 := hide (hTx)
      have HC3 := hide (HC2.out.trans (((chgX (S := fun k => k = g ∨ k = b) hcL).trans hcx fun _ _ h => h)) fun _ _ h => h)
      clear hWx hBx hcx hTx HW2 HB2 HC2
      clear hcd hcM hcL HX hux
      have hos : 32 + 2 < (putL (putL (putL (zeroP) [0] [iv 3]) [1, 2] [uv fr, uv tt]) [30, 31] [uv inc, uv boot]).size := by simp only [putL_size, Array.size_setIfInBounds]; omega
      go_upto_region 37 with (go_at_call 56; refine (rvTxn (HW3.out) (HB3.out) hf hos).mono ?_; rintro e w4 ⟨rfl, tb, ts, tq, a4, e4, hWx, hux, hBx, hcx, hTx⟩)
      have HU4 := hide hux
      have HB4 := hide (show Blk w4 b 63 (putL (putL (putL (putL (zeroP) [0] [iv 3]) [1, 2] [uv fr, uv tt]) [30, 31] [uv inc, uv boot]) [32, 32 + 1, 32 + 2] [uv tb, uv ts, uv tq]) from hBx)
      have HW4 := hide hWx
      have HT4 := hide (hTx)
      have HC4 := hide (HC3.out.trans (hcx) fun _ _ h => h)
      clear hWx hBx hcx hTx HW3 HB3 HC3
      clear hos hux
      go_wp2_with fail
      go_ret
      exact .inl ⟨rfl, fr, tt, (.doubt inc boot tb ts tq), .slice none 0 0, .slice none 0 0, .slice none 0 0, a4, e4, HW4.out, trivial, (by have hb := HB4.out; simp only [pktA, payO, payVs, Pay.kind, putL] at hb ⊢; exact hb), HC4.out, Took.pkt (x := (([inc, boot], [tb, ts, tq]) : PTDoubt)) HT1.out HT2.out (HT3.out.seq (HT4.out)) mkDoubt rfl mkDoubt_E mkDoubt_D mkDoubt_inv⟩
  have n3 : (z == 3) = false := beq_eq_false_iff_ne.2 z3
  by_cases z4 : z = 4
  · subst z4
    clear z1 n1 z2 n2 z3 n3
    focus
      have HZ37 := hide (show zeroP[37]? = some (.string ⟨#[]⟩) from rfl)
      have k0 : w2.cell? ⟨b, 0, none⟩ = some (.int .i64 4) := (HB2.out.cell 0).trans rfl
      go_upto_region 13 with fail
      clear k0
      go_upto_region 13 with fail
      have hcd : Chg Non w2 w2.drew := (Chg.refl Non w2).drew
      have hpt := RdPt.lit w2.drew 135 #[.pointer (some ⟨b, 35, none⟩), .pointer (some ⟨b, 36, none⟩)] [⟨b, 35, none⟩, ⟨b, 36, none⟩] 2 rfl rfl (by simp [maxLen])
      have hcM := (Chg.refl Non w2.drew).alloc (.cells #[.pointer (some ⟨b, 35, none⟩), .pointer (some ⟨b, 36, none⟩)] 135)
      have hcL := hcd.trans0 hcM
      have hWL := (HW2.out).c0 hcL
      have hBL := (HB2.out).c0 hcL
      have hFp : ∀ k, k = w2.drew.heap.size → k ≠ g ∧ k ≠ b := fun k e => by have := (HW2.out).rd.lt; have := (HB2.out).lt; have : w2.drew.heap.size = w2.heap.size := rfl; omega
      have hos : ∀ o ∈ [35, 36], o < (putL (putL (zeroP) [0] [iv 4]) [1, 2] [uv fr, uv tt]).size := fun o ho => by (try simp only [putL_size, Array.size_setIfInBounds]); simp at ho; omega
      have HX := hide (rvNum (os := [35, 36]) hWL hpt hFp hBL hf hos)
      clear hos hFp hpt hWL hBL
      refine wp_region_T (fun _ => True) 99 (by kernel_rfl) ?_
      have HS := hide True.intro
      refine AnyT.take (i := 0) (v := ?_) rfl (by kernel_rfl) (by kernel_rfl) (fun _ _ _ h => h) (by kernel_rfl) (by kernel_rfl) (Or.inl ⟨by rfl, ?_⟩) HS.out ?_
      rotate_left
      · (intro w9 h9; go_simp; try with_reducible rfl)
      try simp only [getElem_toArray, getElem_cons_succ, getElem_cons_zero, Act.put, setIfInBounds_toArray, set_cons_zero, set_cons_succ]
      refine AnyT.take (i := 1) (v := ?_) rfl (by kernel_rfl) (by kernel_rfl) (fun _ _ _ h => h) (by kernel_rfl) (by kernel_rfl) (Or.inl ⟨by rfl, ?_⟩) HS.out ?_
      rotate_left
      · (intro w9 h9; go_simp; try with_reducible rfl)
      try simp only [getElem_toArray, getElem_cons_succ, getElem_cons_zero, Act.put, setIfInBounds_toArray, set_cons_zero, set_cons_succ]
      refine AnyT.take (i := 2) (v := ?_) rfl (by kernel_rfl) (by kernel_rfl) (fun _ _ _ h => h) (by kernel_rfl) (by kernel_rfl) (Or.inl ⟨by rfl, ?_⟩) HS.out ?_
      rotate_left
      · (intro w9 h9; go_simp; try with_reducible rfl)
      try simp only [getElem_toArray, getElem_cons_succ, getElem_cons_zero, Act.put, setIfInBounds_toArray, set_cons_zero, set_cons_succ]
      refine AnyT.take (i := 3) (v := ?_) rfl (by kernel_rfl) (by kernel_rfl) (fun _ _ _ h => h) (by kernel_rfl) (by kernel_rfl) (Or.inl ⟨by rfl, ?_⟩) HS.out ?_
      rotate_left
      · (intro w9 h9; go_simp; try with_reducible rfl)
      try simp only [getElem_toArray, getElem_cons_succ, getElem_cons_zero, Act.put, setIfInBounds_toArray, set_cons_zero, set_cons_succ]
      refine AnyT.take (i := 4) (v := ?_) rfl (by kernel_rfl) (by kernel_rfl) (fun _ _ _ h => h) (by kernel_rfl) (by kernel_rfl) (Or.inl ⟨by rfl, ?_⟩) HS.out ?_
      rotate_left
      · (intro w9 h9; go_simp; try with_reducible rfl)
      try simp only [getElem_toArray, getElem_cons_succ, getElem_cons_zero, Act.put, setIfInBounds_toArray, set_cons_zero, set_cons_succ]
      refine AnyT.take (i := 5) (v := ?_) rfl (by kernel_rfl) (by kernel_rfl) (fun _ _ _ h => h) (by kernel_rfl) (by kernel_rfl) (Or.inl ⟨by rfl, ?_⟩) HS.out ?_
      rotate_left
      · (intro w9 h9; go_simp; try with_reducible rfl)
      try simp only [getElem_toArray, getElem_cons_succ, getElem_cons_zero, Act.put, setIfInBounds_toArray, set_cons_zero, set_cons_succ]
      refine AnyT.take (i := 6) (v := ?_) rfl (by kernel_rfl) (by kernel_rfl) (fun _ _ _ h => h) (by kernel_rfl) (by kernel_rfl) (Or.inl ⟨by rfl, ?_⟩) HS.out ?_
      rotate_left
      · (intro w9 h9; go_simp; try with_reducible rfl)
      try simp only [getElem_toArray, getElem_cons_succ, getElem_cons_zero, Act.put, setIfInBounds_toArray, set_cons_zero, set_cons_succ]
      refine AnyT.take (i := 7) (v := ?_) rfl (by kernel_rfl) (by kernel_rfl) (fun _ _ _ h => h) (by kernel_rfl) (by kernel_rfl) (Or.inl ⟨by rfl, ?_⟩) HS.out ?_
      rotate_left
      · (intro w9 h9; go_simp; try with_reducible rfl)
      try simp only [getElem_toArray, getElem_cons_succ, getElem_cons_zero, Act.put, setIfInBounds_toArray, set_cons_zero, set_cons_succ]
      refine AnyT.take (i := 8) (v := ?_) rfl (by kernel_rfl) (by kernel_rfl) (fun _ _ _ h => h) (by kernel_rfl) (by kernel_rfl) (Or.inl ⟨by rfl, ?_⟩) HS.out ?_
      rotate_left
      · (intro w9 h9; go_simp; try with_reducible rfl)
      try simp only [getElem_toArray, getElem_cons_succ, getElem_cons_zero, Act.put, setIfInBounds_toArray, set_cons_zero, set_cons_succ]
      refine AnyT.one (i := 9) (by kernel_rfl) rfl (fun K hK => ?_)
      go_simp
      refine hK.out _ _ (fun _ => trivial) ?_
      clear hK K
      try simp only [getElem_toArray, getElem_cons_succ, getElem_cons_zero, Act.put, setIfInBounds_toArray, set_cons_zero, set_cons_succ]
      refine AnyT.one (i := 10) (by kernel_rfl) rfl (fun K hK => ?_)
      go_simp
      go_wp2_with (go_at_call 53; refine HX.out.mono ?_; rintro e w3 ⟨rfl, ns, a3, e3, hWx, hnx, hux, hBx, hcx, hTx⟩)
      refine hK.out _ _ (fun _ => trivial) ?_
      clear hK K
      try simp only [getElem_toArray, getElem_cons_succ, getElem_cons_zero, Act.put, setIfInBounds_toArray, set_cons_zero, set_cons_succ]
      refine AnyT.nil (by kernel_rfl) ?_
      clear HS
      obtain ⟨inc, parent, rfl⟩ : ∃ inc parent, ns = [inc, parent] := by
        match ns, hnx with
        | [inc, parent], _ => exact ⟨inc, parent, rfl⟩
      have HU3 := hide (And.intro True.intro hux)
      clear hnx
      have HB3 := hide (show Blk w3 b 63 (putL (putL (putL (zeroP) [0] [iv 4]) [1, 2] [uv fr, uv tt]) [35, 36] [uv inc, uv parent]) from hBx)
      have HW3 := hide hWx
      have HT3 := hide (hTx)
      have HC3 := hide (HC2.out.trans (((chgX (S := fun k => k = g ∨ k = b) hcL).trans hcx fun _ _ h => h)) fun _ _ h => h)
      clear hWx hBx hcx hTx HW2 HB2 HC2
      clear hcd hcM hcL HX hux
      go_upto_region 37 with (go_at_call 57; refine (rvText (o := 37) (HW3.out) (HB3.out) hf (putL_get (putL_get (putL_get (HZ37.out) (by simp <;> omega)) (by simp <;> omega)) (by simp <;> omega)) (by first | exact hsn | decide)).mono ?_; rintro e w4 ⟨rfl, name, a4, e4, hWx, hBx, hcx, hTx⟩)
      have HB4 := hide (show Blk w4 b 63 ((putL (putL (putL (zeroP) [0] [iv 4]) [1, 2] [uv fr, uv tt]) [35, 36] [uv inc, uv parent]).setIfInBounds (37) (.string name)) from hBx)
      have HW4 := hide hWx
      have HT4 := hide (hTx)
      have HC4 := hide (HC3.out.trans (hcx) fun _ _ h => h)
      clear hWx hBx hcx hTx HW3 HB3 HC3
      go_wp2_with fail
      go_ret
      exact .inl ⟨rfl, fr, tt, (.mend inc parent name), .slice none 0 0, .slice none 0 0, .slice none 0 0, a4, e4, HW4.out, trivial, (by have hb := HB4.out; simp only [pktA, payO, payVs, Pay.kind, putL] at hb ⊢; exact hb), HC4.out, Took.pkt (x := (([inc, parent], name) : PTMend)) HT1.out HT2.out (HT3.out.seq (HT4.out)) mkMend rfl mkMend_E mkMend_D mkMend_inv⟩
  have n4 : (z == 4) = false := beq_eq_false_iff_ne.2 z4
  by_cases z5 : z = 5
  · subst z5
    clear z1 n1 z2 n2 z3 n3 z4 n4
    focus
      have k0 : w2.cell? ⟨b, 0, none⟩ = some (.int .i64 5) := (HB2.out.cell 0).trans rfl
      go_upto_region 16 with fail
      clear k0
      have hpt := RdPt.lit w2 135 #[.pointer (some ⟨b, 63, none⟩)] [⟨b, 63, none⟩] 1 rfl rfl (by simp [maxLen])
      have hcL := (Chg.refl Non w2).alloc (.cells #[.pointer (some ⟨b, 63, none⟩)] 135)
      have hWL := (HW2.out).c0 hcL
      have hBL := (HB2.out).c0 hcL
      have hFp : ∀ k, k = w2.heap.size → k ≠ g ∧ k ≠ b := fun k e => by have := (HW2.out).rd.lt; have := (HB2.out).lt; omega
      have hos : ∀ o ∈ [63], o < (putL (putL (zeroP) [0] [iv 5]) [1, 2] [uv fr, uv tt]).size := fun o ho => by (try simp only [putL_size, Array.size_setIfInBounds]); simp at ho; omega
      go_upto_region 37 with (go_at_call 53; refine (rvNum (os := [63]) hWL hpt hFp hBL hf hos).mono ?_; rintro e w3 ⟨rfl, ns, a3, e3, hWx, hnx, hux, hBx, hcx, hTx⟩)
      obtain ⟨inc, rfl⟩ : ∃ inc, ns = [inc] := by
        match ns, hnx with
        | [inc], _ => exact ⟨inc, rfl⟩
      have HU3 := hide (And.intro True.intro hux)
      clear hnx
      have HB3 := hide (show Blk w3 b 63 (putL (putL (putL (zeroP) [0] [iv 5]) [1, 2] [uv fr, uv tt]) [63] [uv inc]) from hBx)
      have HW3 := hide hWx
      have HT3 := hide (hTx)
      have HC3 := hide (HC2.out.trans (((chgX (S := fun k => k = g ∨ k = b) hcL).trans hcx fun _ _ h => h)) fun _ _ h => h)
      clear hWx hBx hcx hTx HW2 HB2 HC2
      clear hpt hcL hWL hBL hFp hos hux
      go_wp2_with fail
      go_ret
      exact .inl ⟨rfl, fr, tt, (.mended inc), .slice none 0 0, .slice none 0 0, .slice none 0 0, a3, e3, HW3.out, trivial, (by have hb := HB3.out; simp only [pktA, payO, payVs, Pay.kind, putL] at hb ⊢; exact hb), HC3.out, Took.pkt (x := ([inc] : PTMended)) HT1.out HT2.out (HT3.out) mkMended rfl mkMended_E mkMended_D mkMended_inv⟩
  have n5 : (z == 5) = false := beq_eq_false_iff_ne.2 z5
  by_cases z6 : z = 6
  · subst z6
    clear z1 n1 z2 n2 z3 n3 z4 n4 z5 n5
    focus
      have HZ42 := hide (show zeroP[42]? = some (.slice none 0 0) from rfl)
      have k0 : w2.cell? ⟨b, 0, none⟩ = some (.int .i64 6) := (HB2.out.cell 0).trans rfl
      go_upto_region 18 with fail
      clear k0
      have hpt := RdPt.lit w2 135 #[.pointer (some ⟨b, 38, none⟩)] [⟨b, 38, none⟩] 1 rfl rfl (by simp [maxLen])
      have hcL := (Chg.refl Non w2).alloc (.cells #[.pointer (some ⟨b, 38, none⟩)] 135)
      have hWL := (HW2.out).c0 hcL
      have hBL := (HB2.out).c0 hcL
      have hFp : ∀ k, k = w2.heap.size → k ≠ g ∧ k ≠ b := fun k e => by have := (HW2.out).rd.lt; have := (HB2.out).lt; omega
      have hos : ∀ o ∈ [38], o < (putL (putL (zeroP) [0] [iv 6]) [1, 2] [uv fr, uv tt]).size := fun o ho => by (try simp only [putL_size, Array.size_setIfInBounds]); simp at ho; omega
      go_upto_region 19 with (go_at_call 53; refine (rvNum (os := [38]) hWL hpt hFp hBL hf hos).mono ?_; rintro e w3 ⟨rfl, ns, a3, e3, hWx, hnx, hux, hBx, hcx, hTx⟩)
      obtain ⟨inc, rfl⟩ : ∃ inc, ns = [inc] := by
        match ns, hnx with
        | [inc], _ => exact ⟨inc, rfl⟩
      have HU3 := hide (And.intro True.intro hux)
      clear hnx
      have HB3 := hide (show Blk w3 b 63 (putL (putL (putL (zeroP) [0] [iv 6]) [1, 2] [uv fr, uv tt]) [38] [uv inc]) from hBx)
      have HW3 := hide hWx
      have HT3 := hide (hTx)
      have HC3 := hide (HC2.out.trans (((chgX (S := fun k => k = g ∨ k = b) hcL).trans hcx fun _ _ h => h)) fun _ _ h => h)
      clear hWx hBx hcx hTx HW2 HB2 HC2
      clear hpt hcL hWL hBL hFp hos hux
      have hos : 39 + 2 < (putL (putL (putL (zeroP) [0] [iv 6]) [1, 2] [uv fr, uv tt]) [38] [uv inc]).size := by simp only [putL_size, Array.size_setIfInBounds]; omega
      go_upto_region 20 with (go_at_call 56; refine (rvTxn (HW3.out) (HB3.out) hf hos).mono ?_; rintro e w4 ⟨rfl, tb, ts, tq, a4, e4, hWx, hux, hBx, hcx, hTx⟩)
      have HU4 := hide hux
      have HB4 := hide (show Blk w4 b 63 (putL (putL (putL (putL (zeroP) [0] [iv 6]) [1, 2] [uv fr, uv tt]) [38] [uv inc]) [39, 39 + 1, 39 + 2] [uv tb, uv ts, uv tq]) from hBx)
      have HW4 := hide hWx
      have HT4 := hide (hTx)
      have HC4 := hide (HC3.out.trans (hcx) fun _ _ h => h)
      clear hWx hBx hcx hTx HW3 HB3 HC3
      clear hos hux
      go_upto_region 37 with (go_at_call 58; refine (rvOps (o := 42) (HW4.out) (HB4.out) hf (putL_get (putL_get (putL_get (putL_get (HZ42.out) (by simp <;> omega)) (by simp <;> omega)) (by simp <;> omega)) (by simp <;> omega))).mono ?_; rintro e w5 (⟨rfl, ops, xs, vo, a5, e5, hWx, hux, hBx, hcx, hTx⟩ | ⟨er1, he1, rfl, hno, ⟨q, hq1, hq2⟩, hcx⟩))
      rotate_left
      · exact ⟨rfl, .inr (.inr ⟨er1, he1, rfl, Fell.pkt HT1.out HT2.out (show Fell PDCall PECall l a2 e2 from HT3.out.fell (HT4.out.fell (hno))) mkCall mkCall_E mkCall_inv, ⟨q, hq1, by rw [hq2]; simp only [putL_size, Array.size_setIfInBounds]⟩, HC4.out.trans (hcx) fun _ _ h => h⟩)⟩
      have HB5 := hide (show Blk w5 b 63 ((putL (putL (putL (putL (zeroP) [0] [iv 6]) [1, 2] [uv fr, uv tt]) [38] [uv inc]) [39, 39 + 1, 39 + 2] [uv tb, uv ts, uv tq]).setIfInBounds (42) (vo)) from hBx)
      have HW5 := hide hWx
      have HT5 := hide (hTx)
      have HC5 := hide (HC4.out.trans (hcx) fun _ _ h => h)
      have HO5 := hide (hux.low (HC4.out.size))
      clear hWx hBx hcx hTx HW4 HB4 HC4
      clear hux
      go_wp2_with fail
      go_ret
      exact .inl ⟨rfl, fr, tt, (.call inc tb ts tq ops), vo, .slice none 0 0, .slice none 0 0, a5, e5, HW5.out, ⟨xs, HO5.out⟩, (by have hb := HB5.out; simp only [pktA, payO, payVs, Pay.kind, putL] at hb ⊢; exact hb), HC5.out, Took.pkt (x := (([inc], [tb, ts, tq], ops) : PTCall)) HT1.out HT2.out (HT3.out.seq (HT4.out.seq (HT5.out))) mkCall rfl mkCall_E mkCall_D mkCall_inv⟩
  have n6 : (z == 6) = false := beq_eq_false_iff_ne.2 z6
  by_cases z7 : z = 7
  · subst z7
    clear z1 n1 z2 n2 z3 n3 z4 n4 z5 n5 z6 n6
    focus
      have HZ48 := hide (show zeroP[48]? = some (.int .i64 0) from rfl)
      have k0 : w2.cell? ⟨b, 0, none⟩ = some (.int .i64 7) := (HB2.out.cell 0).trans rfl
      go_upto_region 22 with fail
      clear k0
      go_upto_region 22 with fail
      have hcd : Chg Non w2 w2.drew := (Chg.refl Non w2).drew
      have hpt := RdPt.lit w2.drew 135 #[.pointer (some ⟨b, 43, none⟩), .pointer (some ⟨b, 44, none⟩)] [⟨b, 43, none⟩, ⟨b, 44, none⟩] 2 rfl rfl (by simp [maxLen])
      have hcM := (Chg.refl Non w2.drew).alloc (.cells #[.pointer (some ⟨b, 43, none⟩), .pointer (some ⟨b, 44, none⟩)] 135)
      have hcL := hcd.trans0 hcM
      have hWL := (HW2.out).c0 hcL
      have hBL := (HB2.out).c0 hcL
      have hFp : ∀ k, k = w2.drew.heap.size → k ≠ g ∧ k ≠ b := fun k e => by have := (HW2.out).rd.lt; have := (HB2.out).lt; have : w2.drew.heap.size = w2.heap.size := rfl; omega
      have hos : ∀ o ∈ [43, 44], o < (putL (putL (zeroP) [0] [iv 7]) [1, 2] [uv fr, uv tt]).size := fun o ho => by (try simp only [putL_size, Array.size_setIfInBounds]); simp at ho; omega
      have HX := hide (rvNum (os := [43, 44]) hWL hpt hFp hBL hf hos)
      clear hos hFp hpt hWL hBL
      refine wp_region_T (fun _ => True) 99 (by kernel_rfl) ?_
      have HS := hide True.intro
      refine AnyT.take (i := 0) (v := ?_) rfl (by kernel_rfl) (by kernel_rfl) (fun _ _ _ h => h) (by kernel_rfl) (by kernel_rfl) (Or.inl ⟨by rfl, ?_⟩) HS.out ?_
      rotate_left
      · (intro w9 h9; go_simp; try with_reducible rfl)
      try simp only [getElem_toArray, getElem_cons_succ, getElem_cons_zero, Act.put, setIfInBounds_toArray, set_cons_zero, set_cons_succ]
      refine AnyT.take (i := 1) (v := ?_) rfl (by kernel_rfl) (by kernel_rfl) (fun _ _ _ h => h) (by kernel_rfl) (by kernel_rfl) (Or.inl ⟨by rfl, ?_⟩) HS.out ?_
      rotate_left
      · (intro w9 h9; go_simp; try with_reducible rfl)
      try simp only [getElem_toArray, getElem_cons_succ, getElem_cons_zero, Act.put, setIfInBounds_toArray, set_cons_zero, set_cons_succ]
      refine AnyT.take (i := 2) (v := ?_) rfl (by kernel_rfl) (by kernel_rfl) (fun _ _ _ h => h) (by kernel_rfl) (by kernel_rfl) (Or.inl ⟨by rfl, ?_⟩) HS.out ?_
      rotate_left
      · (intro w9 h9; go_simp; try with_reducible rfl)
      try simp only [getElem_toArray, getElem_cons_succ, getElem_cons_zero, Act.put, setIfInBounds_toArray, set_cons_zero, set_cons_succ]
      refine AnyT.take (i := 3) (v := ?_) rfl (by kernel_rfl) (by kernel_rfl) (fun _ _ _ h => h) (by kernel_rfl) (by kernel_rfl) (Or.inl ⟨by rfl, ?_⟩) HS.out ?_
      rotate_left
      · (intro w9 h9; go_simp; try with_reducible rfl)
      try simp only [getElem_toArray, getElem_cons_succ, getElem_cons_zero, Act.put, setIfInBounds_toArray, set_cons_zero, set_cons_succ]
      refine AnyT.take (i := 4) (v := ?_) rfl (by kernel_rfl) (by kernel_rfl) (fun _ _ _ h => h) (by kernel_rfl) (by kernel_rfl) (Or.inl ⟨by rfl, ?_⟩) HS.out ?_
      rotate_left
      · (intro w9 h9; go_simp; try with_reducible rfl)
      try simp only [getElem_toArray, getElem_cons_succ, getElem_cons_zero, Act.put, setIfInBounds_toArray, set_cons_zero, set_cons_succ]
      refine AnyT.take (i := 5) (v := ?_) rfl (by kernel_rfl) (by kernel_rfl) (fun _ _ _ h => h) (by kernel_rfl) (by kernel_rfl) (Or.inl ⟨by rfl, ?_⟩) HS.out ?_
      rotate_left
      · (intro w9 h9; go_simp; try with_reducible rfl)
      try simp only [getElem_toArray, getElem_cons_succ, getElem_cons_zero, Act.put, setIfInBounds_toArray, set_cons_zero, set_cons_succ]
      refine AnyT.take (i := 6) (v := ?_) rfl (by kernel_rfl) (by kernel_rfl) (fun _ _ _ h => h) (by kernel_rfl) (by kernel_rfl) (Or.inl ⟨by rfl, ?_⟩) HS.out ?_
      rotate_left
      · (intro w9 h9; go_simp; try with_reducible rfl)
      try simp only [getElem_toArray, getElem_cons_succ, getElem_cons_zero, Act.put, setIfInBounds_toArray, set_cons_zero, set_cons_succ]
      refine AnyT.take (i := 7) (v := ?_) rfl (by kernel_rfl) (by kernel_rfl) (fun _ _ _ h => h) (by kernel_rfl) (by kernel_rfl) (Or.inl ⟨by rfl, ?_⟩) HS.out ?_
      rotate_left
      · (intro w9 h9; go_simp; try with_reducible rfl)
      try simp only [getElem_toArray, getElem_cons_succ, getElem_cons_zero, Act.put, setIfInBounds_toArray, set_cons_zero, set_cons_succ]
      refine AnyT.take (i := 8) (v := ?_) rfl (by kernel_rfl) (by kernel_rfl) (fun _ _ _ h => h) (by kernel_rfl) (by kernel_rfl) (Or.inl ⟨by rfl, ?_⟩) HS.out ?_
      rotate_left
      · (intro w9 h9; go_simp; try with_reducible rfl)
      try simp only [getElem_toArray, getElem_cons_succ, getElem_cons_zero, Act.put, setIfInBounds_toArray, set_cons_zero, set_cons_succ]
      refine AnyT.one (i := 9) (by kernel_rfl) rfl (fun K hK => ?_)
      go_simp
      refine hK.out _ _ (fun _ => trivial) ?_
      clear hK K
      try simp only [getElem_toArray, getElem_cons_succ, getElem_cons_zero, Act.put, setIfInBounds_toArray, set_cons_zero, set_cons_succ]
      refine AnyT.one (i := 10) (by kernel_rfl) rfl (fun K hK => ?_)
      go_simp
      go_wp2_with (go_at_call 53; refine HX.out.mono ?_; rintro e w3 ⟨rfl, ns, a3, e3, hWx, hnx, hux, hBx, hcx, hTx⟩)
      refine hK.out _ _ (fun _ => trivial) ?_
      clear hK K
      try simp only [getElem_toArray, getElem_cons_succ, getElem_cons_zero, Act.put, setIfInBounds_toArray, set_cons_zero, set_cons_succ]
      refine AnyT.nil (by kernel_rfl) ?_
      clear HS
      obtain ⟨inc, boot, rfl⟩ : ∃ inc boot, ns = [inc, boot] := by
        match ns, hnx with
        | [inc, boot], _ => exact ⟨inc, boot, rfl⟩
      have HU3 := hide (And.intro True.intro hux)
      clear hnx
      have HB3 := hide (show Blk w3 b 63 (putL (putL (putL (zeroP) [0] [iv 7]) [1, 2] [uv fr, uv tt]) [43, 44] [uv inc, uv boot]) from hBx)
      have HW3 := hide hWx
      have HT3 := hide (hTx)
      have HC3 := hide (HC2.out.trans (((chgX (S := fun k => k = g ∨ k = b) hcL).trans hcx fun _ _ h => h)) fun _ _ h => h)
      clear hWx hBx hcx hTx HW2 HB2 HC2
      clear hcd hcM hcL HX hux
      have hos : 45 + 2 < (putL (putL (putL (zeroP) [0] [iv 7]) [1, 2] [uv fr, uv tt]) [43, 44] [uv inc, uv boot]).size := by simp only [putL_size, Array.size_setIfInBounds]; omega
      go_upto_region 24 with (go_at_call 56; refine (rvTxn (HW3.out) (HB3.out) hf hos).mono ?_; rintro e w4 ⟨rfl, tb, ts, tq, a4, e4, hWx, hux, hBx, hcx, hTx⟩)
      have HU4 := hide hux
      have HB4 := hide (show Blk w4 b 63 (putL (putL (putL (putL (zeroP) [0] [iv 7]) [1, 2] [uv fr, uv tt]) [43, 44] [uv inc, uv boot]) [45, 45 + 1, 45 + 2] [uv tb, uv ts, uv tq]) from hBx)
      have HW4 := hide hWx
      have HT4 := hide (hTx)
      have HC4 := hide (HC3.out.trans (hcx) fun _ _ h => h)
      clear hWx hBx hcx hTx HW3 HB3 HC3
      clear hos hux
      go_upto_region 25 with (go_at_call 59; refine (rvErrno (o := 48) (HW4.out) (HB4.out) hf (putL_get (putL_get (putL_get (putL_get (HZ48.out) (by simp <;> omega)) (by simp <;> omega)) (by simp <;> omega)) (by simp <;> omega))).mono ?_; rintro e w5 ⟨rfl, code, a5, e5, hWx, hux, hBx, hcx, hTx⟩)
      have HU5 := hide hux
      have HB5 := hide (show Blk w5 b 63 ((putL (putL (putL (putL (zeroP) [0] [iv 7]) [1, 2] [uv fr, uv tt]) [43, 44] [uv inc, uv boot]) [45, 45 + 1, 45 + 2] [uv tb, uv ts, uv tq]).setIfInBounds (48) (iv code)) from hBx)
      have HW5 := hide hWx
      have HT5 := hide (hTx)
      have HC5 := hide (HC4.out.trans (hcx) fun _ _ h => h)
      clear hWx hBx hcx hTx HW4 HB4 HC4
      clear hux
      have hpt := RdPt.lit w5 149 #[.pointer (some ⟨b, 49, none⟩)] [⟨b, 49, none⟩] 1 rfl rfl (by simp [maxLen])
      have hcL := (Chg.refl Non w5).alloc (.cells #[.pointer (some ⟨b, 49, none⟩)] 149)
      have hWL := (HW5.out).c0 hcL
      have hBL := (HB5.out).c0 hcL
      have hFp : ∀ k, k = w5.heap.size → k ≠ g ∧ k ≠ b := fun k e => by have := (HW5.out).rd.lt; have := (HB5.out).lt; omega
      have hos : ∀ o ∈ [49], o < ((putL (putL (putL (putL (zeroP) [0] [iv 7]) [1, 2] [uv fr, uv tt]) [43, 44] [uv inc, uv boot]) [45, 45 + 1, 45 + 2] [uv tb, uv ts, uv tq]).setIfInBounds (48) (iv code)).size := fun o ho => by (try simp only [putL_size, Array.size_setIfInBounds]); simp at ho; omega
      go_upto_region 37 with (go_at_call 60; refine (rvData (os := [49]) hWL hpt hFp hBL hf hos).mono ?_; rintro e w6 ⟨rfl, ps, a6, e6, hWx, hnx, hux, hBx, hcx, hTx⟩)
      obtain ⟨⟨vr, data⟩, rfl⟩ : ∃ n, ps = [n] := List.length_eq_one_iff.1 hnx
      have hux := (hux.1 (vr, data) (by simp)).low (b' := w.heap.size) (Nat.le_trans (HC5.out.size) hcL.size)
      have HB6 := hide (show Blk w6 b 63 (putL ((putL (putL (putL (putL (zeroP) [0] [iv 7]) [1, 2] [uv fr, uv tt]) [43, 44] [uv inc, uv boot]) [45, 45 + 1, 45 + 2] [uv tb, uv ts, uv tq]).setIfInBounds (48) (iv code)) [49] [vr]) from hBx)
      have HW6 := hide hWx
      have HT6 := hide (hTx.single)
      have HC6 := hide (HC5.out.trans (((chgX (S := fun k => k = g ∨ k = b) hcL).trans hcx fun _ _ h => h)) fun _ _ h => h)
      have HR6 := hide (hux)
      clear hWx hBx hcx hTx HW5 HB5 HC5
      clear hpt hcL hWL hBL hFp hos hnx hux
      go_wp2_with fail
      go_ret
      exact .inl ⟨rfl, fr, tt, (.reply inc boot tb ts tq code data), vr, .slice none 0 0, .slice none 0 0, a6, e6, HW6.out, HR6.out, (by have hb := HB6.out; simp only [pktA, payO, payVs, Pay.kind, putL] at hb ⊢; exact hb), HC6.out, Took.pkt (x := (([inc, boot], [tb, ts, tq], code, data) : PTReply)) HT1.out HT2.out (HT3.out.seq (HT4.out.seq (HT5.out.seq (HT6.out)))) mkReply rfl mkReply_E mkReply_D mkReply_inv⟩
  have n7 : (z == 7) = false := beq_eq_false_iff_ne.2 z7
  by_cases z8 : z = 8
  · subst z8
    clear z1 n1 z2 n2 z3 n3 z4 n4 z5 n5 z6 n6 z7 n7
    focus
      have HZ52 := hide (show zeroP[52]? = some (.string ⟨#[]⟩) from rfl)
      have HZ55 := hide (show zeroP[55]? = some (.int .i64 0) from rfl)
      have k0 : w2.cell? ⟨b, 0, none⟩ = some (.int .i64 8) := (HB2.out.cell 0).trans rfl
      go_upto_region 28 with fail
      clear k0
      go_upto_region 28 with fail
      have hcd : Chg Non w2 w2.drew := (Chg.refl Non w2).drew
      have hpt := RdPt.lit w2.drew 135 #[.pointer (some ⟨b, 50, none⟩), .pointer (some ⟨b, 51, none⟩), .pointer (some ⟨b, 53, none⟩), .pointer (some ⟨b, 54, none⟩), .pointer (some ⟨b, 56, none⟩), .pointer (some ⟨b, 57, none⟩)] [⟨b, 50, none⟩, ⟨b, 51, none⟩, ⟨b, 53, none⟩, ⟨b, 54, none⟩, ⟨b, 56, none⟩, ⟨b, 57, none⟩] 6 rfl rfl (by simp [maxLen])
      have hcM := (Chg.refl Non w2.drew).alloc (.cells #[.pointer (some ⟨b, 50, none⟩), .pointer (some ⟨b, 51, none⟩), .pointer (some ⟨b, 53, none⟩), .pointer (some ⟨b, 54, none⟩), .pointer (some ⟨b, 56, none⟩), .pointer (some ⟨b, 57, none⟩)] 135)
      have hcL := hcd.trans0 hcM
      have hWL := (HW2.out).c0 hcL
      have hBL := (HB2.out).c0 hcL
      have hFp : ∀ k, k = w2.drew.heap.size → k ≠ g ∧ k ≠ b := fun k e => by have := (HW2.out).rd.lt; have := (HB2.out).lt; have : w2.drew.heap.size = w2.heap.size := rfl; omega
      have hos : ∀ o ∈ [50, 51, 53, 54, 56, 57], o < (putL (putL (zeroP) [0] [iv 8]) [1, 2] [uv fr, uv tt]).size := fun o ho => by (try simp only [putL_size, Array.size_setIfInBounds]); simp at ho; omega
      have HX := hide (rvNum (os := [50, 51, 53, 54, 56, 57]) hWL hpt hFp hBL hf hos)
      clear hos hFp hpt hWL hBL
      refine wp_region_T (fun _ => True) 99 (by kernel_rfl) ?_
      have HS := hide True.intro
      refine AnyT.take (i := 0) (v := ?_) rfl (by kernel_rfl) (by kernel_rfl) (fun _ _ _ h => h) (by kernel_rfl) (by kernel_rfl) (Or.inl ⟨by rfl, ?_⟩) HS.out ?_
      rotate_left
      · (intro w9 h9; go_simp; try with_reducible rfl)
      try simp only [getElem_toArray, getElem_cons_succ, getElem_cons_zero, Act.put, setIfInBounds_toArray, set_cons_zero, set_cons_succ]
      refine AnyT.take (i := 1) (v := ?_) rfl (by kernel_rfl) (by kernel_rfl) (fun _ _ _ h => h) (by kernel_rfl) (by kernel_rfl) (Or.inl ⟨by rfl, ?_⟩) HS.out ?_
      rotate_left
      · (intro w9 h9; go_simp; try with_reducible rfl)
      try simp only [getElem_toArray, getElem_cons_succ, getElem_cons_zero, Act.put, setIfInBounds_toArray, set_cons_zero, set_cons_succ]
      refine AnyT.take (i := 2) (v := ?_) rfl (by kernel_rfl) (by kernel_rfl) (fun _ _ _ h => h) (by kernel_rfl) (by kernel_rfl) (Or.inl ⟨by rfl, ?_⟩) HS.out ?_
      rotate_left
      · (intro w9 h9; go_simp; try with_reducible rfl)
      try simp only [getElem_toArray, getElem_cons_succ, getElem_cons_zero, Act.put, setIfInBounds_toArray, set_cons_zero, set_cons_succ]
      refine AnyT.take (i := 3) (v := ?_) rfl (by kernel_rfl) (by kernel_rfl) (fun _ _ _ h => h) (by kernel_rfl) (by kernel_rfl) (Or.inl ⟨by rfl, ?_⟩) HS.out ?_
      rotate_left
      · (intro w9 h9; go_simp; try with_reducible rfl)
      try simp only [getElem_toArray, getElem_cons_succ, getElem_cons_zero, Act.put, setIfInBounds_toArray, set_cons_zero, set_cons_succ]
      refine AnyT.take (i := 4) (v := ?_) rfl (by kernel_rfl) (by kernel_rfl) (fun _ _ _ h => h) (by kernel_rfl) (by kernel_rfl) (Or.inl ⟨by rfl, ?_⟩) HS.out ?_
      rotate_left
      · (intro w9 h9; go_simp; try with_reducible rfl)
      try simp only [getElem_toArray, getElem_cons_succ, getElem_cons_zero, Act.put, setIfInBounds_toArray, set_cons_zero, set_cons_succ]
      refine AnyT.take (i := 5) (v := ?_) rfl (by kernel_rfl) (by kernel_rfl) (fun _ _ _ h => h) (by kernel_rfl) (by kernel_rfl) (Or.inl ⟨by rfl, ?_⟩) HS.out ?_
      rotate_left
      · (intro w9 h9; go_simp; try with_reducible rfl)
      try simp only [getElem_toArray, getElem_cons_succ, getElem_cons_zero, Act.put, setIfInBounds_toArray, set_cons_zero, set_cons_succ]
      refine AnyT.take (i := 6) (v := ?_) rfl (by kernel_rfl) (by kernel_rfl) (fun _ _ _ h => h) (by kernel_rfl) (by kernel_rfl) (Or.inl ⟨by rfl, ?_⟩) HS.out ?_
      rotate_left
      · (intro w9 h9; go_simp; try with_reducible rfl)
      try simp only [getElem_toArray, getElem_cons_succ, getElem_cons_zero, Act.put, setIfInBounds_toArray, set_cons_zero, set_cons_succ]
      refine AnyT.take (i := 7) (v := ?_) rfl (by kernel_rfl) (by kernel_rfl) (fun _ _ _ h => h) (by kernel_rfl) (by kernel_rfl) (Or.inl ⟨by rfl, ?_⟩) HS.out ?_
      rotate_left
      · (intro w9 h9; go_simp; try with_reducible rfl)
      try simp only [getElem_toArray, getElem_cons_succ, getElem_cons_zero, Act.put, setIfInBounds_toArray, set_cons_zero, set_cons_succ]
      refine AnyT.take (i := 8) (v := ?_) rfl (by kernel_rfl) (by kernel_rfl) (fun _ _ _ h => h) (by kernel_rfl) (by kernel_rfl) (Or.inl ⟨by rfl, ?_⟩) HS.out ?_
      rotate_left
      · (intro w9 h9; go_simp; try with_reducible rfl)
      try simp only [getElem_toArray, getElem_cons_succ, getElem_cons_zero, Act.put, setIfInBounds_toArray, set_cons_zero, set_cons_succ]
      refine AnyT.take (i := 9) (v := ?_) rfl (by kernel_rfl) (by kernel_rfl) (fun _ _ _ h => h) (by kernel_rfl) (by kernel_rfl) (Or.inl ⟨by rfl, ?_⟩) HS.out ?_
      rotate_left
      · (intro w9 h9; go_simp; try with_reducible rfl)
      try simp only [getElem_toArray, getElem_cons_succ, getElem_cons_zero, Act.put, setIfInBounds_toArray, set_cons_zero, set_cons_succ]
      refine AnyT.take (i := 10) (v := ?_) rfl (by kernel_rfl) (by kernel_rfl) (fun _ _ _ h => h) (by kernel_rfl) (by kernel_rfl) (Or.inl ⟨by rfl, ?_⟩) HS.out ?_
      rotate_left
      · (intro w9 h9; go_simp; try with_reducible rfl)
      try simp only [getElem_toArray, getElem_cons_succ, getElem_cons_zero, Act.put, setIfInBounds_toArray, set_cons_zero, set_cons_succ]
      refine AnyT.take (i := 11) (v := ?_) rfl (by kernel_rfl) (by kernel_rfl) (fun _ _ _ h => h) (by kernel_rfl) (by kernel_rfl) (Or.inl ⟨by rfl, ?_⟩) HS.out ?_
      rotate_left
      · (intro w9 h9; go_simp; try with_reducible rfl)
      try simp only [getElem_toArray, getElem_cons_succ, getElem_cons_zero, Act.put, setIfInBounds_toArray, set_cons_zero, set_cons_succ]
      refine AnyT.take (i := 12) (v := ?_) rfl (by kernel_rfl) (by kernel_rfl) (fun _ _ _ h => h) (by kernel_rfl) (by kernel_rfl) (Or.inl ⟨by rfl, ?_⟩) HS.out ?_
      rotate_left
      · (intro w9 h9; go_simp; try with_reducible rfl)
      try simp only [getElem_toArray, getElem_cons_succ, getElem_cons_zero, Act.put, setIfInBounds_toArray, set_cons_zero, set_cons_succ]
      refine AnyT.take (i := 13) (v := ?_) rfl (by kernel_rfl) (by kernel_rfl) (fun _ _ _ h => h) (by kernel_rfl) (by kernel_rfl) (Or.inl ⟨by rfl, ?_⟩) HS.out ?_
      rotate_left
      · (intro w9 h9; go_simp; try with_reducible rfl)
      try simp only [getElem_toArray, getElem_cons_succ, getElem_cons_zero, Act.put, setIfInBounds_toArray, set_cons_zero, set_cons_succ]
      refine AnyT.take (i := 14) (v := ?_) rfl (by kernel_rfl) (by kernel_rfl) (fun _ _ _ h => h) (by kernel_rfl) (by kernel_rfl) (Or.inl ⟨by rfl, ?_⟩) HS.out ?_
      rotate_left
      · (intro w9 h9; go_simp; try with_reducible rfl)
      try simp only [getElem_toArray, getElem_cons_succ, getElem_cons_zero, Act.put, setIfInBounds_toArray, set_cons_zero, set_cons_succ]
      refine AnyT.take (i := 15) (v := ?_) rfl (by kernel_rfl) (by kernel_rfl) (fun _ _ _ h => h) (by kernel_rfl) (by kernel_rfl) (Or.inl ⟨by rfl, ?_⟩) HS.out ?_
      rotate_left
      · (intro w9 h9; go_simp; try with_reducible rfl)
      try simp only [getElem_toArray, getElem_cons_succ, getElem_cons_zero, Act.put, setIfInBounds_toArray, set_cons_zero, set_cons_succ]
      refine AnyT.take (i := 16) (v := ?_) rfl (by kernel_rfl) (by kernel_rfl) (fun _ _ _ h => h) (by kernel_rfl) (by kernel_rfl) (Or.inl ⟨by rfl, ?_⟩) HS.out ?_
      rotate_left
      · (intro w9 h9; go_simp; try with_reducible rfl)
      try simp only [getElem_toArray, getElem_cons_succ, getElem_cons_zero, Act.put, setIfInBounds_toArray, set_cons_zero, set_cons_succ]
      refine AnyT.take (i := 17) (v := ?_) rfl (by kernel_rfl) (by kernel_rfl) (fun _ _ _ h => h) (by kernel_rfl) (by kernel_rfl) (Or.inl ⟨by rfl, ?_⟩) HS.out ?_
      rotate_left
      · (intro w9 h9; go_simp; try with_reducible rfl)
      try simp only [getElem_toArray, getElem_cons_succ, getElem_cons_zero, Act.put, setIfInBounds_toArray, set_cons_zero, set_cons_succ]
      refine AnyT.take (i := 18) (v := ?_) rfl (by kernel_rfl) (by kernel_rfl) (fun _ _ _ h => h) (by kernel_rfl) (by kernel_rfl) (Or.inl ⟨by rfl, ?_⟩) HS.out ?_
      rotate_left
      · (intro w9 h9; go_simp; try with_reducible rfl)
      try simp only [getElem_toArray, getElem_cons_succ, getElem_cons_zero, Act.put, setIfInBounds_toArray, set_cons_zero, set_cons_succ]
      refine AnyT.take (i := 19) (v := ?_) rfl (by kernel_rfl) (by kernel_rfl) (fun _ _ _ h => h) (by kernel_rfl) (by kernel_rfl) (Or.inl ⟨by rfl, ?_⟩) HS.out ?_
      rotate_left
      · (intro w9 h9; go_simp; try with_reducible rfl)
      try simp only [getElem_toArray, getElem_cons_succ, getElem_cons_zero, Act.put, setIfInBounds_toArray, set_cons_zero, set_cons_succ]
      refine AnyT.take (i := 20) (v := ?_) rfl (by kernel_rfl) (by kernel_rfl) (fun _ _ _ h => h) (by kernel_rfl) (by kernel_rfl) (Or.inl ⟨by rfl, ?_⟩) HS.out ?_
      rotate_left
      · (intro w9 h9; go_simp; try with_reducible rfl)
      try simp only [getElem_toArray, getElem_cons_succ, getElem_cons_zero, Act.put, setIfInBounds_toArray, set_cons_zero, set_cons_succ]
      refine AnyT.take (i := 21) (v := ?_) rfl (by kernel_rfl) (by kernel_rfl) (fun _ _ _ h => h) (by kernel_rfl) (by kernel_rfl) (Or.inl ⟨by rfl, ?_⟩) HS.out ?_
      rotate_left
      · (intro w9 h9; go_simp; try with_reducible rfl)
      try simp only [getElem_toArray, getElem_cons_succ, getElem_cons_zero, Act.put, setIfInBounds_toArray, set_cons_zero, set_cons_succ]
      refine AnyT.take (i := 22) (v := ?_) rfl (by kernel_rfl) (by kernel_rfl) (fun _ _ _ h => h) (by kernel_rfl) (by kernel_rfl) (Or.inl ⟨by rfl, ?_⟩) HS.out ?_
      rotate_left
      · (intro w9 h9; go_simp; try with_reducible rfl)
      try simp only [getElem_toArray, getElem_cons_succ, getElem_cons_zero, Act.put, setIfInBounds_toArray, set_cons_zero, set_cons_succ]
      refine AnyT.one (i := 23) (by kernel_rfl) rfl (fun K hK => ?_)
      go_simp
      refine hK.out _ _ (fun _ => trivial) ?_
      clear hK K
      try simp only [getElem_toArray, getElem_cons_succ, getElem_cons_zero, Act.put, setIfInBounds_toArray, set_cons_zero, set_cons_succ]
      refine AnyT.one (i := 24) (by kernel_rfl) rfl (fun K hK => ?_)
      go_simp
      go_wp2_with (go_at_call 53; refine HX.out.mono ?_; rintro e w3 ⟨rfl, ns, a3, e3, hWx, hnx, hux, hBx, hcx, hTx⟩)
      refine hK.out _ _ (fun _ => trivial) ?_
      clear hK K
      try simp only [getElem_toArray, getElem_cons_succ, getElem_cons_zero, Act.put, setIfInBounds_toArray, set_cons_zero, set_cons_succ]
      refine AnyT.nil (by kernel_rfl) ?_
      clear HS
      obtain ⟨inc, boot, session, seq, id, parent, rfl⟩ : ∃ inc boot session seq id parent, ns = [inc, boot, session, seq, id, parent] := by
        match ns, hnx with
        | [inc, boot, session, seq, id, parent], _ => exact ⟨inc, boot, session, seq, id, parent, rfl⟩
      have HU3 := hide (And.intro True.intro hux)
      clear hnx
      have HB3 := hide (show Blk w3 b 63 (putL (putL (putL (zeroP) [0] [iv 8]) [1, 2] [uv fr, uv tt]) [50, 51, 53, 54, 56, 57] [uv inc, uv boot, uv session, uv seq, uv id, uv parent]) from hBx)
      have HW3 := hide hWx
      have HT3 := hide (hTx)
      have HC3 := hide (HC2.out.trans (((chgX (S := fun k => k = g ∨ k = b) hcL).trans hcx fun _ _ h => h)) fun _ _ h => h)
      clear hWx hBx hcx hTx HW2 HB2 HC2
      clear hcd hcM hcL HX hux
      go_upto_region 30 with (go_at_call 57; refine (rvText (o := 52) (HW3.out) (HB3.out) hf (putL_get (putL_get (putL_get (HZ52.out) (by simp <;> omega)) (by simp <;> omega)) (by simp <;> omega)) (by first | exact hsn | decide)).mono ?_; rintro e w4 ⟨rfl, name, a4, e4, hWx, hBx, hcx, hTx⟩)
      have HB4 := hide (show Blk w4 b 63 ((putL (putL (putL (zeroP) [0] [iv 8]) [1, 2] [uv fr, uv tt]) [50, 51, 53, 54, 56, 57] [uv inc, uv boot, uv session, uv seq, uv id, uv parent]).setIfInBounds (52) (.string name)) from hBx)
      have HW4 := hide hWx
      have HT4 := hide (hTx)
      have HC4 := hide (HC3.out.trans (hcx) fun _ _ h => h)
      clear hWx hBx hcx hTx HW3 HB3 HC3
      have hpt := RdPt.lit w4 133 #[.pointer (some ⟨b, 55, none⟩)] [⟨b, 55, none⟩] 1 rfl rfl (by simp [maxLen])
      have hcL := (Chg.refl Non w4).alloc (.cells #[.pointer (some ⟨b, 55, none⟩)] 133)
      have hWL := (HW4.out).c0 hcL
      have hBL := (HB4.out).c0 hcL
      have hFp : ∀ k, k = w4.heap.size → k ≠ g ∧ k ≠ b := fun k e => by have := (HW4.out).rd.lt; have := (HB4.out).lt; omega
      have hos : ∀ o ∈ [55], ∃ z, ((putL (putL (putL (zeroP) [0] [iv 8]) [1, 2] [uv fr, uv tt]) [50, 51, 53, 54, 56, 57] [uv inc, uv boot, uv session, uv seq, uv id, uv parent]).setIfInBounds (52) (.string name))[o]? = some (.int .i64 z) := fun o ho => by rw [List.mem_singleton] at ho; subst ho; exact ⟨_, (set_get (putL_get (putL_get (putL_get (HZ55.out) (by simp <;> omega)) (by simp <;> omega)) (by simp <;> omega)) (by omega))⟩
      go_upto_region 37 with (go_at_call 52; refine (rvWhole (os := [55]) hWL hpt hFp hBL hf hos).mono ?_; rintro e w5 ⟨rfl, zs, a5, e5, hWx, hnx, hux, hBx, hcx, hTx⟩)
      obtain ⟨what, rfl⟩ : ∃ n, zs = [n] := List.length_eq_one_iff.1 hnx
      have HU5 := hide (hux what (by simp))
      have HB5 := hide (show Blk w5 b 63 (putL ((putL (putL (putL (zeroP) [0] [iv 8]) [1, 2] [uv fr, uv tt]) [50, 51, 53, 54, 56, 57] [uv inc, uv boot, uv session, uv seq, uv id, uv parent]).setIfInBounds (52) (.string name)) [55] [iv what]) from hBx)
      have HW5 := hide hWx
      have HT5 := hide (hTx.single)
      have HC5 := hide (HC4.out.trans (((chgX (S := fun k => k = g ∨ k = b) hcL).trans hcx fun _ _ h => h)) fun _ _ h => h)
      clear hWx hBx hcx hTx HW4 HB4 HC4
      clear hpt hcL hWL hBL hFp hos hnx hux
      go_wp2_with fail
      go_ret
      exact .inl ⟨rfl, fr, tt, (.order inc boot session seq id parent name what), .slice none 0 0, .slice none 0 0, .slice none 0 0, a5, e5, HW5.out, trivial, (by have hb := HB5.out; simp only [pktA, payO, payVs, Pay.kind, putL] at hb ⊢; exact hb), HC5.out, Took.pkt (x := (([inc, boot, session, seq, id, parent], name, what) : PTOrder)) HT1.out HT2.out (HT3.out.seq (HT4.out.seq (HT5.out))) mkOrder rfl mkOrder_E mkOrder_D mkOrder_inv⟩
  have n8 : (z == 8) = false := beq_eq_false_iff_ne.2 z8
  by_cases z9 : z = 9
  · subst z9
    clear z1 n1 z2 n2 z3 n3 z4 n4 z5 n5 z6 n6 z7 n7 z8 n8
    focus
      have HZ62 := hide (show zeroP[62]? = some (.int .i64 0) from rfl)
      have k0 : w2.cell? ⟨b, 0, none⟩ = some (.int .i64 9) := (HB2.out.cell 0).trans rfl
      go_upto_region 32 with fail
      clear k0
      go_upto_region 32 with fail
      have hcd : Chg Non w2 w2.drew := (Chg.refl Non w2).drew
      have hpt := RdPt.lit w2.drew 135 #[.pointer (some ⟨b, 58, none⟩), .pointer (some ⟨b, 59, none⟩), .pointer (some ⟨b, 60, none⟩), .pointer (some ⟨b, 61, none⟩)] [⟨b, 58, none⟩, ⟨b, 59, none⟩, ⟨b, 60, none⟩, ⟨b, 61, none⟩] 4 rfl rfl (by simp [maxLen])
      have hcM := (Chg.refl Non w2.drew).alloc (.cells #[.pointer (some ⟨b, 58, none⟩), .pointer (some ⟨b, 59, none⟩), .pointer (some ⟨b, 60, none⟩), .pointer (some ⟨b, 61, none⟩)] 135)
      have hcL := hcd.trans0 hcM
      have hWL := (HW2.out).c0 hcL
      have hBL := (HB2.out).c0 hcL
      have hFp : ∀ k, k = w2.drew.heap.size → k ≠ g ∧ k ≠ b := fun k e => by have := (HW2.out).rd.lt; have := (HB2.out).lt; have : w2.drew.heap.size = w2.heap.size := rfl; omega
      have hos : ∀ o ∈ [58, 59, 60, 61], o < (putL (putL (zeroP) [0] [iv 9]) [1, 2] [uv fr, uv tt]).size := fun o ho => by (try simp only [putL_size, Array.size_setIfInBounds]); simp at ho; omega
      have HX := hide (rvNum (os := [58, 59, 60, 61]) hWL hpt hFp hBL hf hos)
      clear hos hFp hpt hWL hBL
      refine wp_region_T (fun _ => True) 99 (by kernel_rfl) ?_
      have HS := hide True.intro
      refine AnyT.take (i := 0) (v := ?_) rfl (by kernel_rfl) (by kernel_rfl) (fun _ _ _ h => h) (by kernel_rfl) (by kernel_rfl) (Or.inl ⟨by rfl, ?_⟩) HS.out ?_
      rotate_left
      · (intro w9 h9; go_simp; try with_reducible rfl)
      try simp only [getElem_toArray, getElem_cons_succ, getElem_cons_zero, Act.put, setIfInBounds_toArray, set_cons_zero, set_cons_succ]
      refine AnyT.take (i := 1) (v := ?_) rfl (by kernel_rfl) (by kernel_rfl) (fun _ _ _ h => h) (by kernel_rfl) (by kernel_rfl) (Or.inl ⟨by rfl, ?_⟩) HS.out ?_
      rotate_left
      · (intro w9 h9; go_simp; try with_reducible rfl)
      try simp only [getElem_toArray, getElem_cons_succ, getElem_cons_zero, Act.put, setIfInBounds_toArray, set_cons_zero, set_cons_succ]
      refine AnyT.take (i := 2) (v := ?_) rfl (by kernel_rfl) (by kernel_rfl) (fun _ _ _ h => h) (by kernel_rfl) (by kernel_rfl) (Or.inl ⟨by rfl, ?_⟩) HS.out ?_
      rotate_left
      · (intro w9 h9; go_simp; try with_reducible rfl)
      try simp only [getElem_toArray, getElem_cons_succ, getElem_cons_zero, Act.put, setIfInBounds_toArray, set_cons_zero, set_cons_succ]
      refine AnyT.take (i := 3) (v := ?_) rfl (by kernel_rfl) (by kernel_rfl) (fun _ _ _ h => h) (by kernel_rfl) (by kernel_rfl) (Or.inl ⟨by rfl, ?_⟩) HS.out ?_
      rotate_left
      · (intro w9 h9; go_simp; try with_reducible rfl)
      try simp only [getElem_toArray, getElem_cons_succ, getElem_cons_zero, Act.put, setIfInBounds_toArray, set_cons_zero, set_cons_succ]
      refine AnyT.take (i := 4) (v := ?_) rfl (by kernel_rfl) (by kernel_rfl) (fun _ _ _ h => h) (by kernel_rfl) (by kernel_rfl) (Or.inl ⟨by rfl, ?_⟩) HS.out ?_
      rotate_left
      · (intro w9 h9; go_simp; try with_reducible rfl)
      try simp only [getElem_toArray, getElem_cons_succ, getElem_cons_zero, Act.put, setIfInBounds_toArray, set_cons_zero, set_cons_succ]
      refine AnyT.take (i := 5) (v := ?_) rfl (by kernel_rfl) (by kernel_rfl) (fun _ _ _ h => h) (by kernel_rfl) (by kernel_rfl) (Or.inl ⟨by rfl, ?_⟩) HS.out ?_
      rotate_left
      · (intro w9 h9; go_simp; try with_reducible rfl)
      try simp only [getElem_toArray, getElem_cons_succ, getElem_cons_zero, Act.put, setIfInBounds_toArray, set_cons_zero, set_cons_succ]
      refine AnyT.take (i := 6) (v := ?_) rfl (by kernel_rfl) (by kernel_rfl) (fun _ _ _ h => h) (by kernel_rfl) (by kernel_rfl) (Or.inl ⟨by rfl, ?_⟩) HS.out ?_
      rotate_left
      · (intro w9 h9; go_simp; try with_reducible rfl)
      try simp only [getElem_toArray, getElem_cons_succ, getElem_cons_zero, Act.put, setIfInBounds_toArray, set_cons_zero, set_cons_succ]
      refine AnyT.take (i := 7) (v := ?_) rfl (by kernel_rfl) (by kernel_rfl) (fun _ _ _ h => h) (by kernel_rfl) (by kernel_rfl) (Or.inl ⟨by rfl, ?_⟩) HS.out ?_
      rotate_left
      · (intro w9 h9; go_simp; try with_reducible rfl)
      try simp only [getElem_toArray, getElem_cons_succ, getElem_cons_zero, Act.put, setIfInBounds_toArray, set_cons_zero, set_cons_succ]
      refine AnyT.take (i := 8) (v := ?_) rfl (by kernel_rfl) (by kernel_rfl) (fun _ _ _ h => h) (by kernel_rfl) (by kernel_rfl) (Or.inl ⟨by rfl, ?_⟩) HS.out ?_
      rotate_left
      · (intro w9 h9; go_simp; try with_reducible rfl)
      try simp only [getElem_toArray, getElem_cons_succ, getElem_cons_zero, Act.put, setIfInBounds_toArray, set_cons_zero, set_cons_succ]
      refine AnyT.take (i := 9) (v := ?_) rfl (by kernel_rfl) (by kernel_rfl) (fun _ _ _ h => h) (by kernel_rfl) (by kernel_rfl) (Or.inl ⟨by rfl, ?_⟩) HS.out ?_
      rotate_left
      · (intro w9 h9; go_simp; try with_reducible rfl)
      try simp only [getElem_toArray, getElem_cons_succ, getElem_cons_zero, Act.put, setIfInBounds_toArray, set_cons_zero, set_cons_succ]
      refine AnyT.take (i := 10) (v := ?_) rfl (by kernel_rfl) (by kernel_rfl) (fun _ _ _ h => h) (by kernel_rfl) (by kernel_rfl) (Or.inl ⟨by rfl, ?_⟩) HS.out ?_
      rotate_left
      · (intro w9 h9; go_simp; try with_reducible rfl)
      try simp only [getElem_toArray, getElem_cons_succ, getElem_cons_zero, Act.put, setIfInBounds_toArray, set_cons_zero, set_cons_succ]
      refine AnyT.take (i := 11) (v := ?_) rfl (by kernel_rfl) (by kernel_rfl) (fun _ _ _ h => h) (by kernel_rfl) (by kernel_rfl) (Or.inl ⟨by rfl, ?_⟩) HS.out ?_
      rotate_left
      · (intro w9 h9; go_simp; try with_reducible rfl)
      try simp only [getElem_toArray, getElem_cons_succ, getElem_cons_zero, Act.put, setIfInBounds_toArray, set_cons_zero, set_cons_succ]
      refine AnyT.take (i := 12) (v := ?_) rfl (by kernel_rfl) (by kernel_rfl) (fun _ _ _ h => h) (by kernel_rfl) (by kernel_rfl) (Or.inl ⟨by rfl, ?_⟩) HS.out ?_
      rotate_left
      · (intro w9 h9; go_simp; try with_reducible rfl)
      try simp only [getElem_toArray, getElem_cons_succ, getElem_cons_zero, Act.put, setIfInBounds_toArray, set_cons_zero, set_cons_succ]
      refine AnyT.take (i := 13) (v := ?_) rfl (by kernel_rfl) (by kernel_rfl) (fun _ _ _ h => h) (by kernel_rfl) (by kernel_rfl) (Or.inl ⟨by rfl, ?_⟩) HS.out ?_
      rotate_left
      · (intro w9 h9; go_simp; try with_reducible rfl)
      try simp only [getElem_toArray, getElem_cons_succ, getElem_cons_zero, Act.put, setIfInBounds_toArray, set_cons_zero, set_cons_succ]
      refine AnyT.take (i := 14) (v := ?_) rfl (by kernel_rfl) (by kernel_rfl) (fun _ _ _ h => h) (by kernel_rfl) (by kernel_rfl) (Or.inl ⟨by rfl, ?_⟩) HS.out ?_
      rotate_left
      · (intro w9 h9; go_simp; try with_reducible rfl)
      try simp only [getElem_toArray, getElem_cons_succ, getElem_cons_zero, Act.put, setIfInBounds_toArray, set_cons_zero, set_cons_succ]
      refine AnyT.take (i := 15) (v := ?_) rfl (by kernel_rfl) (by kernel_rfl) (fun _ _ _ h => h) (by kernel_rfl) (by kernel_rfl) (Or.inl ⟨by rfl, ?_⟩) HS.out ?_
      rotate_left
      · (intro w9 h9; go_simp; try with_reducible rfl)
      try simp only [getElem_toArray, getElem_cons_succ, getElem_cons_zero, Act.put, setIfInBounds_toArray, set_cons_zero, set_cons_succ]
      refine AnyT.take (i := 16) (v := ?_) rfl (by kernel_rfl) (by kernel_rfl) (fun _ _ _ h => h) (by kernel_rfl) (by kernel_rfl) (Or.inl ⟨by rfl, ?_⟩) HS.out ?_
      rotate_left
      · (intro w9 h9; go_simp; try with_reducible rfl)
      try simp only [getElem_toArray, getElem_cons_succ, getElem_cons_zero, Act.put, setIfInBounds_toArray, set_cons_zero, set_cons_succ]
      refine AnyT.one (i := 17) (by kernel_rfl) rfl (fun K hK => ?_)
      go_simp
      refine hK.out _ _ (fun _ => trivial) ?_
      clear hK K
      try simp only [getElem_toArray, getElem_cons_succ, getElem_cons_zero, Act.put, setIfInBounds_toArray, set_cons_zero, set_cons_succ]
      refine AnyT.one (i := 18) (by kernel_rfl) rfl (fun K hK => ?_)
      go_simp
      go_wp2_with (go_at_call 53; refine HX.out.mono ?_; rintro e w3 ⟨rfl, ns, a3, e3, hWx, hnx, hux, hBx, hcx, hTx⟩)
      refine hK.out _ _ (fun _ => trivial) ?_
      clear hK K
      try simp only [getElem_toArray, getElem_cons_succ, getElem_cons_zero, Act.put, setIfInBounds_toArray, set_cons_zero, set_cons_succ]
      refine AnyT.nil (by kernel_rfl) ?_
      clear HS
      obtain ⟨inc, boot, session, seq, rfl⟩ : ∃ inc boot session seq, ns = [inc, boot, session, seq] := by
        match ns, hnx with
        | [inc, boot, session, seq], _ => exact ⟨inc, boot, session, seq, rfl⟩
      have HU3 := hide (And.intro True.intro hux)
      clear hnx
      have HB3 := hide (show Blk w3 b 63 (putL (putL (putL (zeroP) [0] [iv 9]) [1, 2] [uv fr, uv tt]) [58, 59, 60, 61] [uv inc, uv boot, uv session, uv seq]) from hBx)
      have HW3 := hide hWx
      have HT3 := hide (hTx)
      have HC3 := hide (HC2.out.trans (((chgX (S := fun k => k = g ∨ k = b) hcL).trans hcx fun _ _ h => h)) fun _ _ h => h)
      clear hWx hBx hcx hTx HW2 HB2 HC2
      clear hcd hcM hcL HX hux
      go_upto_region 37 with (go_at_call 59; refine (rvErrno (o := 62) (HW3.out) (HB3.out) hf (putL_get (putL_get (putL_get (HZ62.out) (by simp <;> omega)) (by simp <;> omega)) (by simp <;> omega))).mono ?_; rintro e w4 ⟨rfl, err, a4, e4, hWx, hux, hBx, hcx, hTx⟩)
      have HU4 := hide hux
      have HB4 := hide (show Blk w4 b 63 ((putL (putL (putL (zeroP) [0] [iv 9]) [1, 2] [uv fr, uv tt]) [58, 59, 60, 61] [uv inc, uv boot, uv session, uv seq]).setIfInBounds (62) (iv err)) from hBx)
      have HW4 := hide hWx
      have HT4 := hide (hTx)
      have HC4 := hide (HC3.out.trans (hcx) fun _ _ h => h)
      clear hWx hBx hcx hTx HW3 HB3 HC3
      clear hux
      go_wp2_with fail
      go_ret
      exact .inl ⟨rfl, fr, tt, (.result inc boot session seq err), .slice none 0 0, .slice none 0 0, .slice none 0 0, a4, e4, HW4.out, trivial, (by have hb := HB4.out; simp only [pktA, payO, payVs, Pay.kind, putL] at hb ⊢; exact hb), HC4.out, Took.pkt (x := (([inc, boot, session, seq], err) : PTResult)) HT1.out HT2.out (HT3.out.seq (HT4.out)) mkResult rfl mkResult_E mkResult_D mkResult_inv⟩
  have n9 : (z == 9) = false := beq_eq_false_iff_ne.2 z9
  by_cases z10 : z = 10
  · subst z10
    clear z1 n1 z2 n2 z3 n3 z4 n4 z5 n5 z6 n6 z7 n7 z8 n8 z9 n9
    focus
      have k0 : w2.cell? ⟨b, 0, none⟩ = some (.int .i64 10) := (HB2.out.cell 0).trans rfl
      go_wp2_with fail
      go_ret
      exact .inl ⟨rfl, fr, tt, (.greet), .slice none 0 0, .slice none 0 0, .slice none 0 0, a2, e2, HW2.out, trivial, (by have hb := HB2.out; simp only [pktA, payO, payVs, Pay.kind, putL] at hb ⊢; exact hb), HC2.out, Took.pkt (x := (() : PTGreet)) HT1.out HT2.out (Took.unit) mkGreet rfl mkGreet_E mkGreet_D mkGreet_inv⟩
  have n10 : (z == 10) = false := beq_eq_false_iff_ne.2 z10
  by_cases z11 : z = 11
  · subst z11
    clear z1 n1 z2 n2 z3 n3 z4 n4 z5 n5 z6 n6 z7 n7 z8 n8 z9 n9 z10 n10
    focus
      have k0 : w2.cell? ⟨b, 0, none⟩ = some (.int .i64 11) := (HB2.out.cell 0).trans rfl
      go_upto_region 36 with fail
      clear k0
      go_upto_region 36 with fail
      have hcd : Chg Non w2 w2.drew := (Chg.refl Non w2).drew
      have hpt := RdPt.lit w2.drew 135 #[.pointer (some ⟨b, 63, none⟩), .pointer (some ⟨b, 64, none⟩)] [⟨b, 63, none⟩, ⟨b, 64, none⟩] 2 rfl rfl (by simp [maxLen])
      have hcM := (Chg.refl Non w2.drew).alloc (.cells #[.pointer (some ⟨b, 63, none⟩), .pointer (some ⟨b, 64, none⟩)] 135)
      have hcL := hcd.trans0 hcM
      have hWL := (HW2.out).c0 hcL
      have hBL := (HB2.out).c0 hcL
      have hFp : ∀ k, k = w2.drew.heap.size → k ≠ g ∧ k ≠ b := fun k e => by have := (HW2.out).rd.lt; have := (HB2.out).lt; have : w2.drew.heap.size = w2.heap.size := rfl; omega
      have hos : ∀ o ∈ [63, 64], o < (putL (putL (zeroP) [0] [iv 11]) [1, 2] [uv fr, uv tt]).size := fun o ho => by (try simp only [putL_size, Array.size_setIfInBounds]); simp at ho; omega
      have HX := hide (rvNum (os := [63, 64]) hWL hpt hFp hBL hf hos)
      clear hos hFp hpt hWL hBL
      refine wp_region_T (fun _ => True) 99 (by kernel_rfl) ?_
      have HS := hide True.intro
      refine AnyT.take (i := 0) (v := ?_) rfl (by kernel_rfl) (by kernel_rfl) (fun _ _ _ h => h) (by kernel_rfl) (by kernel_rfl) (Or.inl ⟨by rfl, ?_⟩) HS.out ?_
      rotate_left
      · (intro w9 h9; go_simp; try with_reducible rfl)
      try simp only [getElem_toArray, getElem_cons_succ, getElem_cons_zero, Act.put, setIfInBounds_toArray, set_cons_zero, set_cons_succ]
      refine AnyT.take (i := 1) (v := ?_) rfl (by kernel_rfl) (by kernel_rfl) (fun _ _ _ h => h) (by kernel_rfl) (by kernel_rfl) (Or.inl ⟨by rfl, ?_⟩) HS.out ?_
      rotate_left
      · (intro w9 h9; go_simp; try with_reducible rfl)
      try simp only [getElem_toArray, getElem_cons_succ, getElem_cons_zero, Act.put, setIfInBounds_toArray, set_cons_zero, set_cons_succ]
      refine AnyT.take (i := 2) (v := ?_) rfl (by kernel_rfl) (by kernel_rfl) (fun _ _ _ h => h) (by kernel_rfl) (by kernel_rfl) (Or.inl ⟨by rfl, ?_⟩) HS.out ?_
      rotate_left
      · (intro w9 h9; go_simp; try with_reducible rfl)
      try simp only [getElem_toArray, getElem_cons_succ, getElem_cons_zero, Act.put, setIfInBounds_toArray, set_cons_zero, set_cons_succ]
      refine AnyT.take (i := 3) (v := ?_) rfl (by kernel_rfl) (by kernel_rfl) (fun _ _ _ h => h) (by kernel_rfl) (by kernel_rfl) (Or.inl ⟨by rfl, ?_⟩) HS.out ?_
      rotate_left
      · (intro w9 h9; go_simp; try with_reducible rfl)
      try simp only [getElem_toArray, getElem_cons_succ, getElem_cons_zero, Act.put, setIfInBounds_toArray, set_cons_zero, set_cons_succ]
      refine AnyT.take (i := 4) (v := ?_) rfl (by kernel_rfl) (by kernel_rfl) (fun _ _ _ h => h) (by kernel_rfl) (by kernel_rfl) (Or.inl ⟨by rfl, ?_⟩) HS.out ?_
      rotate_left
      · (intro w9 h9; go_simp; try with_reducible rfl)
      try simp only [getElem_toArray, getElem_cons_succ, getElem_cons_zero, Act.put, setIfInBounds_toArray, set_cons_zero, set_cons_succ]
      refine AnyT.take (i := 5) (v := ?_) rfl (by kernel_rfl) (by kernel_rfl) (fun _ _ _ h => h) (by kernel_rfl) (by kernel_rfl) (Or.inl ⟨by rfl, ?_⟩) HS.out ?_
      rotate_left
      · (intro w9 h9; go_simp; try with_reducible rfl)
      try simp only [getElem_toArray, getElem_cons_succ, getElem_cons_zero, Act.put, setIfInBounds_toArray, set_cons_zero, set_cons_succ]
      refine AnyT.take (i := 6) (v := ?_) rfl (by kernel_rfl) (by kernel_rfl) (fun _ _ _ h => h) (by kernel_rfl) (by kernel_rfl) (Or.inl ⟨by rfl, ?_⟩) HS.out ?_
      rotate_left
      · (intro w9 h9; go_simp; try with_reducible rfl)
      try simp only [getElem_toArray, getElem_cons_succ, getElem_cons_zero, Act.put, setIfInBounds_toArray, set_cons_zero, set_cons_succ]
      refine AnyT.take (i := 7) (v := ?_) rfl (by kernel_rfl) (by kernel_rfl) (fun _ _ _ h => h) (by kernel_rfl) (by kernel_rfl) (Or.inl ⟨by rfl, ?_⟩) HS.out ?_
      rotate_left
      · (intro w9 h9; go_simp; try with_reducible rfl)
      try simp only [getElem_toArray, getElem_cons_succ, getElem_cons_zero, Act.put, setIfInBounds_toArray, set_cons_zero, set_cons_succ]
      refine AnyT.take (i := 8) (v := ?_) rfl (by kernel_rfl) (by kernel_rfl) (fun _ _ _ h => h) (by kernel_rfl) (by kernel_rfl) (Or.inl ⟨by rfl, ?_⟩) HS.out ?_
      rotate_left
      · (intro w9 h9; go_simp; try with_reducible rfl)
      try simp only [getElem_toArray, getElem_cons_succ, getElem_cons_zero, Act.put, setIfInBounds_toArray, set_cons_zero, set_cons_succ]
      refine AnyT.one (i := 9) (by kernel_rfl) rfl (fun K hK => ?_)
      go_simp
      refine hK.out _ _ (fun _ => trivial) ?_
      clear hK K
      try simp only [getElem_toArray, getElem_cons_succ, getElem_cons_zero, Act.put, setIfInBounds_toArray, set_cons_zero, set_cons_succ]
      refine AnyT.one (i := 10) (by kernel_rfl) rfl (fun K hK => ?_)
      go_simp
      go_wp2_with (go_at_call 53; refine HX.out.mono ?_; rintro e w3 ⟨rfl, ns, a3, e3, hWx, hnx, hux, hBx, hcx, hTx⟩)
      refine hK.out _ _ (fun _ => trivial) ?_
      clear hK K
      try simp only [getElem_toArray, getElem_cons_succ, getElem_cons_zero, Act.put, setIfInBounds_toArray, set_cons_zero, set_cons_succ]
      refine AnyT.nil (by kernel_rfl) ?_
      clear HS
      obtain ⟨inc, boot, rfl⟩ : ∃ inc boot, ns = [inc, boot] := by
        match ns, hnx with
        | [inc, boot], _ => exact ⟨inc, boot, rfl⟩
      have HU3 := hide (And.intro True.intro hux)
      clear hnx
      have HB3 := hide (show Blk w3 b 63 (putL (putL (putL (zeroP) [0] [iv 11]) [1, 2] [uv fr, uv tt]) [63, 64] [uv inc, uv boot]) from hBx)
      have HW3 := hide hWx
      have HT3 := hide (hTx)
      have HC3 := hide (HC2.out.trans (((chgX (S := fun k => k = g ∨ k = b) hcL).trans hcx fun _ _ h => h)) fun _ _ h => h)
      clear hWx hBx hcx hTx HW2 HB2 HC2
      clear hcd hcM hcL HX hux
      go_wp2_with fail
      go_ret
      exact .inl ⟨rfl, fr, tt, (.welcome inc boot), .slice none 0 0, .slice none 0 0, .slice none 0 0, a3, e3, HW3.out, trivial, (by have hb := HB3.out; simp only [pktA, payO, payVs, Pay.kind, putL] at hb ⊢; exact hb), HC3.out, Took.pkt (x := ([inc, boot] : PTWelcome)) HT1.out HT2.out (HT3.out) mkWelcome rfl mkWelcome_E mkWelcome_D mkWelcome_inv⟩
  have n11 : (z == 11) = false := beq_eq_false_iff_ne.2 z11
  have HN := hide (show z < 1 ∨ 11 < z by omega)
  clear z1 z2 z3 z4 z5 z6 z7 z8 z9 z10 z11
  have k0 : w2.cell? ⟨b, 0, none⟩ = some (.int .i64 z) := (HB2.out.cell 0).trans rfl
  go_wp2_with fail
  go_ret
  exact .inr (.inl ⟨rfl, Fell.kind HT1.out HN.out, ⟨_, HB2.out, by simp only [putL_size]⟩, HC2.out⟩)
end Go.Proofs.Ytncchbcoldgpbaa
