/- rpc's wire, where it writes: an outcome. -/
import Derived.Test.YtncchbcoldgpbaaWiM
open List (getElem_toArray getElem_cons_succ getElem_cons_zero setIfInBounds_toArray set_cons_zero set_cons_succ)
namespace Go.Proofs.Ytncchbcoldgpbaa
open Go.RowKit
set_option linter.unusedVariables false
set_option linter.unusedSimpArgs false

structure WrO where
  a : List UInt8
  b : List UInt8
  f : Bool
def wrB (o : WrO) : List UInt8 := flatB [o.a, o.b] ++ flagB o.f
def wrsB (l : List WrO) : List UInt8 := l.flatMap wrB
theorem wrsB_take {l : List WrO} {k : Nat} (h : k < l.length) : wrsB (l.take (k + 1)) = wrsB (l.take k) ++ wrB l[k] := by
  unfold wrsB; rw [List.take_succ_eq_append_getElem h, List.flatMap_append, List.flatMap_cons, List.flatMap_nil, List.append_nil]
theorem wrsB_take_le (l : List WrO) (k : Nat) : (wrsB (l.take k)).length ≤ (wrsB l).length := by
  have h : wrsB l = wrsB (l.take k) ++ wrsB (l.drop k) := by unfold wrsB; rw [← List.flatMap_append, List.take_append_drop]
  rw [h, List.length_append]; omega
theorem flat3_get {α : Type} (f0 f1 f2 : α → Value) : ∀ (l : List α) (k i : Nat) (h : k < l.length), i < 3 → (l.flatMap fun p => [f0 p, f1 p, f2 p])[k * 3 + i]? = [f0 l[k], f1 l[k], f2 l[k]][i]?
  | a :: l, 0, i, _, hi => by
    rw [Nat.zero_mul, Nat.zero_add, List.flatMap_cons, List.getElem?_append_left (by simpa using hi)]
    rfl
  | a :: l, k + 1, i, h, hi => by
    rw [List.flatMap_cons, show (k + 1) * 3 + i = (k * 3 + i) + 3 by omega, List.getElem?_append_right (by simp)]
    simp only [List.length_cons, List.length_nil, Nat.zero_add, Nat.add_sub_cancel]
    rw [flat3_get f0 f1 f2 l k i (by simpa using h) hi]
    rfl
/-- a list of writes -/
def RdWr (w : World) (F : Nat → Prop) (v : Value) (l : List WrO) : Prop :=
  ∃ xs : List (Value × Value), xs.length = l.length ∧ RdV w F 3 v l.length ((xs.zip l).flatMap fun p => [p.1.1, p.1.2, .bool p.2.f]) ∧ ∀ (i : Nat) (x : Value × Value) (y : WrO), xs[i]? = some x → l[i]? = some y → RdB w F x.1 y.a ∧ RdB w F x.2 y.b
theorem RdWr.chg {w w' : World} {F S : Nat → Prop} {v : Value} {r : List WrO} (h : RdWr w F v r) (hc : Chg S w w') (hF : ∀ k, F k → ¬ S k) : RdWr w' F v r := by
  obtain ⟨xs, h1, h2, h3⟩ := h
  exact ⟨xs, h1, h2.chg hc hF, fun i x y hx hy => ⟨(h3 i x y hx hy).1.chg hc hF, (h3 i x y hx hy).2.chg hc hF⟩⟩
theorem RdWr.at_ {w : World} {F : Nat → Prop} {A : Option Addr} {n c : Nat} {l : List WrO} (h : RdWr w F (.slice A n c) l) {k : Nat} (hk : k < l.length) :
    ∃ ad p q, A = some ad ∧ F ad.block ∧ w.cell? (ad.add (k * 3)) = some p ∧ w.cell? ⟨(ad.add (k * 3)).block, (ad.add (k * 3)).off + 1, none⟩ = some q ∧ w.cell? ⟨(ad.add (k * 3)).block, (ad.add (k * 3)).off + 2, none⟩ = some (.bool l[k].f) ∧ RdB w F p l[k].a ∧ RdB w F q l[k].b := by
  obtain ⟨xs, h1, ⟨h2, A', c', e, _, _, h4⟩, h3⟩ := h
  injection e with e1 e2 e3
  subst e1
  obtain ⟨ad, e, hF, hc⟩ := h4 (by omega)
  have hkx : k < xs.length := by omega
  have hz : k < (xs.zip l).length := by rw [List.length_zip]; omega
  have hg : (xs.zip l)[k] = (xs[k], l[k]) := by rw [List.getElem_zip]
  have hf := fun i (hi : i < 3) => flat3_get (fun p : (Value × Value) × WrO => p.1.1) (fun p => p.1.2) (fun p => Value.bool p.2.f) (xs.zip l) k i hz hi
  rw [hg] at hf
  obtain ⟨r1, r2⟩ := h3 k xs[k] l[k] (List.getElem?_eq_getElem hkx) (List.getElem?_eq_getElem hk)
  refine ⟨ad, xs[k].1, xs[k].2, e, hF, ?_, ?_, ?_, r1, r2⟩
  · exact hc (k * 3 + 0) _ (hf 0 (by omega))
  · rw [← add_succ ad (k * 3) 1 (by omega)]; exact hc (k * 3 + 1) _ (hf 1 (by omega))
  · rw [← add_succ ad (k * 3) 2 (by omega)]; exact hc (k * 3 + 2) _ (hf 2 (by omega))
theorem RdRows.chg {w w' : World} {F S : Nat → Prop} {v : Value} {r : List (List PairL)} (h : RdRows w F v r) (hc : Chg S w w') (hF : ∀ k, F k → ¬ S k) : RdRows w' F v r := by
  obtain ⟨vs, h1, h2, h3⟩ := h
  exact ⟨vs, h1, h2.chg hc hF, fun i x y hx hy => (h3 i x y hx hy).chg hc hF⟩
structure OutS where
  err : Int
  at_ : Int
  rows : List (List PairL)
  ws : List WrO
def outB (x : OutS) : List UInt8 := numB (wz x.err) ++ (numB (wz x.at_) ++ ((numB x.rows.length ++ rowsB x.rows) ++ (numB x.ws.length ++ wrsB x.ws)))
/-- an outcome stands at the place ⟨b, i⟩ -/
structure OutAt (w : World) (b i : Nat) (F : Nat → Prop) (x : OutS) (vr vw : Value) : Prop where
  c0 : w.cell? ⟨b, i, none⟩ = some (.int .i64 x.err)
  c1 : w.cell? ⟨b, i + 1, none⟩ = some (.int .i64 x.at_)
  c2 : w.cell? ⟨b, i + 2, none⟩ = some vr
  c3 : w.cell? ⟨b, i + 3, none⟩ = some vw
  f0 : w.frozen? ⟨b, i, none⟩ = false
  f1 : w.frozen? ⟨b, i + 1, none⟩ = false
  rows : RdRows w F vr x.rows
  ws : RdWr w F vw x.ws
  k0 : I64 x.err
  k1 : I64 x.at_
  rn : x.rows.length ≤ 1000000000
  rr : ∀ r ∈ x.rows, r.length ≤ 1000000000
  wn : x.ws.length ≤ 1000000000

set_option maxHeartbeats 16000000 in
set_option maxRecDepth 100000 in
theorem wirOutcome {base g b i : Nat} {v vr vw : Value} {l : List UInt8} {x : OutS} {F : Nat → Prop} {w : World} (h : Wir w base g v l) (hA : OutAt w b i F x vr vw) (hnb : ¬ WB g v b) (hF : ∀ k, F k → ¬ WB g v k) (hFl : ∀ k, F k → k < w.heap.size)
    (hb : l.length + (outB x).length + 200 ≤ 140737488355328) :
    Calls Try.prog 77 #[.pointer (some ⟨g, 0, none⟩), .pointer (some ⟨b, i, none⟩)] w fun e w' =>
      e = .returned (.tuple #[]) ∧ ∃ v', Wir w' base g v' (l ++ outB x) ∧ Chg (WB g v) w w' ∧ Grew w v v' := by
  have hbl : b < w.heap.size := World.block_lt_of_cell? w _ hA.c0
  have hlen : (outB x).length = (numB (wz x.err)).length + ((numB (wz x.at_)).length + (((numB x.rows.length).length + (rowsB x.rows).length) + ((numB x.ws.length).length + (wrsB x.ws).length))) := by simp only [outB, List.length_append]
  have hn1 := numB_length (wz x.err)
  have hn2 := numB_length (wz x.at_)
  have hn3 := numB_length x.rows.length
  have hn4 := numB_length x.ws.length
  obtain ⟨A, m, c, rfl⟩ : ∃ A m c, vw = .slice A m c := by obtain ⟨_, _, ⟨_, A, c, e, _⟩, _⟩ := hA.ws; exact ⟨A, _, c, e⟩
  have hm : m = x.ws.length := by obtain ⟨_, _, ⟨_, A', c', e, _⟩, _⟩ := hA.ws; injection e
  have hwn := hA.wn
  have hmz : I64 (m : Int) := by unfold I64; omega
  have hwz : wz (m : Int) = x.ws.length := by unfold wz; omega
  have HM := hide hm
  have HWN := hide hwz
  clear hm hwz
  have hcw0 := Chg.refl (WB g v) w
  have hG0 := Grew.refl w v
  have HA := hide hA
  clear hA
  have hbd : l.length + 9 * [x.err].length ≤ 140737488355328 := by simp only [List.length_cons, List.length_nil]; omega
  go_enter Try.func77, Try.ntmps77
  go_upto_region 1 with (go_at_call 59; refine (wirErrno h HA.out.c0 HA.out.f0 hnb HA.out.k0 hbd).mono ?_; rintro e w1 ⟨rfl, v1, hWx, hcx, hGx⟩)
  have hcw1 := hcw0.wtr hG0 (hcx)
  have hG1 := hG0.trans hcw0.size (hGx.low (Nat.le_refl _))
  have HW1 := hide (show Wir w1 base g v1 (l ++ numB (wz x.err)) from hWx)
  have hnb1 : ¬ WB g v1 b := fun hb => hnb (hG1.wb hbl hb)
  have hF1 : ∀ k, F k → ¬ WB g v1 k := fun k hk hb => hF k hk (hG1.wb (hFl k hk) hb)
  clear hWx hcx hGx
  clear hbd
  have hpt := RdPt.lit w1 133 #[.pointer (some ⟨b, i + 1, none⟩)] [⟨b, i + 1, none⟩] 1 rfl rfl (by simp [maxLen])
  have hcL := (Chg.refl Non w1).alloc (.cells #[.pointer (some ⟨b, i + 1, none⟩)] 133)
  have hWL : Wir _ base g v1 (l ++ numB (wz x.err)) := HW1.out.al (.cells #[.pointer (some ⟨b, i + 1, none⟩)] 133)
  have hFp : ∀ k, k = w1.heap.size → ¬ WB g v1 k := fun k e hb => by have := (HW1.out.lt k hb).2; omega
  have hcz := whole_one (hcL.cell (hcw1.cell HA.out.c1 hnb) (fun h => h)) (hcL.frz (hcw1.cell HA.out.c1 hnb) (fun h => h) (hcw1.frz HA.out.c1 hnb HA.out.f1)) hnb1 HA.out.k1
  have HCZ := hide hcz
  clear hcz
  have hbd : (l ++ numB (wz x.err)).length + 9 * [x.at_].length ≤ 140737488355328 := by simp only [List.length_append, List.length_cons, List.length_nil]; omega
  go_upto_region 2 with (go_at_call 52; refine (wirWhole hWL hpt hFp rfl HCZ.out hbd).mono ?_; rintro e w2 ⟨rfl, v2, hWx, hcx, hGx⟩)
  have hWx : Wir w2 base g v2 (l ++ numB (wz x.err) ++ numB (wz x.at_)) := by rw [← numsB_one (wz x.at_)]; exact hWx
  have hcw2 := hcw1.wtr hG1 ((chgX (S := WB g v1) hcL).trans hcx fun _ _ h => h)
  have hG2 := hG1.trans hcw1.size (hGx.low hcL.size)
  have HW2 := hide (show Wir w2 base g v2 (l ++ numB (wz x.err) ++ numB (wz x.at_)) from hWx)
  have hnb2 : ¬ WB g v2 b := fun hb => hnb (hG2.wb hbl hb)
  have hF2 : ∀ k, F k → ¬ WB g v2 k := fun k hk hb => hF k hk (hG2.wb (hFl k hk) hb)
  clear hWx hcx hGx
  clear hpt hcL hWL hFp HCZ hbd HW1
  have hRw : RdRows w2 F vr x.rows := HA.out.rows.chg hcw2 hF
  have hFl2 : ∀ k, F k → k < w2.heap.size := fun k hk => Nat.lt_of_lt_of_le (hFl k hk) hcw2.size
  have hbd : (l ++ numB (wz x.err) ++ numB (wz x.at_)).length + (rowsB x.rows).length + 100 ≤ 140737488355328 := by simp only [List.length_append]; omega
  go_upto_region 3 with (go_at_call 92; refine (wirRows HW2.out (hcw2.cell HA.out.c2 hnb) hnb2 hRw hF2 hFl2 HA.out.rn HA.out.rr hbd).mono ?_; rintro e w3 ⟨rfl, v3, hWx, hcx, hGx⟩)
  have hcw3 := hcw2.wtr hG2 (hcx)
  have hG3 := hG2.trans hcw2.size (hGx.low (Nat.le_refl _))
  have HW3 := hide (show Wir w3 base g v3 (l ++ numB (wz x.err) ++ numB (wz x.at_) ++ (numB x.rows.length ++ rowsB x.rows)) from hWx)
  have hnb3 : ¬ WB g v3 b := fun hb => hnb (hG3.wb hbl hb)
  have hF3 : ∀ k, F k → ¬ WB g v3 k := fun k hk hb => hF k hk (hG3.wb (hFl k hk) hb)
  clear hWx hcx hGx
  clear hbd HW2 hRw hFl2
  have c3 := hcw3.cell HA.out.c3 hnb
  have hbd : (l ++ numB (wz x.err) ++ numB (wz x.at_) ++ (numB x.rows.length ++ rowsB x.rows)).length + 9 * [(m : Int)].length ≤ 140737488355328 := by simp only [List.length_append, List.length_cons, List.length_nil]; omega
  go_upto_region 4 with (go_at_call 78; refine (wirCount HW3.out hmz hbd).mono ?_; rintro e w4 ⟨rfl, v4, hWx, hcx, hGx⟩)
  have hWx : Wir w4 base g v4 (l ++ numB (wz x.err) ++ numB (wz x.at_) ++ (numB x.rows.length ++ rowsB x.rows) ++ numB x.ws.length) := by have := hWx; rw [HWN.out] at this; exact this
  have hcw4 := hcw3.wtr hG3 (hcx)
  have hG4 := hG3.trans hcw3.size (hGx.low (Nat.le_refl _))
  have HW4 := hide (show Wir w4 base g v4 (l ++ numB (wz x.err) ++ numB (wz x.at_) ++ (numB x.rows.length ++ rowsB x.rows) ++ numB x.ws.length) from hWx)
  have hnb4 : ¬ WB g v4 b := fun hb => hnb (hG4.wb hbl hb)
  have hF4 : ∀ k, F k → ¬ WB g v4 k := fun k hk hb => hF k hk (hG4.wb (hFl k hk) hb)
  clear hWx hcx hGx
  clear hbd HW3 c3
  have k0 := HW4.out.blk.cell 0
  simp at k0
  have k1 := Wir.k1 HW4.out
  go_wp2_with fail
  clear k0 k1
  go_loopw [41] (fun iv wr => ∃ (k : Nat) (vv : Value), iv = .int .i64 (k : Int) ∧ k ≤ x.ws.length ∧ Hid (Wir wr base g vv (l ++ numB (wz x.err) ++ numB (wz x.at_) ++ (numB x.rows.length ++ rowsB x.rows) ++ numB x.ws.length ++ wrsB (x.ws.take k))) ∧ Chg (WB g v) w wr ∧ Grew w v vv) (fun iv _ => x.ws.length - (intOf iv).toNat)
  case atStart => exact ⟨0, v4, rfl, Nat.zero_le _, hide (by simpa [wrsB] using HW4.out), hcw4, hG4⟩
  case round =>
    obtain ⟨k, vv, rfl, hk, HW, hcw, hG⟩ := hrel
    have hm := HM.out
    by_cases hkl : k < x.ws.length
    · have hki : (k : Int) < (m : Int) := by omega
      have h0i : (0 : Int) ≤ (k : Int) := by omega
      have h9 : k ≤ 1000000000 := by omega
      obtain ⟨ad, p, q, rfl, hFb, c0, c1, c2, rp, rq⟩ := (HA.out.ws.chg hcw hF).at_ hkl
      obtain ⟨o, ho⟩ : ∃ o, o = x.ws[k] := ⟨_, rfl⟩
      rw [← ho] at c2 rp rq
      have htk : wrsB (x.ws.take (k + 1)) = wrsB (x.ws.take k) ++ wrB o := by rw [ho]; exact wrsB_take hkl
      have hle := wrsB_take_le x.ws (k + 1)
      rw [htk, List.length_append] at hle
      rw [wrB, List.length_append] at hle
      have HTK := hide htk
      have HK := hide (And.intro hkl hm)
      obtain ⟨cur, hcur⟩ : ∃ cur, cur = l ++ numB (wz x.err) ++ numB (wz x.at_) ++ (numB x.rows.length ++ rowsB x.rows) ++ numB x.ws.length ++ wrsB (x.ws.take k) := ⟨_, rfl⟩
      have hcl : cur.length + (flatB [o.a, o.b]).length + (flagB o.f).length + 20 ≤ 140737488355328 := by rw [hcur]; simp only [List.length_append]; omega
      have hW0 := HW.out
      rw [← hcur] at hW0
      have HCUR := hide hcur
      clear ho htk hle hkl hk hm hcur
      obtain ⟨P, pn, pc, rfl⟩ : ∃ A m c, p = .slice A m c := by obtain ⟨A, c, e, _⟩ := rp.shape; exact ⟨A, _, c, e⟩
      obtain ⟨Q, qn, qc, rfl⟩ : ∃ A m c, q = .slice A m c := by obtain ⟨A, c, e, _⟩ := rq.shape; exact ⟨A, _, c, e⟩
      have car := hcw.cell HA.out.c3 hnb
      obtain ⟨pt, hpt0⟩ : ∃ pt, pt = ad.add (k * 3) := ⟨_, rfl⟩
      have hpF : F pt.block := by rw [hpt0, block_of_add]; exact hFb
      have hFv : ∀ k, F k → ¬ WB g vv k := fun k hk hb => hF k hk (hG.wb (hFl k hk) hb)
      have HFV := hide hFv
      clear hFv
      go_upto_region 10 with fail
      rw [← hpt0] at c0 c1 c2 ⊢
      clear hpt0 hFb car
      have hcd : Chg Non wr wr.drew := (Chg.refl Non wr).drew
      have hWD : Wir wr.drew base g vv cur := hW0.c0 hcd
      have hpt := RdPt.lit wr.drew 149 #[.pointer (some pt), .pointer (some ⟨pt.block, pt.off + 1, none⟩)] [pt, ⟨pt.block, pt.off + 1, none⟩] 2 rfl rfl (by simp [maxLen])
      have hcM := (Chg.refl Non wr.drew).alloc (.cells #[.pointer (some pt), .pointer (some ⟨pt.block, pt.off + 1, none⟩)] 149)
      have hWA : Wir _ base g vv cur := hWD.al (.cells #[.pointer (some pt), .pointer (some ⟨pt.block, pt.off + 1, none⟩)] 149)
      have hFp : ∀ k, k = wr.drew.heap.size → ¬ WB g vv k := fun k e hb => by have := (hWD.lt k hb).2; omega
      have hcy := hcd.trans0 hcM
      have hcz : ∀ (i : Nat) (b : Addr) (n : List UInt8), ([pt, ⟨pt.block, pt.off + 1, none⟩] : List Addr)[i]? = some b → [o.a, o.b][i]? = some n → ∃ x, (wr.drew.alloc (.cells #[.pointer (some pt), .pointer (some ⟨pt.block, pt.off + 1, none⟩)] 149)).cell? b = some x ∧ ¬ WB g vv b.block ∧ RdB (wr.drew.alloc (.cells #[.pointer (some pt), .pointer (some ⟨pt.block, pt.off + 1, none⟩)] 149)) F x n := by
        intro i b n h1 h2
        match i, h1, h2 with
        | 0, h1, h2 => simp at h1 h2; subst h1; subst h2; exact ⟨_, hcy.cell c0 (fun h => h), HFV.out _ hpF, rp.c0 hcy⟩
        | 1, h1, h2 => simp at h1 h2; subst h1; subst h2; exact ⟨_, hcy.cell c1 (fun h => h), HFV.out _ hpF, rq.c0 hcy⟩
        | i + 2, h1, h2 => simp at h1
      have HCZ := hide hcz
      clear hcz c0 c1
      have hb3 : cur.length + (flatB [o.a, o.b]).length + 9 ≤ 140737488355328 := by omega
      refine wp_region_T (fun _ => True) 99 (by kernel_rfl) ?_
      have HS := hide True.intro
      refine AnyT.take (i := 0) (v := ?_) rfl (by kernel_rfl) (by kernel_rfl) (fun _ _ _ h => h) (by kernel_rfl) (by kernel_rfl) (Or.inl ⟨by rfl, ?_⟩) HS.out ?_
      rotate_left
      · (intro w9 h9; go_simp; try with_reducible rfl)
      try simp only [getElem_toArray, getElem_cons_succ, getElem_cons_zero, Act.put, setIfInBounds_toArray, set_cons_zero, set_cons_succ]
      refine AnyT.take (i := 1) (v := ?_) rfl (by kernel_rfl) (by kernel_rfl) (fun _ _ _ h => h) (by kernel_rfl) (by kernel_rfl) (Or.inl ⟨by rfl, ?_⟩) HS.out ?_
      rotate_left
      · (intro w9 h9; go_simp; try with_reducible rfl)
      try simp only [getElem_toArray, getElem_cons_succ, getElem_cons_zero, Act.put, setIfInBounds_toArray, set_cons_zero, set_cons_succ]
      refine AnyT.take (i := 2) (v := ?_) rfl (by kernel_rfl) (by kernel_rfl) (fun _ _ _ h => h) (by kernel_rfl) (by kernel_rfl) (Or.inl ⟨by rfl, ?_⟩) HS.out ?_
      rotate_left
      · (intro w9 h9; go_simp; try with_reducible rfl)
      try simp only [getElem_toArray, getElem_cons_succ, getElem_cons_zero, Act.put, setIfInBounds_toArray, set_cons_zero, set_cons_succ]
      refine AnyT.take (i := 3) (v := ?_) rfl (by kernel_rfl) (by kernel_rfl) (fun _ _ _ h => h) (by kernel_rfl) (by kernel_rfl) (Or.inl ⟨by rfl, ?_⟩) HS.out ?_
      rotate_left
      · (intro w9 h9; go_simp; try with_reducible rfl)
      try simp only [getElem_toArray, getElem_cons_succ, getElem_cons_zero, Act.put, setIfInBounds_toArray, set_cons_zero, set_cons_succ]
      refine AnyT.take (i := 4) (v := ?_) rfl (by kernel_rfl) (by kernel_rfl) (fun _ _ _ h => h) (by kernel_rfl) (by kernel_rfl) (Or.inl ⟨by rfl, ?_⟩) HS.out ?_
      rotate_left
      · (intro w9 h9; go_simp; try with_reducible rfl)
      try simp only [getElem_toArray, getElem_cons_succ, getElem_cons_zero, Act.put, setIfInBounds_toArray, set_cons_zero, set_cons_succ]
      refine AnyT.take (i := 5) (v := ?_) rfl (by kernel_rfl) (by kernel_rfl) (fun _ _ _ h => h) (by kernel_rfl) (by kernel_rfl) (Or.inl ⟨by rfl, ?_⟩) HS.out ?_
      rotate_left
      · (intro w9 h9; go_simp; try with_reducible rfl)
      try simp only [getElem_toArray, getElem_cons_succ, getElem_cons_zero, Act.put, setIfInBounds_toArray, set_cons_zero, set_cons_succ]
      refine AnyT.take (i := 6) (v := ?_) rfl (by kernel_rfl) (by kernel_rfl) (fun _ _ _ h => h) (by kernel_rfl) (by kernel_rfl) (Or.inl ⟨by rfl, ?_⟩) HS.out ?_
      rotate_left
      · (intro w9 h9; go_simp; try with_reducible rfl)
      try simp only [getElem_toArray, getElem_cons_succ, getElem_cons_zero, Act.put, setIfInBounds_toArray, set_cons_zero, set_cons_succ]
      refine AnyT.one (i := 7) (by kernel_rfl) rfl (fun K hK => ?_)
      go_simp
      refine hK.out _ _ (fun _ => trivial) ?_
      clear hK K
      try simp only [getElem_toArray, getElem_cons_succ, getElem_cons_zero, Act.put, setIfInBounds_toArray, set_cons_zero, set_cons_succ]
      refine AnyT.one (i := 8) (by kernel_rfl) rfl (fun K hK => ?_)
      go_simp
      go_wp2_with (go_at_call 60; refine (wirData hWA hpt hFp rfl HCZ.out HFV.out hb3).mono ?_; rintro e w5 ⟨rfl, v5, hW5, hc5, hG5⟩)
      refine hK.out _ _ (fun _ => trivial) ?_
      clear hK K
      try simp only [getElem_toArray, getElem_cons_succ, getElem_cons_zero, Act.put, setIfInBounds_toArray, set_cons_zero, set_cons_succ]
      refine AnyT.nil (by kernel_rfl) ?_
      have hcT := (chgX (S := WB g vv) hcy).trans hc5 fun _ _ h => h
      have hcw5 := hcw.wtr hG hcT
      have hG5' := hG.trans hcw.size (hG5.low hcy.size)
      have c25 := hcT.cell c2 (HFV.out _ hpF)
      have hna5 : ¬ WB g v5 pt.block := fun hb => hF _ hpF (hG5'.wb (hFl _ hpF) hb)
      have hbf : (cur ++ flatB [o.a, o.b]).length + 1 ≤ 140737488355328 := by rw [List.length_append]; omega
      clear hc5 hG5 hcT hcy hcM hcd hWA hWD hW0 hpt hFp HCZ HS rp rq c2 HFV
      go_upto_region 12 with (go_at_call 76; refine (wirFlag hW5 c25 hna5 hbf).mono ?_; rintro e w6 ⟨rfl, v6, hW6, hc6, hG6⟩)
      have hcw6 := hcw5.wtr hG5' hc6
      have hG6' := hG5'.trans hcw5.size hG6
      have HW6 := hide (show Wir w6 base g v6 (l ++ numB (wz x.err) ++ numB (wz x.at_) ++ (numB x.rows.length ++ rowsB x.rows) ++ numB x.ws.length ++ wrsB (x.ws.take (k + 1))) by rw [HTK.out, wrB, ← List.append_assoc, ← List.append_assoc, ← HCUR.out]; exact hW6)
      clear hW6 hc6 hG6 hW5 c25
      go_wp2_with fail
      go_roundw
      case rel => exact ⟨k + 1, v6, by go_num, by have := HK.out.1; omega, HW6, hcw6, hG6'⟩
      case measure => (have h := HK.out.1; have := HK.out.2; simp [intOf]; omega)
    · have hge : ¬ ((k : Int) < (m : Int)) := by omega
      have hke : k = x.ws.length := by omega
      have HKE := hide hke
      clear hke hm hkl hk
      go_wp2_with fail
      refine bodyPost_end (results_none rfl _ _ _) rfl ⟨rfl, vv, ?_, hcw, hG⟩
      have h1 := HW.out
      rw [HKE.out, List.take_length] at h1
      have he : l ++ outB x = l ++ numB (wz x.err) ++ numB (wz x.at_) ++ (numB x.rows.length ++ rowsB x.rows) ++ numB x.ws.length ++ wrsB x.ws := by simp only [outB, List.append_assoc]
      rw [he]; exact h1
end Go.Proofs.Ytncchbcoldgpbaa

namespace Go.Proofs.Ytncchbcoldgpbaa
open Go.RowKit
set_option linter.unusedVariables false
set_option linter.unusedSimpArgs false

structure AnsS where
  kind : Int
  inc : Nat
  boot : Nat
  tb : Nat
  ts : Nat
  tq : Nat
  id : Nat
  err : Int
  out : OutS
  commit : Bool
  reply : List UInt8
  at_ : Nat
def ansB (x : AnsS) : List UInt8 := numB (wz x.kind) ++ (numsB [x.inc, x.boot, x.id, x.at_] ++ (numsB [x.tb, x.ts, x.tq] ++ (numB (wz x.err) ++ (outB x.out ++ (flagB x.commit ++ flatB [x.reply])))))
/-- an answer stands at the place ⟨b, i⟩ -/
structure AnsAt (w : World) (b i : Nat) (F : Nat → Prop) (x : AnsS) (vr vw vp : Value) : Prop where
  c0 : w.cell? ⟨b, i, none⟩ = some (.int .i64 x.kind)
  c1 : w.cell? ⟨b, i + 1, none⟩ = some (.int .u64 (x.inc : Int))
  c2 : w.cell? ⟨b, i + 2, none⟩ = some (.int .u64 (x.boot : Int))
  c3 : w.cell? ⟨b, i + 3, none⟩ = some (.int .u64 (x.tb : Int))
  c4 : w.cell? ⟨b, i + 3 + 1, none⟩ = some (.int .u64 (x.ts : Int))
  c5 : w.cell? ⟨b, i + 3 + 2, none⟩ = some (.int .u64 (x.tq : Int))
  c6 : w.cell? ⟨b, i + 6, none⟩ = some (.int .u64 (x.id : Int))
  c7 : w.cell? ⟨b, i + 7, none⟩ = some (.int .i64 x.err)
  out : OutAt w b (i + 8) F x.out vr vw
  c12 : w.cell? ⟨b, i + 12, none⟩ = some (.bool x.commit)
  c13 : w.cell? ⟨b, i + 13, none⟩ = some vp
  c14 : w.cell? ⟨b, i + 14, none⟩ = some (.int .u64 (x.at_ : Int))
  f0 : w.frozen? ⟨b, i, none⟩ = false
  f7 : w.frozen? ⟨b, i + 7, none⟩ = false
  reply : RdB w F vp x.reply
  kk : I64 x.kind
  ke : I64 x.err
  u : U64 x.inc ∧ U64 x.boot ∧ U64 x.id ∧ U64 x.at_ ∧ U64 x.tb ∧ U64 x.ts ∧ U64 x.tq
theorem OutAt.chg {w w' : World} {S F : Nat → Prop} {b i : Nat} {x : OutS} {vr vw : Value} (h : OutAt w b i F x vr vw) (hc : Chg S w w') (hb : ¬ S b) (hF : ∀ k, F k → ¬ S k) : OutAt w' b i F x vr vw :=
  ⟨hc.cell h.c0 hb, hc.cell h.c1 hb, hc.cell h.c2 hb, hc.cell h.c3 hb, hc.frz h.c0 hb h.f0, hc.frz h.c1 hb h.f1, h.rows.chg hc hF, h.ws.chg hc hF, h.k0, h.k1, h.rn, h.rr, h.wn⟩

set_option maxHeartbeats 16000000 in
set_option maxRecDepth 100000 in
theorem wirAnswer {base g b i : Nat} {v vr vw vp : Value} {l : List UInt8} {x : AnsS} {F : Nat → Prop} {w : World} (h : Wir w base g v l) (hA : AnsAt w b i F x vr vw vp) (hnb : ¬ WB g v b) (hF : ∀ k, F k → ¬ WB g v k) (hFl : ∀ k, F k → k < w.heap.size)
    (hb : l.length + (ansB x).length + 400 ≤ 140737488355328) :
    Calls Try.prog 55 #[.pointer (some ⟨g, 0, none⟩), .pointer (some ⟨b, i, none⟩)] w fun e w' =>
      e = .returned (.tuple #[]) ∧ ∃ v', Wir w' base g v' (l ++ ansB x) ∧ Chg (WB g v) w w' ∧ Grew w v v' := by
  have hbl : b < w.heap.size := World.block_lt_of_cell? w _ hA.c0
  have hlen : (ansB x).length = (numB (wz x.kind)).length + ((numsB [x.inc, x.boot, x.id, x.at_]).length + ((numsB [x.tb, x.ts, x.tq]).length + ((numB (wz x.err)).length + ((outB x.out).length + ((flagB x.commit).length + (flatB [x.reply]).length))))) := by simp only [ansB, List.length_append]
  have hn4 := numsB_length [x.inc, x.boot, x.id, x.at_]
  have hn3 := numsB_length [x.tb, x.ts, x.tq]
  have hn1 := numB_length (wz x.kind)
  have hn0 := numB_length (wz x.err)
  simp only [List.length_cons, List.length_nil] at hn4 hn3
  have hfl : (flagB x.commit).length = 1 := rfl
  obtain ⟨R, rn, rc, rfl⟩ : ∃ A m c, vp = .slice A m c := by obtain ⟨A, c, e, _⟩ := hA.reply.shape; exact ⟨A, _, c, e⟩
  have hcw0 := Chg.refl (WB g v) w
  have hG0 := Grew.refl w v
  have hpt := RdPt.lit w 133 #[.pointer (some ⟨b, i, none⟩)] [⟨b, i, none⟩] 1 rfl rfl (by simp [maxLen])
  have hcL := (Chg.refl Non w).alloc (.cells #[.pointer (some ⟨b, i, none⟩)] 133)
  have hWL : Wir _ base g v l := h.al (.cells #[.pointer (some ⟨b, i, none⟩)] 133)
  have hFp : ∀ k, k = w.heap.size → ¬ WB g v k := fun k e hb => by have := (h.lt k hb).2; omega
  have hcz := whole_one (hcL.cell hA.c0 (fun h => h)) (hcL.frz hA.c0 (fun h => h) hA.f0) hnb hA.kk
  have HCZ := hide hcz
  clear hcz
  have hbd : l.length + 9 * [x.kind].length ≤ 140737488355328 := by simp only [List.length_cons, List.length_nil]; omega
  have HA := hide hA
  clear hA
  go_enter Try.func55, Try.ntmps55
  go_upto_region 1 with (go_at_call 52; refine (wirWhole hWL hpt hFp rfl HCZ.out hbd).mono ?_; rintro e w1 ⟨rfl, v1, hWx, hcx, hGx⟩)
  have hWx : Wir w1 base g v1 (l ++ numB (wz x.kind)) := by rw [← numsB_one]; exact hWx
  have hcw1 := hcw0.wtr hG0 ((chgX (S := WB g v) hcL).trans hcx fun _ _ h => h)
  have hG1 := hG0.trans hcw0.size (hGx.low hcL.size)
  have HW1 := hide (show Wir w1 base g v1 (l ++ numB (wz x.kind)) from hWx)
  have hnb1 : ¬ WB g v1 b := fun hb => hnb (hG1.wb hbl hb)
  have hF1 : ∀ k, F k → ¬ WB g v1 k := fun k hk hb => hF k hk (hG1.wb (hFl k hk) hb)
  clear hWx hcx hGx
  clear hcL hWL hpt hFp HCZ hbd
  have hcd : Chg Non w1 w1.drew := (Chg.refl Non w1).drew
  have hWD : Wir w1.drew base g v1 (l ++ numB (wz x.kind)) := HW1.out.c0 hcd
  have hpt := RdPt.lit w1.drew 135 #[.pointer (some ⟨b, i + 1, none⟩), .pointer (some ⟨b, i + 2, none⟩), .pointer (some ⟨b, i + 6, none⟩), .pointer (some ⟨b, i + 14, none⟩)] [⟨b, i + 1, none⟩, ⟨b, i + 2, none⟩, ⟨b, i + 6, none⟩, ⟨b, i + 14, none⟩] 4 rfl rfl (by simp [maxLen])
  have hcM := (Chg.refl Non w1.drew).alloc (.cells #[.pointer (some ⟨b, i + 1, none⟩), .pointer (some ⟨b, i + 2, none⟩), .pointer (some ⟨b, i + 6, none⟩), .pointer (some ⟨b, i + 14, none⟩)] 135)
  have hWA : Wir _ base g v1 (l ++ numB (wz x.kind)) := hWD.al (.cells #[.pointer (some ⟨b, i + 1, none⟩), .pointer (some ⟨b, i + 2, none⟩), .pointer (some ⟨b, i + 6, none⟩), .pointer (some ⟨b, i + 14, none⟩)] 135)
  have hFp : ∀ k, k = w1.drew.heap.size → ¬ WB g v1 k := fun k e hb => by have := (hWD.lt k hb).2; omega
  have hcy := hcd.trans0 hcM
  have hcz : ∀ (j : Nat) (a : Addr) (n : Nat), ([⟨b, i + 1, none⟩, ⟨b, i + 2, none⟩, ⟨b, i + 6, none⟩, ⟨b, i + 14, none⟩] : List Addr)[j]? = some a → [x.inc, x.boot, x.id, x.at_][j]? = some n → (w1.drew.alloc (.cells #[.pointer (some ⟨b, i + 1, none⟩), .pointer (some ⟨b, i + 2, none⟩), .pointer (some ⟨b, i + 6, none⟩), .pointer (some ⟨b, i + 14, none⟩)] 135)).cell? a = some (.int .u64 (n : Int)) ∧ ¬ WB g v1 a.block ∧ U64 n := by
    intro j a n h1 h2
    match j, h1, h2 with
    | 0, h1, h2 => simp at h1 h2; subst h1; subst h2; exact ⟨hcy.cell (hcw1.cell HA.out.c1 hnb) (fun h => h), hnb1, HA.out.u.1⟩
    | 1, h1, h2 => simp at h1 h2; subst h1; subst h2; exact ⟨hcy.cell (hcw1.cell HA.out.c2 hnb) (fun h => h), hnb1, HA.out.u.2.1⟩
    | 2, h1, h2 => simp at h1 h2; subst h1; subst h2; exact ⟨hcy.cell (hcw1.cell HA.out.c6 hnb) (fun h => h), hnb1, HA.out.u.2.2.1⟩
    | 3, h1, h2 => simp at h1 h2; subst h1; subst h2; exact ⟨hcy.cell (hcw1.cell HA.out.c14 hnb) (fun h => h), hnb1, HA.out.u.2.2.2.1⟩
    | j + 4, h1, h2 => simp at h1
  have HCZ := hide hcz
  clear hcz
  have hbd : (l ++ numB (wz x.kind)).length + 9 * [x.inc, x.boot, x.id, x.at_].length ≤ 140737488355328 := by simp only [List.length_append, List.length_cons, List.length_nil]; omega
  refine wp_region_T (fun _ => True) 99 (by kernel_rfl) ?_
  have HS := hide True.intro
  refine AnyT.take (i := 0) (v := ?_) rfl (by kernel_rfl) (by kernel_rfl) (fun _ _ _ h => h) (by kernel_rfl) (by kernel_rfl) (Or.inl ⟨by rfl, ?_⟩) HS.out ?_
  rotate_left
  · (intro w9 h9; go_simp; try with_reducible rfl)
  try simp only [getElem_toArray, getElem_cons_succ, getElem_cons_zero, Act.put, setIfInBounds_toArray, set_cons_zero, set_cons_succ]
  refine AnyT.take (i := 1) (v := ?_) rfl (by kernel_rfl) (by kernel_rfl) (fun _ _ _ h => h) (by kernel_rfl) (by kernel_rfl) (Or.inl ⟨by rfl, ?_⟩) HS.out ?_
  rotate_left
  · (intro w9 h9; go_simp; try with_reducible rfl)
  try simp only [getElem_toArray, getElem_cons_succ, getElem_cons_zero, Act.put, setIfInBounds_toArray, set_cons_zero, set_cons_succ]
  refine AnyT.take (i := 2) (v := ?_) rfl (by kernel_rfl) (by kernel_rfl) (fun _ _ _ h => h) (by kernel_rfl) (by kernel_rfl) (Or.inl ⟨by rfl, ?_⟩) HS.out ?_
  rotate_left
  · (intro w9 h9; go_simp; try with_reducible rfl)
  try simp only [getElem_toArray, getElem_cons_succ, getElem_cons_zero, Act.put, setIfInBounds_toArray, set_cons_zero, set_cons_succ]
  refine AnyT.take (i := 3) (v := ?_) rfl (by kernel_rfl) (by kernel_rfl) (fun _ _ _ h => h) (by kernel_rfl) (by kernel_rfl) (Or.inl ⟨by rfl, ?_⟩) HS.out ?_
  rotate_left
  · (intro w9 h9; go_simp; try with_reducible rfl)
  try simp only [getElem_toArray, getElem_cons_succ, getElem_cons_zero, Act.put, setIfInBounds_toArray, set_cons_zero, set_cons_succ]
  refine AnyT.take (i := 4) (v := ?_) rfl (by kernel_rfl) (by kernel_rfl) (fun _ _ _ h => h) (by kernel_rfl) (by kernel_rfl) (Or.inl ⟨by rfl, ?_⟩) HS.out ?_
  rotate_left
  · (intro w9 h9; go_simp; try with_reducible rfl)
  try simp only [getElem_toArray, getElem_cons_succ, getElem_cons_zero, Act.put, setIfInBounds_toArray, set_cons_zero, set_cons_succ]
  refine AnyT.take (i := 5) (v := ?_) rfl (by kernel_rfl) (by kernel_rfl) (fun _ _ _ h => h) (by kernel_rfl) (by kernel_rfl) (Or.inl ⟨by rfl, ?_⟩) HS.out ?_
  rotate_left
  · (intro w9 h9; go_simp; try with_reducible rfl)
  try simp only [getElem_toArray, getElem_cons_succ, getElem_cons_zero, Act.put, setIfInBounds_toArray, set_cons_zero, set_cons_succ]
  refine AnyT.take (i := 6) (v := ?_) rfl (by kernel_rfl) (by kernel_rfl) (fun _ _ _ h => h) (by kernel_rfl) (by kernel_rfl) (Or.inl ⟨by rfl, ?_⟩) HS.out ?_
  rotate_left
  · (intro w9 h9; go_simp; try with_reducible rfl)
  try simp only [getElem_toArray, getElem_cons_succ, getElem_cons_zero, Act.put, setIfInBounds_toArray, set_cons_zero, set_cons_succ]
  refine AnyT.take (i := 7) (v := ?_) rfl (by kernel_rfl) (by kernel_rfl) (fun _ _ _ h => h) (by kernel_rfl) (by kernel_rfl) (Or.inl ⟨by rfl, ?_⟩) HS.out ?_
  rotate_left
  · (intro w9 h9; go_simp; try with_reducible rfl)
  try simp only [getElem_toArray, getElem_cons_succ, getElem_cons_zero, Act.put, setIfInBounds_toArray, set_cons_zero, set_cons_succ]
  refine AnyT.take (i := 8) (v := ?_) rfl (by kernel_rfl) (by kernel_rfl) (fun _ _ _ h => h) (by kernel_rfl) (by kernel_rfl) (Or.inl ⟨by rfl, ?_⟩) HS.out ?_
  rotate_left
  · (intro w9 h9; go_simp; try with_reducible rfl)
  try simp only [getElem_toArray, getElem_cons_succ, getElem_cons_zero, Act.put, setIfInBounds_toArray, set_cons_zero, set_cons_succ]
  refine AnyT.take (i := 9) (v := ?_) rfl (by kernel_rfl) (by kernel_rfl) (fun _ _ _ h => h) (by kernel_rfl) (by kernel_rfl) (Or.inl ⟨by rfl, ?_⟩) HS.out ?_
  rotate_left
  · (intro w9 h9; go_simp; try with_reducible rfl)
  try simp only [getElem_toArray, getElem_cons_succ, getElem_cons_zero, Act.put, setIfInBounds_toArray, set_cons_zero, set_cons_succ]
  refine AnyT.take (i := 10) (v := ?_) rfl (by kernel_rfl) (by kernel_rfl) (fun _ _ _ h => h) (by kernel_rfl) (by kernel_rfl) (Or.inl ⟨by rfl, ?_⟩) HS.out ?_
  rotate_left
  · (intro w9 h9; go_simp; try with_reducible rfl)
  try simp only [getElem_toArray, getElem_cons_succ, getElem_cons_zero, Act.put, setIfInBounds_toArray, set_cons_zero, set_cons_succ]
  refine AnyT.take (i := 11) (v := ?_) rfl (by kernel_rfl) (by kernel_rfl) (fun _ _ _ h => h) (by kernel_rfl) (by kernel_rfl) (Or.inl ⟨by rfl, ?_⟩) HS.out ?_
  rotate_left
  · (intro w9 h9; go_simp; try with_reducible rfl)
  try simp only [getElem_toArray, getElem_cons_succ, getElem_cons_zero, Act.put, setIfInBounds_toArray, set_cons_zero, set_cons_succ]
  refine AnyT.take (i := 12) (v := ?_) rfl (by kernel_rfl) (by kernel_rfl) (fun _ _ _ h => h) (by kernel_rfl) (by kernel_rfl) (Or.inl ⟨by rfl, ?_⟩) HS.out ?_
  rotate_left
  · (intro w9 h9; go_simp; try with_reducible rfl)
  try simp only [getElem_toArray, getElem_cons_succ, getElem_cons_zero, Act.put, setIfInBounds_toArray, set_cons_zero, set_cons_succ]
  refine AnyT.one (i := 13) (by kernel_rfl) rfl (fun K hK => ?_)
  go_simp
  refine hK.out _ _ (fun _ => trivial) ?_
  clear hK K
  try simp only [getElem_toArray, getElem_cons_succ, getElem_cons_zero, Act.put, setIfInBounds_toArray, set_cons_zero, set_cons_succ]
  refine AnyT.one (i := 14) (by kernel_rfl) rfl (fun K hK => ?_)
  go_simp
  go_wp2_with (go_at_call 53; refine (wirNum (G := Non) hWA hpt hFp rfl HCZ.out hbd).mono ?_; rintro e w2 ⟨rfl, v2, hWx, hcx, hGx⟩)
  refine hK.out _ _ (fun _ => trivial) ?_
  clear hK K
  try simp only [getElem_toArray, getElem_cons_succ, getElem_cons_zero, Act.put, setIfInBounds_toArray, set_cons_zero, set_cons_succ]
  refine AnyT.nil (by kernel_rfl) ?_
  have hcw2 := hcw1.wtr hG1 ((chgX (S := WB g v1) hcy).trans hcx fun _ _ h => h)
  have hG2 := hG1.trans hcw1.size (hGx.low hcy.size)
  have HW2 := hide (show Wir w2 base g v2 ((l ++ numB (wz x.kind)) ++ numsB [x.inc, x.boot, x.id, x.at_]) from hWx)
  have hnb2 : ¬ WB g v2 b := fun hb => hnb (hG2.wb hbl hb)
  have hF2 : ∀ k, F k → ¬ WB g v2 k := fun k hk hb => hF k hk (hG2.wb (hFl k hk) hb)
  clear hWx hcx hGx
  clear hcd hWD hpt hcM hWA hFp hcy HCZ hbd HS HW1 hcw1 hG1 hnb1 hF1
  have hbd : ((l ++ numB (wz x.kind)) ++ numsB [x.inc, x.boot, x.id, x.at_]).length + 9 * [x.tb, x.ts, x.tq].length ≤ 140737488355328 := by simp only [List.length_append, List.length_cons, List.length_nil]; omega
  go_upto_region 3 with (go_at_call 56; refine (wirTxn HW2.out (hcw2.cell HA.out.c3 hnb) (hcw2.cell HA.out.c4 hnb) (hcw2.cell HA.out.c5 hnb) HA.out.u.2.2.2.2.1 HA.out.u.2.2.2.2.2.1 HA.out.u.2.2.2.2.2.2 hnb2 hbd).mono ?_; rintro e w3 ⟨rfl, v3, hWx, hcx, hGx⟩)
  have hcw3 := hcw2.wtr hG2 (hcx)
  have hG3 := hG2.trans hcw2.size (hGx.low (Nat.le_refl _))
  have HW3 := hide (show Wir w3 base g v3 ((l ++ numB (wz x.kind)) ++ numsB [x.inc, x.boot, x.id, x.at_] ++ numsB [x.tb, x.ts, x.tq]) from hWx)
  have hnb3 : ¬ WB g v3 b := fun hb => hnb (hG3.wb hbl hb)
  have hF3 : ∀ k, F k → ¬ WB g v3 k := fun k hk hb => hF k hk (hG3.wb (hFl k hk) hb)
  clear hWx hcx hGx
  clear hbd HW2
  have hbd : ((l ++ numB (wz x.kind)) ++ numsB [x.inc, x.boot, x.id, x.at_] ++ numsB [x.tb, x.ts, x.tq]).length + 9 * [x.err].length ≤ 140737488355328 := by simp only [List.length_append, List.length_cons, List.length_nil]; omega
  go_upto_region 4 with (go_at_call 59; refine (wirErrno HW3.out (hcw3.cell HA.out.c7 hnb) (hcw3.frz HA.out.c7 hnb HA.out.f7) hnb3 HA.out.ke hbd).mono ?_; rintro e w4 ⟨rfl, v4, hWx, hcx, hGx⟩)
  have hcw4 := hcw3.wtr hG3 (hcx)
  have hG4 := hG3.trans hcw3.size (hGx.low (Nat.le_refl _))
  have HW4 := hide (show Wir w4 base g v4 ((l ++ numB (wz x.kind)) ++ numsB [x.inc, x.boot, x.id, x.at_] ++ numsB [x.tb, x.ts, x.tq] ++ numB (wz x.err)) from hWx)
  have hnb4 : ¬ WB g v4 b := fun hb => hnb (hG4.wb hbl hb)
  have hF4 : ∀ k, F k → ¬ WB g v4 k := fun k hk hb => hF k hk (hG4.wb (hFl k hk) hb)
  clear hWx hcx hGx
  clear hbd HW3
  have hbd : ((l ++ numB (wz x.kind)) ++ numsB [x.inc, x.boot, x.id, x.at_] ++ numsB [x.tb, x.ts, x.tq] ++ numB (wz x.err)).length + (outB x.out).length + 200 ≤ 140737488355328 := by simp only [List.length_append]; omega
  have hFl4 : ∀ k, F k → k < w4.heap.size := fun k hk => Nat.lt_of_lt_of_le (hFl k hk) hcw4.size
  have hO4 := HA.out.out.chg hcw4 hnb hF
  go_upto_region 5 with (go_at_call 77; refine (wirOutcome HW4.out hO4 hnb4 hF4 hFl4 hbd).mono ?_; rintro e w5 ⟨rfl, v5, hWx, hcx, hGx⟩)
  have hcw5 := hcw4.wtr hG4 (hcx)
  have hG5 := hG4.trans hcw4.size (hGx.low (Nat.le_refl _))
  have HW5 := hide (show Wir w5 base g v5 ((l ++ numB (wz x.kind)) ++ numsB [x.inc, x.boot, x.id, x.at_] ++ numsB [x.tb, x.ts, x.tq] ++ numB (wz x.err) ++ outB x.out) from hWx)
  have hnb5 : ¬ WB g v5 b := fun hb => hnb (hG5.wb hbl hb)
  have hF5 : ∀ k, F k → ¬ WB g v5 k := fun k hk hb => hF k hk (hG5.wb (hFl k hk) hb)
  clear hWx hcx hGx
  clear hbd HW4 hO4 hFl4
  have hbd : ((l ++ numB (wz x.kind)) ++ numsB [x.inc, x.boot, x.id, x.at_] ++ numsB [x.tb, x.ts, x.tq] ++ numB (wz x.err) ++ outB x.out).length + 1 ≤ 140737488355328 := by simp only [List.length_append]; omega
  go_upto_region 6 with (go_at_call 76; refine (wirFlag HW5.out (hcw5.cell HA.out.c12 hnb) hnb5 hbd).mono ?_; rintro e w6 ⟨rfl, v6, hWx, hcx, hGx⟩)
  have hcw6 := hcw5.wtr hG5 (hcx)
  have hG6 := hG5.trans hcw5.size (hGx.low (Nat.le_refl _))
  have HW6 := hide (show Wir w6 base g v6 ((l ++ numB (wz x.kind)) ++ numsB [x.inc, x.boot, x.id, x.at_] ++ numsB [x.tb, x.ts, x.tq] ++ numB (wz x.err) ++ outB x.out ++ flagB x.commit) from hWx)
  have hnb6 : ¬ WB g v6 b := fun hb => hnb (hG6.wb hbl hb)
  have hF6 : ∀ k, F k → ¬ WB g v6 k := fun k hk hb => hF k hk (hG6.wb (hFl k hk) hb)
  clear hWx hcx hGx
  clear hbd HW5
  have hpt := RdPt.lit w6 149 #[.pointer (some ⟨b, i + 13, none⟩)] [⟨b, i + 13, none⟩] 1 rfl rfl (by simp [maxLen])
  have hcL := (Chg.refl Non w6).alloc (.cells #[.pointer (some ⟨b, i + 13, none⟩)] 149)
  have hWL : Wir _ base g v6 ((l ++ numB (wz x.kind)) ++ numsB [x.inc, x.boot, x.id, x.at_] ++ numsB [x.tb, x.ts, x.tq] ++ numB (wz x.err) ++ outB x.out ++ flagB x.commit) := HW6.out.al (.cells #[.pointer (some ⟨b, i + 13, none⟩)] 149)
  have hFp : ∀ k, k = w6.heap.size → ¬ WB g v6 k := fun k e hb => by have := (HW6.out.lt k hb).2; omega
  have hrp := HA.out.reply.chg hcw6 hF
  have hcz : ∀ (j : Nat) (a : Addr) (n : List UInt8), ([⟨b, i + 13, none⟩] : List Addr)[j]? = some a → [x.reply][j]? = some n → ∃ u, (w6.alloc (.cells #[.pointer (some ⟨b, i + 13, none⟩)] 149)).cell? a = some u ∧ ¬ WB g v6 a.block ∧ RdB (w6.alloc (.cells #[.pointer (some ⟨b, i + 13, none⟩)] 149)) F u n := by
    intro j a n h1 h2
    match j, h1, h2 with
    | 0, h1, h2 => simp at h1 h2; subst h1; subst h2; exact ⟨_, hcL.cell (hcw6.cell HA.out.c13 hnb) (fun h => h), hnb6, hrp.c0 hcL⟩
    | j + 1, h1, h2 => simp at h1
  have HCZ := hide hcz
  clear hcz
  have hbd : ((l ++ numB (wz x.kind)) ++ numsB [x.inc, x.boot, x.id, x.at_] ++ numsB [x.tb, x.ts, x.tq] ++ numB (wz x.err) ++ outB x.out ++ flagB x.commit).length + (flatB [x.reply]).length + 9 ≤ 140737488355328 := by simp only [List.length_append]; omega
  go_wp2_with (go_at_call 60; refine (wirData hWL hpt hFp rfl HCZ.out hF6 hbd).mono ?_; rintro e w7 ⟨rfl, v7, hWx, hcx, hGx⟩)
  have hcw7 := hcw6.wtr hG6 ((chgX (S := WB g v6) hcL).trans hcx fun _ _ h => h)
  have hG7 := hG6.trans hcw6.size (hGx.low hcL.size)
  refine bodyPost_end (results_none rfl _ _ _) rfl ⟨rfl, v7, ?_, hcw7, hG7⟩
  have he : l ++ ansB x = ((l ++ numB (wz x.kind)) ++ numsB [x.inc, x.boot, x.id, x.at_] ++ numsB [x.tb, x.ts, x.tq] ++ numB (wz x.err) ++ outB x.out ++ flagB x.commit) ++ flatB [x.reply] := by simp only [ansB, List.append_assoc]
  rw [he]; exact hWx
end Go.Proofs.Ytncchbcoldgpbaa

namespace Go.Proofs.Ytncchbcoldgpbaa
open Go.RowKit
set_option linter.unusedVariables false
set_option linter.unusedSimpArgs false

theorem nums_two {w : World} {g : Nat} {v : Value} {ps : List Addr} {ns : List Nat} (h : ps.length = ns.length) (h2 : ∀ (j : Nat) (h1 : j < ps.length) (h2 : j < ns.length), w.cell? ps[j] = some (.int .u64 (ns[j] : Int)) ∧ ¬ WB g v ps[j].block ∧ U64 ns[j]) :
    ∀ (j : Nat) (a : Addr) (n : Nat), ps[j]? = some a → ns[j]? = some n → w.cell? a = some (.int .u64 (n : Int)) ∧ ¬ WB g v a.block ∧ U64 n := by
  intro j a n h1 h3
  obtain ⟨h4, rfl⟩ := List.getElem?_eq_some_iff.1 h1
  obtain ⟨h5, rfl⟩ := List.getElem?_eq_some_iff.1 h3
  exact h2 j h4 h5
theorem AskAt.chg {w w' : World} {S F : Nat → Prop} {b i : Nat} {x : AskS} {vo vr : Value} {xs : List (Value × Value)} (h : AskAt w b i F x vo vr xs) (hc : Chg S w w') (hb : ¬ S b) (hO : ∀ k, vo.ownBlock = some k → ¬ S k) (hF : ∀ k, F k → ¬ S k) : AskAt w' b i F x vo vr xs :=
  ⟨hc.cell h.c0 hb, hc.cell h.c1 hb, hc.cell h.c2 hb, hc.cell h.c3 hb, hc.cell h.c4 hb, hc.cell h.c5 hb, hc.cell h.c6 hb, hc.cell h.c7 hb, hc.cell h.c8 hb, hc.cell h.c9 hb, hc.cell h.c10 hb, hc.cell h.c11 hb, hc.frz h.c0 hb h.f0, hc.frz h.c11 hb h.f11, h.ops.chg hc hO hF, h.reply.chg hc hF, h.kk, h.u, h.wf, h.on, h.nm⟩
theorem AnsAt.chg {w w' : World} {S F : Nat → Prop} {b i : Nat} {x : AnsS} {vr vw vp : Value} (h : AnsAt w b i F x vr vw vp) (hc : Chg S w w') (hb : ¬ S b) (hF : ∀ k, F k → ¬ S k) : AnsAt w' b i F x vr vw vp :=
  ⟨hc.cell h.c0 hb, hc.cell h.c1 hb, hc.cell h.c2 hb, hc.cell h.c3 hb, hc.cell h.c4 hb, hc.cell h.c5 hb, hc.cell h.c6 hb, hc.cell h.c7 hb, h.out.chg hc hb hF, hc.cell h.c12 hb, hc.cell h.c13 hb, hc.cell h.c14 hb, hc.frz h.c0 hb h.f0, hc.frz h.c7 hb h.f7, h.reply.chg hc hF, h.kk, h.ke, h.u⟩
set_option maxHeartbeats 16000000 in
set_option maxRecDepth 100000 in
theorem wirPDoubt {base g b : Nat} {v : Value} {l : List UInt8} {fr tt : Nat} {F : Nat → Prop} {w : World} {inc boot tb ts tq : Nat}
    (h : Wir w base g v l) (hnb : ¬ WB g v b) (hF : ∀ k, F k → ¬ WB g v k) (hFl : ∀ k, F k → k < w.heap.size)
    (c0 : w.cell? ⟨b, 0, none⟩ = some (.int .i64 3)) (f0 : w.frozen? ⟨b, 0, none⟩ = false) (c1 : w.cell? ⟨b, 1, none⟩ = some (.int .u64 (fr : Int))) (u1 : U64 fr) (c2 : w.cell? ⟨b, 2, none⟩ = some (.int .u64 (tt : Int))) (u2 : U64 tt)
    (c30 : w.cell? ⟨b, 30, none⟩ = some (.int .u64 (inc : Int))) (u30 : U64 inc) (c31 : w.cell? ⟨b, 31, none⟩ = some (.int .u64 (boot : Int))) (u31 : U64 boot) (c32 : w.cell? ⟨b, 32, none⟩ = some (.int .u64 (tb : Int))) (u32 : U64 tb) (c33 : w.cell? ⟨b, 33, none⟩ = some (.int .u64 (ts : Int))) (u33 : U64 ts) (c34 : w.cell? ⟨b, 34, none⟩ = some (.int .u64 (tq : Int))) (u34 : U64 tq)
    (hb : l.length + (numsB [inc, boot] ++ (numsB [tb, ts, tq])).length + 600 ≤ 140737488355328) :
    Calls Try.prog 26 #[.pointer (some ⟨g, 0, none⟩), .pointer (some ⟨b, 0, none⟩)] w fun e w' =>
      e = .returned (.bool true) ∧ ∃ v', Wir w' base g v' (l ++ (numB (wz 3) ++ (numsB [fr, tt] ++ (numsB [inc, boot] ++ (numsB [tb, ts, tq]))))) ∧ Chg (WB g v) w w' ∧ Grew w v v' := by
  have hbl : b < w.heap.size := World.block_lt_of_cell? w _ c0
  have hn2 := numsB_length [fr, tt]
  have hn1 := numB_length (wz 3)
  simp only [List.length_cons, List.length_nil] at hn2
  have hm0 := numsB_length [inc, boot]
  simp only [List.length_cons, List.length_nil] at hm0
  have hm1 := numsB_length [tb, ts, tq]
  simp only [List.length_cons, List.length_nil] at hm1
  simp only [List.length_append] at hb
  have hcw0 := Chg.refl (WB g v) w
  have hG0 := Grew.refl w v
  have hnb0 := hnb
  have hF0 := hF
  have hpt := RdPt.lit w 133 #[.pointer (some ⟨b, 0, none⟩)] [⟨b, 0, none⟩] 1 rfl rfl (by simp [maxLen])
  have hcL := (Chg.refl Non w).alloc (.cells #[.pointer (some ⟨b, 0, none⟩)] 133)
  have hWL : Wir _ base g v l := h.al (.cells #[.pointer (some ⟨b, 0, none⟩)] 133)
  have hFp : ∀ k, k = w.heap.size → ¬ WB g v k := fun k e hb => by have := (h.lt k hb).2; omega
  have hcz := whole_one (hcL.cell c0 (fun h => h)) (hcL.frz c0 (fun h => h) f0) hnb (by omega)
  have HCZ := hide hcz
  clear hcz
  have hbd : l.length + 9 * [(3 : Int)].length ≤ 140737488355328 := by simp only [List.length_cons, List.length_nil]; omega
  go_enter Try.func26, Try.ntmps26
  go_upto_region 2 with (go_at_call 52; refine (wirWhole hWL hpt hFp rfl HCZ.out hbd).mono ?_; rintro e w1 ⟨rfl, v1, hWx, hcx, hGx⟩)
  have hWx : Wir w1 base g v1 (l ++ numB (wz 3)) := by rw [← numsB_one]; exact hWx
  have hcw1 := hcw0.wtr hG0 ((chgX (S := WB g v) hcL).trans hcx fun _ _ h => h)
  have hG1 := hG0.trans hcw0.size (hGx.low hcL.size)
  have HW1 := hide (show Wir w1 base g v1 (l ++ numB (wz 3)) from hWx)
  have hnb1 : ¬ WB g v1 b := fun hb => hnb (hG1.wb hbl hb)
  have hF1 : ∀ k, F k → ¬ WB g v1 k := fun k hk hb => hF k hk (hG1.wb (hFl k hk) hb)
  clear hWx hcx hGx
  clear hcL hWL hpt hFp HCZ hbd
  have hcd : Chg Non w1 w1.drew := (Chg.refl Non w1).drew
  have hWD : Wir w1.drew base g v1 (l ++ numB (wz 3)) := (HW1.out).c0 hcd
  have hpt := RdPt.lit w1.drew 135 #[.pointer (some ⟨b, 1, none⟩), .pointer (some ⟨b, 2, none⟩)] [⟨b, 1, none⟩, ⟨b, 2, none⟩] 2 rfl rfl (by simp [maxLen])
  have hcM := (Chg.refl Non w1.drew).alloc (.cells #[.pointer (some ⟨b, 1, none⟩), .pointer (some ⟨b, 2, none⟩)] 135)
  have hWA : Wir _ base g v1 (l ++ numB (wz 3)) := hWD.al (.cells #[.pointer (some ⟨b, 1, none⟩), .pointer (some ⟨b, 2, none⟩)] 135)
  have hFp : ∀ k, k = w1.drew.heap.size → ¬ WB g v1 k := fun k e hb => by have := (hWD.lt k hb).2; omega
  have hcy := hcd.trans0 hcM
  have hcz : ∀ (j : Nat) (a : Addr) (n : Nat), ([⟨b, 1, none⟩, ⟨b, 2, none⟩] : List Addr)[j]? = some a → [fr, tt][j]? = some n → (w1.drew.alloc (.cells #[.pointer (some ⟨b, 1, none⟩), .pointer (some ⟨b, 2, none⟩)] 135)).cell? a = some (.int .u64 (n : Int)) ∧ ¬ WB g v1 a.block ∧ U64 n := by
    intro j a n h1 h2
    match j, h1, h2 with
    | 0, h1, h2 => simp at h1 h2; subst h1; subst h2; exact ⟨hcy.cell (hcw1.cell c1 hnb) (fun h => h), hnb1, u1⟩
    | 1, h1, h2 => simp at h1 h2; subst h1; subst h2; exact ⟨hcy.cell (hcw1.cell c2 hnb) (fun h => h), hnb1, u2⟩
    | j + 2, h1, h2 => simp at h1
  have HCZ := hide hcz
  clear hcz
  have hbd : (l ++ numB (wz 3)).length + 9 * [fr, tt].length ≤ 140737488355328 := by simp only [List.length_append, List.length_cons, List.length_nil]; omega
  refine wp_region_T (fun _ => True) 99 (by kernel_rfl) ?_
  have HS := hide True.intro
  refine AnyT.take (i := 0) (v := ?_) rfl (by kernel_rfl) (by kernel_rfl) (fun _ _ _ h => h) (by kernel_rfl) (by kernel_rfl) (Or.inl ⟨by rfl, ?_⟩) HS.out ?_
  rotate_left
  · (intro w9 h9; go_simp; try with_reducible rfl)
  try simp only [getElem_toArray, getElem_cons_succ, getElem_cons_zero, Act.put, setIfInBounds_toArray, set_cons_zero, set_cons_succ]
  refine AnyT.take (i := 1) (v := ?_) rfl (by kernel_rfl) (by kernel_rfl) (fun _ _ _ h => h) (by kernel_rfl) (by kernel_rfl) (Or.inl ⟨by rfl, ?_⟩) HS.out ?_
  rotate_left
  · (intro w9 h9; go_simp; try with_reducible rfl)
  try simp only [getElem_toArray, getElem_cons_succ, getElem_cons_zero, Act.put, setIfInBounds_toArray, set_cons_zero, set_cons_succ]
  refine AnyT.take (i := 2) (v := ?_) rfl (by kernel_rfl) (by kernel_rfl) (fun _ _ _ h => h) (by kernel_rfl) (by kernel_rfl) (Or.inl ⟨by rfl, ?_⟩) HS.out ?_
  rotate_left
  · (intro w9 h9; go_simp; try with_reducible rfl)
  try simp only [getElem_toArray, getElem_cons_succ, getElem_cons_zero, Act.put, setIfInBounds_toArray, set_cons_zero, set_cons_succ]
  refine AnyT.take (i := 3) (v := ?_) rfl (by kernel_rfl) (by kernel_rfl) (fun _ _ _ h => h) (by kernel_rfl) (by kernel_rfl) (Or.inl ⟨by rfl, ?_⟩) HS.out ?_
  rotate_left
  · (intro w9 h9; go_simp; try with_reducible rfl)
  try simp only [getElem_toArray, getElem_cons_succ, getElem_cons_zero, Act.put, setIfInBounds_toArray, set_cons_zero, set_cons_succ]
  refine AnyT.take (i := 4) (v := ?_) rfl (by kernel_rfl) (by kernel_rfl) (fun _ _ _ h => h) (by kernel_rfl) (by kernel_rfl) (Or.inl ⟨by rfl, ?_⟩) HS.out ?_
  rotate_left
  · (intro w9 h9; go_simp; try with_reducible rfl)
  try simp only [getElem_toArray, getElem_cons_succ, getElem_cons_zero, Act.put, setIfInBounds_toArray, set_cons_zero, set_cons_succ]
  refine AnyT.take (i := 5) (v := ?_) rfl (by kernel_rfl) (by kernel_rfl) (fun _ _ _ h => h) (by kernel_rfl) (by kernel_rfl) (Or.inl ⟨by rfl, ?_⟩) HS.out ?_
  rotate_left
  · (intro w9 h9; go_simp; try with_reducible rfl)
  try simp only [getElem_toArray, getElem_cons_succ, getElem_cons_zero, Act.put, setIfInBounds_toArray, set_cons_zero, set_cons_succ]
  refine AnyT.take (i := 6) (v := ?_) rfl (by kernel_rfl) (by kernel_rfl) (fun _ _ _ h => h) (by kernel_rfl) (by kernel_rfl) (Or.inl ⟨by rfl, ?_⟩) HS.out ?_
  rotate_left
  · (intro w9 h9; go_simp; try with_reducible rfl)
  try simp only [getElem_toArray, getElem_cons_succ, getElem_cons_zero, Act.put, setIfInBounds_toArray, set_cons_zero, set_cons_succ]
  refine AnyT.one (i := 7) (by kernel_rfl) rfl (fun K hK => ?_)
  go_simp
  refine hK.out _ _ (fun _ => trivial) ?_
  clear hK K
  try simp only [getElem_toArray, getElem_cons_succ, getElem_cons_zero, Act.put, setIfInBounds_toArray, set_cons_zero, set_cons_succ]
  refine AnyT.one (i := 8) (by kernel_rfl) rfl (fun K hK => ?_)
  go_simp
  go_wp2_with (go_at_call 53; refine (wirNum (G := Non) hWA hpt hFp rfl HCZ.out hbd).mono ?_; rintro e w2 ⟨rfl, v2, hWx, hcx, hGx⟩)
  refine hK.out _ _ (fun _ => trivial) ?_
  clear hK K
  try simp only [getElem_toArray, getElem_cons_succ, getElem_cons_zero, Act.put, setIfInBounds_toArray, set_cons_zero, set_cons_succ]
  refine AnyT.nil (by kernel_rfl) ?_
  have hcw2 := hcw1.wtr hG1 ((chgX (S := WB g v1) hcy).trans hcx fun _ _ h => h)
  have hG2 := hG1.trans hcw1.size (hGx.low hcy.size)
  have HW2 := hide (show Wir w2 base g v2 ((l ++ numB (wz 3)) ++ numsB [fr, tt]) from hWx)
  have hnb2 : ¬ WB g v2 b := fun hb => hnb (hG2.wb hbl hb)
  have hF2 : ∀ k, F k → ¬ WB g v2 k := fun k hk hb => hF k hk (hG2.wb (hFl k hk) hb)
  clear hWx hcx hGx
  clear hpt hcy hWA hFp HCZ hbd hcd hWD hcM HS HW1
  have k0 := hcw2.cell c0 hnb
  go_upto_region 10 with fail
  have hcd : Chg Non w2 w2.drew := (Chg.refl Non w2).drew
  have hWD : Wir w2.drew base g v2 ((l ++ numB (wz 3)) ++ numsB [fr, tt]) := (HW2.out).c0 hcd
  have hpt := RdPt.lit w2.drew 135 #[.pointer (some ⟨b, 30, none⟩), .pointer (some ⟨b, 31, none⟩)] [⟨b, 30, none⟩, ⟨b, 31, none⟩] 2 rfl rfl (by simp [maxLen])
  have hcM := (Chg.refl Non w2.drew).alloc (.cells #[.pointer (some ⟨b, 30, none⟩), .pointer (some ⟨b, 31, none⟩)] 135)
  have hWA : Wir _ base g v2 ((l ++ numB (wz 3)) ++ numsB [fr, tt]) := hWD.al (.cells #[.pointer (some ⟨b, 30, none⟩), .pointer (some ⟨b, 31, none⟩)] 135)
  have hFp : ∀ k, k = w2.drew.heap.size → ¬ WB g v2 k := fun k e hb => by have := (hWD.lt k hb).2; omega
  have hcy := hcd.trans0 hcM
  have hcz : ∀ (j : Nat) (a : Addr) (n : Nat), ([⟨b, 30, none⟩, ⟨b, 31, none⟩] : List Addr)[j]? = some a → [inc, boot][j]? = some n → (w2.drew.alloc (.cells #[.pointer (some ⟨b, 30, none⟩), .pointer (some ⟨b, 31, none⟩)] 135)).cell? a = some (.int .u64 (n : Int)) ∧ ¬ WB g v2 a.block ∧ U64 n := by
    intro j a n h1 h2
    match j, h1, h2 with
    | 0, h1, h2 => simp at h1 h2; subst h1; subst h2; exact ⟨hcy.cell (hcw2.cell c30 hnb) (fun h => h), hnb2, u30⟩
    | 1, h1, h2 => simp at h1 h2; subst h1; subst h2; exact ⟨hcy.cell (hcw2.cell c31 hnb) (fun h => h), hnb2, u31⟩
    | j + 2, h1, h2 => simp at h1
  have HCZ := hide hcz
  clear hcz
  have hbd : ((l ++ numB (wz 3)) ++ numsB [fr, tt]).length + 9 * [inc, boot].length ≤ 140737488355328 := by simp only [List.length_append, List.length_cons, List.length_nil]; omega
  refine wp_region_T (fun _ => True) 99 (by kernel_rfl) ?_
  have HS := hide True.intro
  refine AnyT.take (i := 0) (v := ?_) rfl (by kernel_rfl) (by kernel_rfl) (fun _ _ _ h => h) (by kernel_rfl) (by kernel_rfl) (Or.inl ⟨by rfl, ?_⟩) HS.out ?_
  rotate_left
  · (intro w9 h9; go_simp; try with_reducible rfl)
  try simp only [getElem_toArray, getElem_cons_succ, getElem_cons_zero, Act.put, setIfInBounds_toArray, set_cons_zero, set_cons_succ]
  refine AnyT.take (i := 1) (v := ?_) rfl (by kernel_rfl) (by kernel_rfl) (fun _ _ _ h => h) (by kernel_rfl) (by kernel_rfl) (Or.inl ⟨by rfl, ?_⟩) HS.out ?_
  rotate_left
  · (intro w9 h9; go_simp; try with_reducible rfl)
  try simp only [getElem_toArray, getElem_cons_succ, getElem_cons_zero, Act.put, setIfInBounds_toArray, set_cons_zero, set_cons_succ]
  refine AnyT.take (i := 2) (v := ?_) rfl (by kernel_rfl) (by kernel_rfl) (fun _ _ _ h => h) (by kernel_rfl) (by kernel_rfl) (Or.inl ⟨by rfl, ?_⟩) HS.out ?_
  rotate_left
  · (intro w9 h9; go_simp; try with_reducible rfl)
  try simp only [getElem_toArray, getElem_cons_succ, getElem_cons_zero, Act.put, setIfInBounds_toArray, set_cons_zero, set_cons_succ]
  refine AnyT.take (i := 3) (v := ?_) rfl (by kernel_rfl) (by kernel_rfl) (fun _ _ _ h => h) (by kernel_rfl) (by kernel_rfl) (Or.inl ⟨by rfl, ?_⟩) HS.out ?_
  rotate_left
  · (intro w9 h9; go_simp; try with_reducible rfl)
  try simp only [getElem_toArray, getElem_cons_succ, getElem_cons_zero, Act.put, setIfInBounds_toArray, set_cons_zero, set_cons_succ]
  refine AnyT.take (i := 4) (v := ?_) rfl (by kernel_rfl) (by kernel_rfl) (fun _ _ _ h => h) (by kernel_rfl) (by kernel_rfl) (Or.inl ⟨by rfl, ?_⟩) HS.out ?_
  rotate_left
  · (intro w9 h9; go_simp; try with_reducible rfl)
  try simp only [getElem_toArray, getElem_cons_succ, getElem_cons_zero, Act.put, setIfInBounds_toArray, set_cons_zero, set_cons_succ]
  refine AnyT.take (i := 5) (v := ?_) rfl (by kernel_rfl) (by kernel_rfl) (fun _ _ _ h => h) (by kernel_rfl) (by kernel_rfl) (Or.inl ⟨by rfl, ?_⟩) HS.out ?_
  rotate_left
  · (intro w9 h9; go_simp; try with_reducible rfl)
  try simp only [getElem_toArray, getElem_cons_succ, getElem_cons_zero, Act.put, setIfInBounds_toArray, set_cons_zero, set_cons_succ]
  refine AnyT.take (i := 6) (v := ?_) rfl (by kernel_rfl) (by kernel_rfl) (fun _ _ _ h => h) (by kernel_rfl) (by kernel_rfl) (Or.inl ⟨by rfl, ?_⟩) HS.out ?_
  rotate_left
  · (intro w9 h9; go_simp; try with_reducible rfl)
  try simp only [getElem_toArray, getElem_cons_succ, getElem_cons_zero, Act.put, setIfInBounds_toArray, set_cons_zero, set_cons_succ]
  refine AnyT.take (i := 7) (v := ?_) rfl (by kernel_rfl) (by kernel_rfl) (fun _ _ _ h => h) (by kernel_rfl) (by kernel_rfl) (Or.inl ⟨by rfl, ?_⟩) HS.out ?_
  rotate_left
  · (intro w9 h9; go_simp; try with_reducible rfl)
  try simp only [getElem_toArray, getElem_cons_succ, getElem_cons_zero, Act.put, setIfInBounds_toArray, set_cons_zero, set_cons_succ]
  refine AnyT.take (i := 8) (v := ?_) rfl (by kernel_rfl) (by kernel_rfl) (fun _ _ _ h => h) (by kernel_rfl) (by kernel_rfl) (Or.inl ⟨by rfl, ?_⟩) HS.out ?_
  rotate_left
  · (intro w9 h9; go_simp; try with_reducible rfl)
  try simp only [getElem_toArray, getElem_cons_succ, getElem_cons_zero, Act.put, setIfInBounds_toArray, set_cons_zero, set_cons_succ]
  refine AnyT.one (i := 9) (by kernel_rfl) rfl (fun K hK => ?_)
  go_simp
  refine hK.out _ _ (fun _ => trivial) ?_
  clear hK K
  try simp only [getElem_toArray, getElem_cons_succ, getElem_cons_zero, Act.put, setIfInBounds_toArray, set_cons_zero, set_cons_succ]
  refine AnyT.one (i := 10) (by kernel_rfl) rfl (fun K hK => ?_)
  go_simp
  go_wp2_with (go_at_call 53; refine (wirNum (G := Non) hWA hpt hFp rfl HCZ.out hbd).mono ?_; rintro e w3 ⟨rfl, v3, hWx, hcx, hGx⟩)
  refine hK.out _ _ (fun _ => trivial) ?_
  clear hK K
  try simp only [getElem_toArray, getElem_cons_succ, getElem_cons_zero, Act.put, setIfInBounds_toArray, set_cons_zero, set_cons_succ]
  refine AnyT.nil (by kernel_rfl) ?_
  have hcw3 := hcw2.wtr hG2 ((chgX (S := WB g v2) hcy).trans hcx fun _ _ h => h)
  have hG3 := hG2.trans hcw2.size (hGx.low hcy.size)
  have HW3 := hide (show Wir w3 base g v3 (((l ++ numB (wz 3)) ++ numsB [fr, tt]) ++ numsB [inc, boot]) from hWx)
  have hnb3 : ¬ WB g v3 b := fun hb => hnb (hG3.wb hbl hb)
  have hF3 : ∀ k, F k → ¬ WB g v3 k := fun k hk hb => hF k hk (hG3.wb (hFl k hk) hb)
  clear hWx hcx hGx
  clear hpt hcy hWA hFp HCZ hbd hcd hWD hcM HS HW2
  have hbd : (((l ++ numB (wz 3)) ++ numsB [fr, tt]) ++ numsB [inc, boot]).length + 9 * [tb, ts, tq].length ≤ 140737488355328 := by simp only [List.length_append, List.length_cons, List.length_nil]; omega
  go_upto_region 37 with (go_at_call 56; refine (wirTxn HW3.out (hcw3.cell c32 hnb) (hcw3.cell c33 hnb) (hcw3.cell c34 hnb) u32 u33 u34 hnb3 hbd).mono ?_; rintro e w4 ⟨rfl, v4, hWx, hcx, hGx⟩)
  have hcw4 := hcw3.wtr hG3 (hcx)
  have hG4 := hG3.trans hcw3.size (hGx.low (Nat.le_refl _))
  have HW4 := hide (show Wir w4 base g v4 ((((l ++ numB (wz 3)) ++ numsB [fr, tt]) ++ numsB [inc, boot]) ++ numsB [tb, ts, tq]) from hWx)
  have hnb4 : ¬ WB g v4 b := fun hb => hnb (hG4.wb hbl hb)
  have hF4 : ∀ k, F k → ¬ WB g v4 k := fun k hk hb => hF k hk (hG4.wb (hFl k hk) hb)
  clear hWx hcx hGx
  clear hbd HW3
  go_wp2_with fail
  go_ret
  refine ⟨rfl, v4, ?_, hcw4, hG4⟩
  have he : l ++ (numB (wz 3) ++ (numsB [fr, tt] ++ (numsB [inc, boot] ++ (numsB [tb, ts, tq])))) = (((l ++ numB (wz 3)) ++ numsB [fr, tt]) ++ numsB [inc, boot]) ++ numsB [tb, ts, tq] := by simp only [List.append_assoc, List.append_nil]
  rw [he]; exact HW4.out

set_option maxHeartbeats 16000000 in
set_option maxRecDepth 100000 in
theorem wirPMend {base g b : Nat} {v : Value} {l : List UInt8} {fr tt : Nat} {F : Nat → Prop} {w : World} {inc parent : Nat} {name : ByteArray}
    (h : Wir w base g v l) (hnb : ¬ WB g v b) (hF : ∀ k, F k → ¬ WB g v k) (hFl : ∀ k, F k → k < w.heap.size)
    (c0 : w.cell? ⟨b, 0, none⟩ = some (.int .i64 4)) (f0 : w.frozen? ⟨b, 0, none⟩ = false) (c1 : w.cell? ⟨b, 1, none⟩ = some (.int .u64 (fr : Int))) (u1 : U64 fr) (c2 : w.cell? ⟨b, 2, none⟩ = some (.int .u64 (tt : Int))) (u2 : U64 tt)
    (c35 : w.cell? ⟨b, 35, none⟩ = some (.int .u64 (inc : Int))) (u35 : U64 inc) (c36 : w.cell? ⟨b, 36, none⟩ = some (.int .u64 (parent : Int))) (u36 : U64 parent) (c37 : w.cell? ⟨b, 37, none⟩ = some (.string name)) (f37 : w.frozen? ⟨b, 37, none⟩ = false) (hs : name.size ≤ 1000000000)
    (hb : l.length + (numsB [inc, parent] ++ (flatB [name.data.toList])).length + 600 ≤ 140737488355328) :
    Calls Try.prog 26 #[.pointer (some ⟨g, 0, none⟩), .pointer (some ⟨b, 0, none⟩)] w fun e w' =>
      e = .returned (.bool true) ∧ ∃ v', Wir w' base g v' (l ++ (numB (wz 4) ++ (numsB [fr, tt] ++ (numsB [inc, parent] ++ (flatB [name.data.toList]))))) ∧ Chg (WB g v) w w' ∧ Grew w v v' := by
  have hbl : b < w.heap.size := World.block_lt_of_cell? w _ c0
  have hn2 := numsB_length [fr, tt]
  have hn1 := numB_length (wz 4)
  simp only [List.length_cons, List.length_nil] at hn2
  have hm0 := numsB_length [inc, parent]
  simp only [List.length_cons, List.length_nil] at hm0
  simp only [List.length_append] at hb
  have hcw0 := Chg.refl (WB g v) w
  have hG0 := Grew.refl w v
  have hnb0 := hnb
  have hF0 := hF
  have hpt := RdPt.lit w 133 #[.pointer (some ⟨b, 0, none⟩)] [⟨b, 0, none⟩] 1 rfl rfl (by simp [maxLen])
  have hcL := (Chg.refl Non w).alloc (.cells #[.pointer (some ⟨b, 0, none⟩)] 133)
  have hWL : Wir _ base g v l := h.al (.cells #[.pointer (some ⟨b, 0, none⟩)] 133)
  have hFp : ∀ k, k = w.heap.size → ¬ WB g v k := fun k e hb => by have := (h.lt k hb).2; omega
  have hcz := whole_one (hcL.cell c0 (fun h => h)) (hcL.frz c0 (fun h => h) f0) hnb (by omega)
  have HCZ := hide hcz
  clear hcz
  have hbd : l.length + 9 * [(4 : Int)].length ≤ 140737488355328 := by simp only [List.length_cons, List.length_nil]; omega
  go_enter Try.func26, Try.ntmps26
  go_upto_region 2 with (go_at_call 52; refine (wirWhole hWL hpt hFp rfl HCZ.out hbd).mono ?_; rintro e w1 ⟨rfl, v1, hWx, hcx, hGx⟩)
  have hWx : Wir w1 base g v1 (l ++ numB (wz 4)) := by rw [← numsB_one]; exact hWx
  have hcw1 := hcw0.wtr hG0 ((chgX (S := WB g v) hcL).trans hcx fun _ _ h => h)
  have hG1 := hG0.trans hcw0.size (hGx.low hcL.size)
  have HW1 := hide (show Wir w1 base g v1 (l ++ numB (wz 4)) from hWx)
  have hnb1 : ¬ WB g v1 b := fun hb => hnb (hG1.wb hbl hb)
  have hF1 : ∀ k, F k → ¬ WB g v1 k := fun k hk hb => hF k hk (hG1.wb (hFl k hk) hb)
  clear hWx hcx hGx
  clear hcL hWL hpt hFp HCZ hbd
  have hcd : Chg Non w1 w1.drew := (Chg.refl Non w1).drew
  have hWD : Wir w1.drew base g v1 (l ++ numB (wz 4)) := (HW1.out).c0 hcd
  have hpt := RdPt.lit w1.drew 135 #[.pointer (some ⟨b, 1, none⟩), .pointer (some ⟨b, 2, none⟩)] [⟨b, 1, none⟩, ⟨b, 2, none⟩] 2 rfl rfl (by simp [maxLen])
  have hcM := (Chg.refl Non w1.drew).alloc (.cells #[.pointer (some ⟨b, 1, none⟩), .pointer (some ⟨b, 2, none⟩)] 135)
  have hWA : Wir _ base g v1 (l ++ numB (wz 4)) := hWD.al (.cells #[.pointer (some ⟨b, 1, none⟩), .pointer (some ⟨b, 2, none⟩)] 135)
  have hFp : ∀ k, k = w1.drew.heap.size → ¬ WB g v1 k := fun k e hb => by have := (hWD.lt k hb).2; omega
  have hcy := hcd.trans0 hcM
  have hcz : ∀ (j : Nat) (a : Addr) (n : Nat), ([⟨b, 1, none⟩, ⟨b, 2, none⟩] : List Addr)[j]? = some a → [fr, tt][j]? = some n → (w1.drew.alloc (.cells #[.pointer (some ⟨b, 1, none⟩), .pointer (some ⟨b, 2, none⟩)] 135)).cell? a = some (.int .u64 (n : Int)) ∧ ¬ WB g v1 a.block ∧ U64 n := by
    intro j a n h1 h2
    match j, h1, h2 with
    | 0, h1, h2 => simp at h1 h2; subst h1; subst h2; exact ⟨hcy.cell (hcw1.cell c1 hnb) (fun h => h), hnb1, u1⟩
    | 1, h1, h2 => simp at h1 h2; subst h1; subst h2; exact ⟨hcy.cell (hcw1.cell c2 hnb) (fun h => h), hnb1, u2⟩
    | j + 2, h1, h2 => simp at h1
  have HCZ := hide hcz
  clear hcz
  have hbd : (l ++ numB (wz 4)).length + 9 * [fr, tt].length ≤ 140737488355328 := by simp only [List.length_append, List.length_cons, List.length_nil]; omega
  refine wp_region_T (fun _ => True) 99 (by kernel_rfl) ?_
  have HS := hide True.intro
  refine AnyT.take (i := 0) (v := ?_) rfl (by kernel_rfl) (by kernel_rfl) (fun _ _ _ h => h) (by kernel_rfl) (by kernel_rfl) (Or.inl ⟨by rfl, ?_⟩) HS.out ?_
  rotate_left
  · (intro w9 h9; go_simp; try with_reducible rfl)
  try simp only [getElem_toArray, getElem_cons_succ, getElem_cons_zero, Act.put, setIfInBounds_toArray, set_cons_zero, set_cons_succ]
  refine AnyT.take (i := 1) (v := ?_) rfl (by kernel_rfl) (by kernel_rfl) (fun _ _ _ h => h) (by kernel_rfl) (by kernel_rfl) (Or.inl ⟨by rfl, ?_⟩) HS.out ?_
  rotate_left
  · (intro w9 h9; go_simp; try with_reducible rfl)
  try simp only [getElem_toArray, getElem_cons_succ, getElem_cons_zero, Act.put, setIfInBounds_toArray, set_cons_zero, set_cons_succ]
  refine AnyT.take (i := 2) (v := ?_) rfl (by kernel_rfl) (by kernel_rfl) (fun _ _ _ h => h) (by kernel_rfl) (by kernel_rfl) (Or.inl ⟨by rfl, ?_⟩) HS.out ?_
  rotate_left
  · (intro w9 h9; go_simp; try with_reducible rfl)
  try simp only [getElem_toArray, getElem_cons_succ, getElem_cons_zero, Act.put, setIfInBounds_toArray, set_cons_zero, set_cons_succ]
  refine AnyT.take (i := 3) (v := ?_) rfl (by kernel_rfl) (by kernel_rfl) (fun _ _ _ h => h) (by kernel_rfl) (by kernel_rfl) (Or.inl ⟨by rfl, ?_⟩) HS.out ?_
  rotate_left
  · (intro w9 h9; go_simp; try with_reducible rfl)
  try simp only [getElem_toArray, getElem_cons_succ, getElem_cons_zero, Act.put, setIfInBounds_toArray, set_cons_zero, set_cons_succ]
  refine AnyT.take (i := 4) (v := ?_) rfl (by kernel_rfl) (by kernel_rfl) (fun _ _ _ h => h) (by kernel_rfl) (by kernel_rfl) (Or.inl ⟨by rfl, ?_⟩) HS.out ?_
  rotate_left
  · (intro w9 h9; go_simp; try with_reducible rfl)
  try simp only [getElem_toArray, getElem_cons_succ, getElem_cons_zero, Act.put, setIfInBounds_toArray, set_cons_zero, set_cons_succ]
  refine AnyT.take (i := 5) (v := ?_) rfl (by kernel_rfl) (by kernel_rfl) (fun _ _ _ h => h) (by kernel_rfl) (by kernel_rfl) (Or.inl ⟨by rfl, ?_⟩) HS.out ?_
  rotate_left
  · (intro w9 h9; go_simp; try with_reducible rfl)
  try simp only [getElem_toArray, getElem_cons_succ, getElem_cons_zero, Act.put, setIfInBounds_toArray, set_cons_zero, set_cons_succ]
  refine AnyT.take (i := 6) (v := ?_) rfl (by kernel_rfl) (by kernel_rfl) (fun _ _ _ h => h) (by kernel_rfl) (by kernel_rfl) (Or.inl ⟨by rfl, ?_⟩) HS.out ?_
  rotate_left
  · (intro w9 h9; go_simp; try with_reducible rfl)
  try simp only [getElem_toArray, getElem_cons_succ, getElem_cons_zero, Act.put, setIfInBounds_toArray, set_cons_zero, set_cons_succ]
  refine AnyT.one (i := 7) (by kernel_rfl) rfl (fun K hK => ?_)
  go_simp
  refine hK.out _ _ (fun _ => trivial) ?_
  clear hK K
  try simp only [getElem_toArray, getElem_cons_succ, getElem_cons_zero, Act.put, setIfInBounds_toArray, set_cons_zero, set_cons_succ]
  refine AnyT.one (i := 8) (by kernel_rfl) rfl (fun K hK => ?_)
  go_simp
  go_wp2_with (go_at_call 53; refine (wirNum (G := Non) hWA hpt hFp rfl HCZ.out hbd).mono ?_; rintro e w2 ⟨rfl, v2, hWx, hcx, hGx⟩)
  refine hK.out _ _ (fun _ => trivial) ?_
  clear hK K
  try simp only [getElem_toArray, getElem_cons_succ, getElem_cons_zero, Act.put, setIfInBounds_toArray, set_cons_zero, set_cons_succ]
  refine AnyT.nil (by kernel_rfl) ?_
  have hcw2 := hcw1.wtr hG1 ((chgX (S := WB g v1) hcy).trans hcx fun _ _ h => h)
  have hG2 := hG1.trans hcw1.size (hGx.low hcy.size)
  have HW2 := hide (show Wir w2 base g v2 ((l ++ numB (wz 4)) ++ numsB [fr, tt]) from hWx)
  have hnb2 : ¬ WB g v2 b := fun hb => hnb (hG2.wb hbl hb)
  have hF2 : ∀ k, F k → ¬ WB g v2 k := fun k hk hb => hF k hk (hG2.wb (hFl k hk) hb)
  clear hWx hcx hGx
  clear hpt hcy hWA hFp HCZ hbd hcd hWD hcM HS HW1
  have k0 := hcw2.cell c0 hnb
  go_upto_region 13 with fail
  have hcd : Chg Non w2 w2.drew := (Chg.refl Non w2).drew
  have hWD : Wir w2.drew base g v2 ((l ++ numB (wz 4)) ++ numsB [fr, tt]) := (HW2.out).c0 hcd
  have hpt := RdPt.lit w2.drew 135 #[.pointer (some ⟨b, 35, none⟩), .pointer (some ⟨b, 36, none⟩)] [⟨b, 35, none⟩, ⟨b, 36, none⟩] 2 rfl rfl (by simp [maxLen])
  have hcM := (Chg.refl Non w2.drew).alloc (.cells #[.pointer (some ⟨b, 35, none⟩), .pointer (some ⟨b, 36, none⟩)] 135)
  have hWA : Wir _ base g v2 ((l ++ numB (wz 4)) ++ numsB [fr, tt]) := hWD.al (.cells #[.pointer (some ⟨b, 35, none⟩), .pointer (some ⟨b, 36, none⟩)] 135)
  have hFp : ∀ k, k = w2.drew.heap.size → ¬ WB g v2 k := fun k e hb => by have := (hWD.lt k hb).2; omega
  have hcy := hcd.trans0 hcM
  have hcz : ∀ (j : Nat) (a : Addr) (n : Nat), ([⟨b, 35, none⟩, ⟨b, 36, none⟩] : List Addr)[j]? = some a → [inc, parent][j]? = some n → (w2.drew.alloc (.cells #[.pointer (some ⟨b, 35, none⟩), .pointer (some ⟨b, 36, none⟩)] 135)).cell? a = some (.int .u64 (n : Int)) ∧ ¬ WB g v2 a.block ∧ U64 n := by
    intro j a n h1 h2
    match j, h1, h2 with
    | 0, h1, h2 => simp at h1 h2; subst h1; subst h2; exact ⟨hcy.cell (hcw2.cell c35 hnb) (fun h => h), hnb2, u35⟩
    | 1, h1, h2 => simp at h1 h2; subst h1; subst h2; exact ⟨hcy.cell (hcw2.cell c36 hnb) (fun h => h), hnb2, u36⟩
    | j + 2, h1, h2 => simp at h1
  have HCZ := hide hcz
  clear hcz
  have hbd : ((l ++ numB (wz 4)) ++ numsB [fr, tt]).length + 9 * [inc, parent].length ≤ 140737488355328 := by simp only [List.length_append, List.length_cons, List.length_nil]; omega
  refine wp_region_T (fun _ => True) 99 (by kernel_rfl) ?_
  have HS := hide True.intro
  refine AnyT.take (i := 0) (v := ?_) rfl (by kernel_rfl) (by kernel_rfl) (fun _ _ _ h => h) (by kernel_rfl) (by kernel_rfl) (Or.inl ⟨by rfl, ?_⟩) HS.out ?_
  rotate_left
  · (intro w9 h9; go_simp; try with_reducible rfl)
  try simp only [getElem_toArray, getElem_cons_succ, getElem_cons_zero, Act.put, setIfInBounds_toArray, set_cons_zero, set_cons_succ]
  refine AnyT.take (i := 1) (v := ?_) rfl (by kernel_rfl) (by kernel_rfl) (fun _ _ _ h => h) (by kernel_rfl) (by kernel_rfl) (Or.inl ⟨by rfl, ?_⟩) HS.out ?_
  rotate_left
  · (intro w9 h9; go_simp; try with_reducible rfl)
  try simp only [getElem_toArray, getElem_cons_succ, getElem_cons_zero, Act.put, setIfInBounds_toArray, set_cons_zero, set_cons_succ]
  refine AnyT.take (i := 2) (v := ?_) rfl (by kernel_rfl) (by kernel_rfl) (fun _ _ _ h => h) (by kernel_rfl) (by kernel_rfl) (Or.inl ⟨by rfl, ?_⟩) HS.out ?_
  rotate_left
  · (intro w9 h9; go_simp; try with_reducible rfl)
  try simp only [getElem_toArray, getElem_cons_succ, getElem_cons_zero, Act.put, setIfInBounds_toArray, set_cons_zero, set_cons_succ]
  refine AnyT.take (i := 3) (v := ?_) rfl (by kernel_rfl) (by kernel_rfl) (fun _ _ _ h => h) (by kernel_rfl) (by kernel_rfl) (Or.inl ⟨by rfl, ?_⟩) HS.out ?_
  rotate_left
  · (intro w9 h9; go_simp; try with_reducible rfl)
  try simp only [getElem_toArray, getElem_cons_succ, getElem_cons_zero, Act.put, setIfInBounds_toArray, set_cons_zero, set_cons_succ]
  refine AnyT.take (i := 4) (v := ?_) rfl (by kernel_rfl) (by kernel_rfl) (fun _ _ _ h => h) (by kernel_rfl) (by kernel_rfl) (Or.inl ⟨by rfl, ?_⟩) HS.out ?_
  rotate_left
  · (intro w9 h9; go_simp; try with_reducible rfl)
  try simp only [getElem_toArray, getElem_cons_succ, getElem_cons_zero, Act.put, setIfInBounds_toArray, set_cons_zero, set_cons_succ]
  refine AnyT.take (i := 5) (v := ?_) rfl (by kernel_rfl) (by kernel_rfl) (fun _ _ _ h => h) (by kernel_rfl) (by kernel_rfl) (Or.inl ⟨by rfl, ?_⟩) HS.out ?_
  rotate_left
  · (intro w9 h9; go_simp; try with_reducible rfl)
  try simp only [getElem_toArray, getElem_cons_succ, getElem_cons_zero, Act.put, setIfInBounds_toArray, set_cons_zero, set_cons_succ]
  refine AnyT.take (i := 6) (v := ?_) rfl (by kernel_rfl) (by kernel_rfl) (fun _ _ _ h => h) (by kernel_rfl) (by kernel_rfl) (Or.inl ⟨by rfl, ?_⟩) HS.out ?_
  rotate_left
  · (intro w9 h9; go_simp; try with_reducible rfl)
  try simp only [getElem_toArray, getElem_cons_succ, getElem_cons_zero, Act.put, setIfInBounds_toArray, set_cons_zero, set_cons_succ]
  refine AnyT.take (i := 7) (v := ?_) rfl (by kernel_rfl) (by kernel_rfl) (fun _ _ _ h => h) (by kernel_rfl) (by kernel_rfl) (Or.inl ⟨by rfl, ?_⟩) HS.out ?_
  rotate_left
  · (intro w9 h9; go_simp; try with_reducible rfl)
  try simp only [getElem_toArray, getElem_cons_succ, getElem_cons_zero, Act.put, setIfInBounds_toArray, set_cons_zero, set_cons_succ]
  refine AnyT.take (i := 8) (v := ?_) rfl (by kernel_rfl) (by kernel_rfl) (fun _ _ _ h => h) (by kernel_rfl) (by kernel_rfl) (Or.inl ⟨by rfl, ?_⟩) HS.out ?_
  rotate_left
  · (intro w9 h9; go_simp; try with_reducible rfl)
  try simp only [getElem_toArray, getElem_cons_succ, getElem_cons_zero, Act.put, setIfInBounds_toArray, set_cons_zero, set_cons_succ]
  refine AnyT.one (i := 9) (by kernel_rfl) rfl (fun K hK => ?_)
  go_simp
  refine hK.out _ _ (fun _ => trivial) ?_
  clear hK K
  try simp only [getElem_toArray, getElem_cons_succ, getElem_cons_zero, Act.put, setIfInBounds_toArray, set_cons_zero, set_cons_succ]
  refine AnyT.one (i := 10) (by kernel_rfl) rfl (fun K hK => ?_)
  go_simp
  go_wp2_with (go_at_call 53; refine (wirNum (G := Non) hWA hpt hFp rfl HCZ.out hbd).mono ?_; rintro e w3 ⟨rfl, v3, hWx, hcx, hGx⟩)
  refine hK.out _ _ (fun _ => trivial) ?_
  clear hK K
  try simp only [getElem_toArray, getElem_cons_succ, getElem_cons_zero, Act.put, setIfInBounds_toArray, set_cons_zero, set_cons_succ]
  refine AnyT.nil (by kernel_rfl) ?_
  have hcw3 := hcw2.wtr hG2 ((chgX (S := WB g v2) hcy).trans hcx fun _ _ h => h)
  have hG3 := hG2.trans hcw2.size (hGx.low hcy.size)
  have HW3 := hide (show Wir w3 base g v3 (((l ++ numB (wz 4)) ++ numsB [fr, tt]) ++ numsB [inc, parent]) from hWx)
  have hnb3 : ¬ WB g v3 b := fun hb => hnb (hG3.wb hbl hb)
  have hF3 : ∀ k, F k → ¬ WB g v3 k := fun k hk hb => hF k hk (hG3.wb (hFl k hk) hb)
  clear hWx hcx hGx
  clear hpt hcy hWA hFp HCZ hbd hcd hWD hcM HS HW2
  have hbd : (((l ++ numB (wz 4)) ++ numsB [fr, tt]) ++ numsB [inc, parent]).length + (flatB [name.data.toList]).length + 9 ≤ 140737488355328 := by simp only [List.length_append, List.length_cons, List.length_nil]; omega
  go_upto_region 37 with (go_at_call 57; refine (wirText HW3.out (hcw3.cell c37 hnb) (hcw3.frz c37 hnb f37) hnb3 hs hbd).mono ?_; rintro e w4 ⟨rfl, v4, hWx, hcx, hGx⟩)
  have hcw4 := hcw3.wtr hG3 (hcx)
  have hG4 := hG3.trans hcw3.size (hGx.low (Nat.le_refl _))
  have HW4 := hide (show Wir w4 base g v4 ((((l ++ numB (wz 4)) ++ numsB [fr, tt]) ++ numsB [inc, parent]) ++ flatB [name.data.toList]) from hWx)
  have hnb4 : ¬ WB g v4 b := fun hb => hnb (hG4.wb hbl hb)
  have hF4 : ∀ k, F k → ¬ WB g v4 k := fun k hk hb => hF k hk (hG4.wb (hFl k hk) hb)
  clear hWx hcx hGx
  clear hbd HW3
  go_wp2_with fail
  go_ret
  refine ⟨rfl, v4, ?_, hcw4, hG4⟩
  have he : l ++ (numB (wz 4) ++ (numsB [fr, tt] ++ (numsB [inc, parent] ++ (flatB [name.data.toList])))) = (((l ++ numB (wz 4)) ++ numsB [fr, tt]) ++ numsB [inc, parent]) ++ flatB [name.data.toList] := by simp only [List.append_assoc, List.append_nil]
  rw [he]; exact HW4.out

set_option maxHeartbeats 16000000 in
set_option maxRecDepth 100000 in
theorem wirPMended {base g b : Nat} {v : Value} {l : List UInt8} {fr tt : Nat} {F : Nat → Prop} {w : World} {inc : Nat}
    (h : Wir w base g v l) (hnb : ¬ WB g v b) (hF : ∀ k, F k → ¬ WB g v k) (hFl : ∀ k, F k → k < w.heap.size)
    (c0 : w.cell? ⟨b, 0, none⟩ = some (.int .i64 5)) (f0 : w.frozen? ⟨b, 0, none⟩ = false) (c1 : w.cell? ⟨b, 1, none⟩ = some (.int .u64 (fr : Int))) (u1 : U64 fr) (c2 : w.cell? ⟨b, 2, none⟩ = some (.int .u64 (tt : Int))) (u2 : U64 tt)
    (c63 : w.cell? ⟨b, 63, none⟩ = some (.int .u64 (inc : Int))) (u63 : U64 inc)
    (hb : l.length + (numsB [inc]).length + 600 ≤ 140737488355328) :
    Calls Try.prog 26 #[.pointer (some ⟨g, 0, none⟩), .pointer (some ⟨b, 0, none⟩)] w fun e w' =>
      e = .returned (.bool true) ∧ ∃ v', Wir w' base g v' (l ++ (numB (wz 5) ++ (numsB [fr, tt] ++ (numsB [inc])))) ∧ Chg (WB g v) w w' ∧ Grew w v v' := by
  have hbl : b < w.heap.size := World.block_lt_of_cell? w _ c0
  have hn2 := numsB_length [fr, tt]
  have hn1 := numB_length (wz 5)
  simp only [List.length_cons, List.length_nil] at hn2
  have hm0 := numsB_length [inc]
  simp only [List.length_cons, List.length_nil] at hm0
  have hcw0 := Chg.refl (WB g v) w
  have hG0 := Grew.refl w v
  have hnb0 := hnb
  have hF0 := hF
  have hpt := RdPt.lit w 133 #[.pointer (some ⟨b, 0, none⟩)] [⟨b, 0, none⟩] 1 rfl rfl (by simp [maxLen])
  have hcL := (Chg.refl Non w).alloc (.cells #[.pointer (some ⟨b, 0, none⟩)] 133)
  have hWL : Wir _ base g v l := h.al (.cells #[.pointer (some ⟨b, 0, none⟩)] 133)
  have hFp : ∀ k, k = w.heap.size → ¬ WB g v k := fun k e hb => by have := (h.lt k hb).2; omega
  have hcz := whole_one (hcL.cell c0 (fun h => h)) (hcL.frz c0 (fun h => h) f0) hnb (by omega)
  have HCZ := hide hcz
  clear hcz
  have hbd : l.length + 9 * [(5 : Int)].length ≤ 140737488355328 := by simp only [List.length_cons, List.length_nil]; omega
  go_enter Try.func26, Try.ntmps26
  go_upto_region 2 with (go_at_call 52; refine (wirWhole hWL hpt hFp rfl HCZ.out hbd).mono ?_; rintro e w1 ⟨rfl, v1, hWx, hcx, hGx⟩)
  have hWx : Wir w1 base g v1 (l ++ numB (wz 5)) := by rw [← numsB_one]; exact hWx
  have hcw1 := hcw0.wtr hG0 ((chgX (S := WB g v) hcL).trans hcx fun _ _ h => h)
  have hG1 := hG0.trans hcw0.size (hGx.low hcL.size)
  have HW1 := hide (show Wir w1 base g v1 (l ++ numB (wz 5)) from hWx)
  have hnb1 : ¬ WB g v1 b := fun hb => hnb (hG1.wb hbl hb)
  have hF1 : ∀ k, F k → ¬ WB g v1 k := fun k hk hb => hF k hk (hG1.wb (hFl k hk) hb)
  clear hWx hcx hGx
  clear hcL hWL hpt hFp HCZ hbd
  have hcd : Chg Non w1 w1.drew := (Chg.refl Non w1).drew
  have hWD : Wir w1.drew base g v1 (l ++ numB (wz 5)) := (HW1.out).c0 hcd
  have hpt := RdPt.lit w1.drew 135 #[.pointer (some ⟨b, 1, none⟩), .pointer (some ⟨b, 2, none⟩)] [⟨b, 1, none⟩, ⟨b, 2, none⟩] 2 rfl rfl (by simp [maxLen])
  have hcM := (Chg.refl Non w1.drew).alloc (.cells #[.pointer (some ⟨b, 1, none⟩), .pointer (some ⟨b, 2, none⟩)] 135)
  have hWA : Wir _ base g v1 (l ++ numB (wz 5)) := hWD.al (.cells #[.pointer (some ⟨b, 1, none⟩), .pointer (some ⟨b, 2, none⟩)] 135)
  have hFp : ∀ k, k = w1.drew.heap.size → ¬ WB g v1 k := fun k e hb => by have := (hWD.lt k hb).2; omega
  have hcy := hcd.trans0 hcM
  have hcz : ∀ (j : Nat) (a : Addr) (n : Nat), ([⟨b, 1, none⟩, ⟨b, 2, none⟩] : List Addr)[j]? = some a → [fr, tt][j]? = some n → (w1.drew.alloc (.cells #[.pointer (some ⟨b, 1, none⟩), .pointer (some ⟨b, 2, none⟩)] 135)).cell? a = some (.int .u64 (n : Int)) ∧ ¬ WB g v1 a.block ∧ U64 n := by
    intro j a n h1 h2
    match j, h1, h2 with
    | 0, h1, h2 => simp at h1 h2; subst h1; subst h2; exact ⟨hcy.cell (hcw1.cell c1 hnb) (fun h => h), hnb1, u1⟩
    | 1, h1, h2 => simp at h1 h2; subst h1; subst h2; exact ⟨hcy.cell (hcw1.cell c2 hnb) (fun h => h), hnb1, u2⟩
    | j + 2, h1, h2 => simp at h1
  have HCZ := hide hcz
  clear hcz
  have hbd : (l ++ numB (wz 5)).length + 9 * [fr, tt].length ≤ 140737488355328 := by simp only [List.length_append, List.length_cons, List.length_nil]; omega
  refine wp_region_T (fun _ => True) 99 (by kernel_rfl) ?_
  have HS := hide True.intro
  refine AnyT.take (i := 0) (v := ?_) rfl (by kernel_rfl) (by kernel_rfl) (fun _ _ _ h => h) (by kernel_rfl) (by kernel_rfl) (Or.inl ⟨by rfl, ?_⟩) HS.out ?_
  rotate_left
  · (intro w9 h9; go_simp; try with_reducible rfl)
  try simp only [getElem_toArray, getElem_cons_succ, getElem_cons_zero, Act.put, setIfInBounds_toArray, set_cons_zero, set_cons_succ]
  refine AnyT.take (i := 1) (v := ?_) rfl (by kernel_rfl) (by kernel_rfl) (fun _ _ _ h => h) (by kernel_rfl) (by kernel_rfl) (Or.inl ⟨by rfl, ?_⟩) HS.out ?_
  rotate_left
  · (intro w9 h9; go_simp; try with_reducible rfl)
  try simp only [getElem_toArray, getElem_cons_succ, getElem_cons_zero, Act.put, setIfInBounds_toArray, set_cons_zero, set_cons_succ]
  refine AnyT.take (i := 2) (v := ?_) rfl (by kernel_rfl) (by kernel_rfl) (fun _ _ _ h => h) (by kernel_rfl) (by kernel_rfl) (Or.inl ⟨by rfl, ?_⟩) HS.out ?_
  rotate_left
  · (intro w9 h9; go_simp; try with_reducible rfl)
  try simp only [getElem_toArray, getElem_cons_succ, getElem_cons_zero, Act.put, setIfInBounds_toArray, set_cons_zero, set_cons_succ]
  refine AnyT.take (i := 3) (v := ?_) rfl (by kernel_rfl) (by kernel_rfl) (fun _ _ _ h => h) (by kernel_rfl) (by kernel_rfl) (Or.inl ⟨by rfl, ?_⟩) HS.out ?_
  rotate_left
  · (intro w9 h9; go_simp; try with_reducible rfl)
  try simp only [getElem_toArray, getElem_cons_succ, getElem_cons_zero, Act.put, setIfInBounds_toArray, set_cons_zero, set_cons_succ]
  refine AnyT.take (i := 4) (v := ?_) rfl (by kernel_rfl) (by kernel_rfl) (fun _ _ _ h => h) (by kernel_rfl) (by kernel_rfl) (Or.inl ⟨by rfl, ?_⟩) HS.out ?_
  rotate_left
  · (intro w9 h9; go_simp; try with_reducible rfl)
  try simp only [getElem_toArray, getElem_cons_succ, getElem_cons_zero, Act.put, setIfInBounds_toArray, set_cons_zero, set_cons_succ]
  refine AnyT.take (i := 5) (v := ?_) rfl (by kernel_rfl) (by kernel_rfl) (fun _ _ _ h => h) (by kernel_rfl) (by kernel_rfl) (Or.inl ⟨by rfl, ?_⟩) HS.out ?_
  rotate_left
  · (intro w9 h9; go_simp; try with_reducible rfl)
  try simp only [getElem_toArray, getElem_cons_succ, getElem_cons_zero, Act.put, setIfInBounds_toArray, set_cons_zero, set_cons_succ]
  refine AnyT.take (i := 6) (v := ?_) rfl (by kernel_rfl) (by kernel_rfl) (fun _ _ _ h => h) (by kernel_rfl) (by kernel_rfl) (Or.inl ⟨by rfl, ?_⟩) HS.out ?_
  rotate_left
  · (intro w9 h9; go_simp; try with_reducible rfl)
  try simp only [getElem_toArray, getElem_cons_succ, getElem_cons_zero, Act.put, setIfInBounds_toArray, set_cons_zero, set_cons_succ]
  refine AnyT.one (i := 7) (by kernel_rfl) rfl (fun K hK => ?_)
  go_simp
  refine hK.out _ _ (fun _ => trivial) ?_
  clear hK K
  try simp only [getElem_toArray, getElem_cons_succ, getElem_cons_zero, Act.put, setIfInBounds_toArray, set_cons_zero, set_cons_succ]
  refine AnyT.one (i := 8) (by kernel_rfl) rfl (fun K hK => ?_)
  go_simp
  go_wp2_with (go_at_call 53; refine (wirNum (G := Non) hWA hpt hFp rfl HCZ.out hbd).mono ?_; rintro e w2 ⟨rfl, v2, hWx, hcx, hGx⟩)
  refine hK.out _ _ (fun _ => trivial) ?_
  clear hK K
  try simp only [getElem_toArray, getElem_cons_succ, getElem_cons_zero, Act.put, setIfInBounds_toArray, set_cons_zero, set_cons_succ]
  refine AnyT.nil (by kernel_rfl) ?_
  have hcw2 := hcw1.wtr hG1 ((chgX (S := WB g v1) hcy).trans hcx fun _ _ h => h)
  have hG2 := hG1.trans hcw1.size (hGx.low hcy.size)
  have HW2 := hide (show Wir w2 base g v2 ((l ++ numB (wz 5)) ++ numsB [fr, tt]) from hWx)
  have hnb2 : ¬ WB g v2 b := fun hb => hnb (hG2.wb hbl hb)
  have hF2 : ∀ k, F k → ¬ WB g v2 k := fun k hk hb => hF k hk (hG2.wb (hFl k hk) hb)
  clear hWx hcx hGx
  clear hpt hcy hWA hFp HCZ hbd hcd hWD hcM HS HW1
  have k0 := hcw2.cell c0 hnb
  go_upto_region 16 with fail
  have hpt := RdPt.lit w2 135 #[.pointer (some ⟨b, 63, none⟩)] [⟨b, 63, none⟩] 1 rfl rfl (by simp [maxLen])
  have hcy := (Chg.refl Non w2).alloc (.cells #[.pointer (some ⟨b, 63, none⟩)] 135)
  have hWA : Wir _ base g v2 ((l ++ numB (wz 5)) ++ numsB [fr, tt]) := (HW2.out).al (.cells #[.pointer (some ⟨b, 63, none⟩)] 135)
  have hFp : ∀ k, k = w2.heap.size → ¬ WB g v2 k := fun k e hb => by have := ((HW2.out).lt k hb).2; omega
  have hcz : ∀ (j : Nat) (a : Addr) (n : Nat), ([⟨b, 63, none⟩] : List Addr)[j]? = some a → [inc][j]? = some n → (w2.alloc (.cells #[.pointer (some ⟨b, 63, none⟩)] 135)).cell? a = some (.int .u64 (n : Int)) ∧ ¬ WB g v2 a.block ∧ U64 n := by
    intro j a n h1 h2
    match j, h1, h2 with
    | 0, h1, h2 => simp at h1 h2; subst h1; subst h2; exact ⟨hcy.cell (hcw2.cell c63 hnb) (fun h => h), hnb2, u63⟩
    | j + 1, h1, h2 => simp at h1
  have HCZ := hide hcz
  clear hcz
  have hbd : ((l ++ numB (wz 5)) ++ numsB [fr, tt]).length + 9 * [inc].length ≤ 140737488355328 := by simp only [List.length_append, List.length_cons, List.length_nil]; omega
  go_upto_region 37 with (go_at_call 53; refine (wirNum (G := Non) hWA hpt hFp rfl HCZ.out hbd).mono ?_; rintro e w3 ⟨rfl, v3, hWx, hcx, hGx⟩)
  have hcw3 := hcw2.wtr hG2 ((chgX (S := WB g v2) hcy).trans hcx fun _ _ h => h)
  have hG3 := hG2.trans hcw2.size (hGx.low hcy.size)
  have HW3 := hide (show Wir w3 base g v3 (((l ++ numB (wz 5)) ++ numsB [fr, tt]) ++ numsB [inc]) from hWx)
  have hnb3 : ¬ WB g v3 b := fun hb => hnb (hG3.wb hbl hb)
  have hF3 : ∀ k, F k → ¬ WB g v3 k := fun k hk hb => hF k hk (hG3.wb (hFl k hk) hb)
  clear hWx hcx hGx
  clear hpt hcy hWA hFp HCZ hbd HW2
  go_wp2_with fail
  go_ret
  refine ⟨rfl, v3, ?_, hcw3, hG3⟩
  have he : l ++ (numB (wz 5) ++ (numsB [fr, tt] ++ (numsB [inc]))) = ((l ++ numB (wz 5)) ++ numsB [fr, tt]) ++ numsB [inc] := by simp only [List.append_assoc, List.append_nil]
  rw [he]; exact HW3.out

set_option maxHeartbeats 16000000 in
set_option maxRecDepth 100000 in
theorem wirPWelcome {base g b : Nat} {v : Value} {l : List UInt8} {fr tt : Nat} {F : Nat → Prop} {w : World} {inc boot : Nat}
    (h : Wir w base g v l) (hnb : ¬ WB g v b) (hF : ∀ k, F k → ¬ WB g v k) (hFl : ∀ k, F k → k < w.heap.size)
    (c0 : w.cell? ⟨b, 0, none⟩ = some (.int .i64 11)) (f0 : w.frozen? ⟨b, 0, none⟩ = false) (c1 : w.cell? ⟨b, 1, none⟩ = some (.int .u64 (fr : Int))) (u1 : U64 fr) (c2 : w.cell? ⟨b, 2, none⟩ = some (.int .u64 (tt : Int))) (u2 : U64 tt)
    (c63 : w.cell? ⟨b, 63, none⟩ = some (.int .u64 (inc : Int))) (u63 : U64 inc) (c64 : w.cell? ⟨b, 64, none⟩ = some (.int .u64 (boot : Int))) (u64 : U64 boot)
    (hb : l.length + (numsB [inc, boot]).length + 600 ≤ 140737488355328) :
    Calls Try.prog 26 #[.pointer (some ⟨g, 0, none⟩), .pointer (some ⟨b, 0, none⟩)] w fun e w' =>
      e = .returned (.bool true) ∧ ∃ v', Wir w' base g v' (l ++ (numB (wz 11) ++ (numsB [fr, tt] ++ (numsB [inc, boot])))) ∧ Chg (WB g v) w w' ∧ Grew w v v' := by
  have hbl : b < w.heap.size := World.block_lt_of_cell? w _ c0
  have hn2 := numsB_length [fr, tt]
  have hn1 := numB_length (wz 11)
  simp only [List.length_cons, List.length_nil] at hn2
  have hm0 := numsB_length [inc, boot]
  simp only [List.length_cons, List.length_nil] at hm0
  have hcw0 := Chg.refl (WB g v) w
  have hG0 := Grew.refl w v
  have hnb0 := hnb
  have hF0 := hF
  have hpt := RdPt.lit w 133 #[.pointer (some ⟨b, 0, none⟩)] [⟨b, 0, none⟩] 1 rfl rfl (by simp [maxLen])
  have hcL := (Chg.refl Non w).alloc (.cells #[.pointer (some ⟨b, 0, none⟩)] 133)
  have hWL : Wir _ base g v l := h.al (.cells #[.pointer (some ⟨b, 0, none⟩)] 133)
  have hFp : ∀ k, k = w.heap.size → ¬ WB g v k := fun k e hb => by have := (h.lt k hb).2; omega
  have hcz := whole_one (hcL.cell c0 (fun h => h)) (hcL.frz c0 (fun h => h) f0) hnb (by omega)
  have HCZ := hide hcz
  clear hcz
  have hbd : l.length + 9 * [(11 : Int)].length ≤ 140737488355328 := by simp only [List.length_cons, List.length_nil]; omega
  go_enter Try.func26, Try.ntmps26
  go_upto_region 2 with (go_at_call 52; refine (wirWhole hWL hpt hFp rfl HCZ.out hbd).mono ?_; rintro e w1 ⟨rfl, v1, hWx, hcx, hGx⟩)
  have hWx : Wir w1 base g v1 (l ++ numB (wz 11)) := by rw [← numsB_one]; exact hWx
  have hcw1 := hcw0.wtr hG0 ((chgX (S := WB g v) hcL).trans hcx fun _ _ h => h)
  have hG1 := hG0.trans hcw0.size (hGx.low hcL.size)
  have HW1 := hide (show Wir w1 base g v1 (l ++ numB (wz 11)) from hWx)
  have hnb1 : ¬ WB g v1 b := fun hb => hnb (hG1.wb hbl hb)
  have hF1 : ∀ k, F k → ¬ WB g v1 k := fun k hk hb => hF k hk (hG1.wb (hFl k hk) hb)
  clear hWx hcx hGx
  clear hcL hWL hpt hFp HCZ hbd
  have hcd : Chg Non w1 w1.drew := (Chg.refl Non w1).drew
  have hWD : Wir w1.drew base g v1 (l ++ numB (wz 11)) := (HW1.out).c0 hcd
  have hpt := RdPt.lit w1.drew 135 #[.pointer (some ⟨b, 1, none⟩), .pointer (some ⟨b, 2, none⟩)] [⟨b, 1, none⟩, ⟨b, 2, none⟩] 2 rfl rfl (by simp [maxLen])
  have hcM := (Chg.refl Non w1.drew).alloc (.cells #[.pointer (some ⟨b, 1, none⟩), .pointer (some ⟨b, 2, none⟩)] 135)
  have hWA : Wir _ base g v1 (l ++ numB (wz 11)) := hWD.al (.cells #[.pointer (some ⟨b, 1, none⟩), .pointer (some ⟨b, 2, none⟩)] 135)
  have hFp : ∀ k, k = w1.drew.heap.size → ¬ WB g v1 k := fun k e hb => by have := (hWD.lt k hb).2; omega
  have hcy := hcd.trans0 hcM
  have hcz : ∀ (j : Nat) (a : Addr) (n : Nat), ([⟨b, 1, none⟩, ⟨b, 2, none⟩] : List Addr)[j]? = some a → [fr, tt][j]? = some n → (w1.drew.alloc (.cells #[.pointer (some ⟨b, 1, none⟩), .pointer (some ⟨b, 2, none⟩)] 135)).cell? a = some (.int .u64 (n : Int)) ∧ ¬ WB g v1 a.block ∧ U64 n := by
    intro j a n h1 h2
    match j, h1, h2 with
    | 0, h1, h2 => simp at h1 h2; subst h1; subst h2; exact ⟨hcy.cell (hcw1.cell c1 hnb) (fun h => h), hnb1, u1⟩
    | 1, h1, h2 => simp at h1 h2; subst h1; subst h2; exact ⟨hcy.cell (hcw1.cell c2 hnb) (fun h => h), hnb1, u2⟩
    | j + 2, h1, h2 => simp at h1
  have HCZ := hide hcz
  clear hcz
  have hbd : (l ++ numB (wz 11)).length + 9 * [fr, tt].length ≤ 140737488355328 := by simp only [List.length_append, List.length_cons, List.length_nil]; omega
  refine wp_region_T (fun _ => True) 99 (by kernel_rfl) ?_
  have HS := hide True.intro
  refine AnyT.take (i := 0) (v := ?_) rfl (by kernel_rfl) (by kernel_rfl) (fun _ _ _ h => h) (by kernel_rfl) (by kernel_rfl) (Or.inl ⟨by rfl, ?_⟩) HS.out ?_
  rotate_left
  · (intro w9 h9; go_simp; try with_reducible rfl)
  try simp only [getElem_toArray, getElem_cons_succ, getElem_cons_zero, Act.put, setIfInBounds_toArray, set_cons_zero, set_cons_succ]
  refine AnyT.take (i := 1) (v := ?_) rfl (by kernel_rfl) (by kernel_rfl) (fun _ _ _ h => h) (by kernel_rfl) (by kernel_rfl) (Or.inl ⟨by rfl, ?_⟩) HS.out ?_
  rotate_left
  · (intro w9 h9; go_simp; try with_reducible rfl)
  try simp only [getElem_toArray, getElem_cons_succ, getElem_cons_zero, Act.put, setIfInBounds_toArray, set_cons_zero, set_cons_succ]
  refine AnyT.take (i := 2) (v := ?_) rfl (by kernel_rfl) (by kernel_rfl) (fun _ _ _ h => h) (by kernel_rfl) (by kernel_rfl) (Or.inl ⟨by rfl, ?_⟩) HS.out ?_
  rotate_left
  · (intro w9 h9; go_simp; try with_reducible rfl)
  try simp only [getElem_toArray, getElem_cons_succ, getElem_cons_zero, Act.put, setIfInBounds_toArray, set_cons_zero, set_cons_succ]
  refine AnyT.take (i := 3) (v := ?_) rfl (by kernel_rfl) (by kernel_rfl) (fun _ _ _ h => h) (by kernel_rfl) (by kernel_rfl) (Or.inl ⟨by rfl, ?_⟩) HS.out ?_
  rotate_left
  · (intro w9 h9; go_simp; try with_reducible rfl)
  try simp only [getElem_toArray, getElem_cons_succ, getElem_cons_zero, Act.put, setIfInBounds_toArray, set_cons_zero, set_cons_succ]
  refine AnyT.take (i := 4) (v := ?_) rfl (by kernel_rfl) (by kernel_rfl) (fun _ _ _ h => h) (by kernel_rfl) (by kernel_rfl) (Or.inl ⟨by rfl, ?_⟩) HS.out ?_
  rotate_left
  · (intro w9 h9; go_simp; try with_reducible rfl)
  try simp only [getElem_toArray, getElem_cons_succ, getElem_cons_zero, Act.put, setIfInBounds_toArray, set_cons_zero, set_cons_succ]
  refine AnyT.take (i := 5) (v := ?_) rfl (by kernel_rfl) (by kernel_rfl) (fun _ _ _ h => h) (by kernel_rfl) (by kernel_rfl) (Or.inl ⟨by rfl, ?_⟩) HS.out ?_
  rotate_left
  · (intro w9 h9; go_simp; try with_reducible rfl)
  try simp only [getElem_toArray, getElem_cons_succ, getElem_cons_zero, Act.put, setIfInBounds_toArray, set_cons_zero, set_cons_succ]
  refine AnyT.take (i := 6) (v := ?_) rfl (by kernel_rfl) (by kernel_rfl) (fun _ _ _ h => h) (by kernel_rfl) (by kernel_rfl) (Or.inl ⟨by rfl, ?_⟩) HS.out ?_
  rotate_left
  · (intro w9 h9; go_simp; try with_reducible rfl)
  try simp only [getElem_toArray, getElem_cons_succ, getElem_cons_zero, Act.put, setIfInBounds_toArray, set_cons_zero, set_cons_succ]
  refine AnyT.one (i := 7) (by kernel_rfl) rfl (fun K hK => ?_)
  go_simp
  refine hK.out _ _ (fun _ => trivial) ?_
  clear hK K
  try simp only [getElem_toArray, getElem_cons_succ, getElem_cons_zero, Act.put, setIfInBounds_toArray, set_cons_zero, set_cons_succ]
  refine AnyT.one (i := 8) (by kernel_rfl) rfl (fun K hK => ?_)
  go_simp
  go_wp2_with (go_at_call 53; refine (wirNum (G := Non) hWA hpt hFp rfl HCZ.out hbd).mono ?_; rintro e w2 ⟨rfl, v2, hWx, hcx, hGx⟩)
  refine hK.out _ _ (fun _ => trivial) ?_
  clear hK K
  try simp only [getElem_toArray, getElem_cons_succ, getElem_cons_zero, Act.put, setIfInBounds_toArray, set_cons_zero, set_cons_succ]
  refine AnyT.nil (by kernel_rfl) ?_
  have hcw2 := hcw1.wtr hG1 ((chgX (S := WB g v1) hcy).trans hcx fun _ _ h => h)
  have hG2 := hG1.trans hcw1.size (hGx.low hcy.size)
  have HW2 := hide (show Wir w2 base g v2 ((l ++ numB (wz 11)) ++ numsB [fr, tt]) from hWx)
  have hnb2 : ¬ WB g v2 b := fun hb => hnb (hG2.wb hbl hb)
  have hF2 : ∀ k, F k → ¬ WB g v2 k := fun k hk hb => hF k hk (hG2.wb (hFl k hk) hb)
  clear hWx hcx hGx
  clear hpt hcy hWA hFp HCZ hbd hcd hWD hcM HS HW1
  have k0 := hcw2.cell c0 hnb
  go_upto_region 36 with fail
  have hcd : Chg Non w2 w2.drew := (Chg.refl Non w2).drew
  have hWD : Wir w2.drew base g v2 ((l ++ numB (wz 11)) ++ numsB [fr, tt]) := (HW2.out).c0 hcd
  have hpt := RdPt.lit w2.drew 135 #[.pointer (some ⟨b, 63, none⟩), .pointer (some ⟨b, 64, none⟩)] [⟨b, 63, none⟩, ⟨b, 64, none⟩] 2 rfl rfl (by simp [maxLen])
  have hcM := (Chg.refl Non w2.drew).alloc (.cells #[.pointer (some ⟨b, 63, none⟩), .pointer (some ⟨b, 64, none⟩)] 135)
  have hWA : Wir _ base g v2 ((l ++ numB (wz 11)) ++ numsB [fr, tt]) := hWD.al (.cells #[.pointer (some ⟨b, 63, none⟩), .pointer (some ⟨b, 64, none⟩)] 135)
  have hFp : ∀ k, k = w2.drew.heap.size → ¬ WB g v2 k := fun k e hb => by have := (hWD.lt k hb).2; omega
  have hcy := hcd.trans0 hcM
  have hcz : ∀ (j : Nat) (a : Addr) (n : Nat), ([⟨b, 63, none⟩, ⟨b, 64, none⟩] : List Addr)[j]? = some a → [inc, boot][j]? = some n → (w2.drew.alloc (.cells #[.pointer (some ⟨b, 63, none⟩), .pointer (some ⟨b, 64, none⟩)] 135)).cell? a = some (.int .u64 (n : Int)) ∧ ¬ WB g v2 a.block ∧ U64 n := by
    intro j a n h1 h2
    match j, h1, h2 with
    | 0, h1, h2 => simp at h1 h2; subst h1; subst h2; exact ⟨hcy.cell (hcw2.cell c63 hnb) (fun h => h), hnb2, u63⟩
    | 1, h1, h2 => simp at h1 h2; subst h1; subst h2; exact ⟨hcy.cell (hcw2.cell c64 hnb) (fun h => h), hnb2, u64⟩
    | j + 2, h1, h2 => simp at h1
  have HCZ := hide hcz
  clear hcz
  have hbd : ((l ++ numB (wz 11)) ++ numsB [fr, tt]).length + 9 * [inc, boot].length ≤ 140737488355328 := by simp only [List.length_append, List.length_cons, List.length_nil]; omega
  refine wp_region_T (fun _ => True) 99 (by kernel_rfl) ?_
  have HS := hide True.intro
  refine AnyT.take (i := 0) (v := ?_) rfl (by kernel_rfl) (by kernel_rfl) (fun _ _ _ h => h) (by kernel_rfl) (by kernel_rfl) (Or.inl ⟨by rfl, ?_⟩) HS.out ?_
  rotate_left
  · (intro w9 h9; go_simp; try with_reducible rfl)
  try simp only [getElem_toArray, getElem_cons_succ, getElem_cons_zero, Act.put, setIfInBounds_toArray, set_cons_zero, set_cons_succ]
  refine AnyT.take (i := 1) (v := ?_) rfl (by kernel_rfl) (by kernel_rfl) (fun _ _ _ h => h) (by kernel_rfl) (by kernel_rfl) (Or.inl ⟨by rfl, ?_⟩) HS.out ?_
  rotate_left
  · (intro w9 h9; go_simp; try with_reducible rfl)
  try simp only [getElem_toArray, getElem_cons_succ, getElem_cons_zero, Act.put, setIfInBounds_toArray, set_cons_zero, set_cons_succ]
  refine AnyT.take (i := 2) (v := ?_) rfl (by kernel_rfl) (by kernel_rfl) (fun _ _ _ h => h) (by kernel_rfl) (by kernel_rfl) (Or.inl ⟨by rfl, ?_⟩) HS.out ?_
  rotate_left
  · (intro w9 h9; go_simp; try with_reducible rfl)
  try simp only [getElem_toArray, getElem_cons_succ, getElem_cons_zero, Act.put, setIfInBounds_toArray, set_cons_zero, set_cons_succ]
  refine AnyT.take (i := 3) (v := ?_) rfl (by kernel_rfl) (by kernel_rfl) (fun _ _ _ h => h) (by kernel_rfl) (by kernel_rfl) (Or.inl ⟨by rfl, ?_⟩) HS.out ?_
  rotate_left
  · (intro w9 h9; go_simp; try with_reducible rfl)
  try simp only [getElem_toArray, getElem_cons_succ, getElem_cons_zero, Act.put, setIfInBounds_toArray, set_cons_zero, set_cons_succ]
  refine AnyT.take (i := 4) (v := ?_) rfl (by kernel_rfl) (by kernel_rfl) (fun _ _ _ h => h) (by kernel_rfl) (by kernel_rfl) (Or.inl ⟨by rfl, ?_⟩) HS.out ?_
  rotate_left
  · (intro w9 h9; go_simp; try with_reducible rfl)
  try simp only [getElem_toArray, getElem_cons_succ, getElem_cons_zero, Act.put, setIfInBounds_toArray, set_cons_zero, set_cons_succ]
  refine AnyT.take (i := 5) (v := ?_) rfl (by kernel_rfl) (by kernel_rfl) (fun _ _ _ h => h) (by kernel_rfl) (by kernel_rfl) (Or.inl ⟨by rfl, ?_⟩) HS.out ?_
  rotate_left
  · (intro w9 h9; go_simp; try with_reducible rfl)
  try simp only [getElem_toArray, getElem_cons_succ, getElem_cons_zero, Act.put, setIfInBounds_toArray, set_cons_zero, set_cons_succ]
  refine AnyT.take (i := 6) (v := ?_) rfl (by kernel_rfl) (by kernel_rfl) (fun _ _ _ h => h) (by kernel_rfl) (by kernel_rfl) (Or.inl ⟨by rfl, ?_⟩) HS.out ?_
  rotate_left
  · (intro w9 h9; go_simp; try with_reducible rfl)
  try simp only [getElem_toArray, getElem_cons_succ, getElem_cons_zero, Act.put, setIfInBounds_toArray, set_cons_zero, set_cons_succ]
  refine AnyT.take (i := 7) (v := ?_) rfl (by kernel_rfl) (by kernel_rfl) (fun _ _ _ h => h) (by kernel_rfl) (by kernel_rfl) (Or.inl ⟨by rfl, ?_⟩) HS.out ?_
  rotate_left
  · (intro w9 h9; go_simp; try with_reducible rfl)
  try simp only [getElem_toArray, getElem_cons_succ, getElem_cons_zero, Act.put, setIfInBounds_toArray, set_cons_zero, set_cons_succ]
  refine AnyT.take (i := 8) (v := ?_) rfl (by kernel_rfl) (by kernel_rfl) (fun _ _ _ h => h) (by kernel_rfl) (by kernel_rfl) (Or.inl ⟨by rfl, ?_⟩) HS.out ?_
  rotate_left
  · (intro w9 h9; go_simp; try with_reducible rfl)
  try simp only [getElem_toArray, getElem_cons_succ, getElem_cons_zero, Act.put, setIfInBounds_toArray, set_cons_zero, set_cons_succ]
  refine AnyT.one (i := 9) (by kernel_rfl) rfl (fun K hK => ?_)
  go_simp
  refine hK.out _ _ (fun _ => trivial) ?_
  clear hK K
  try simp only [getElem_toArray, getElem_cons_succ, getElem_cons_zero, Act.put, setIfInBounds_toArray, set_cons_zero, set_cons_succ]
  refine AnyT.one (i := 10) (by kernel_rfl) rfl (fun K hK => ?_)
  go_simp
  go_wp2_with (go_at_call 53; refine (wirNum (G := Non) hWA hpt hFp rfl HCZ.out hbd).mono ?_; rintro e w3 ⟨rfl, v3, hWx, hcx, hGx⟩)
  refine hK.out _ _ (fun _ => trivial) ?_
  clear hK K
  try simp only [getElem_toArray, getElem_cons_succ, getElem_cons_zero, Act.put, setIfInBounds_toArray, set_cons_zero, set_cons_succ]
  refine AnyT.nil (by kernel_rfl) ?_
  have hcw3 := hcw2.wtr hG2 ((chgX (S := WB g v2) hcy).trans hcx fun _ _ h => h)
  have hG3 := hG2.trans hcw2.size (hGx.low hcy.size)
  have HW3 := hide (show Wir w3 base g v3 (((l ++ numB (wz 11)) ++ numsB [fr, tt]) ++ numsB [inc, boot]) from hWx)
  have hnb3 : ¬ WB g v3 b := fun hb => hnb (hG3.wb hbl hb)
  have hF3 : ∀ k, F k → ¬ WB g v3 k := fun k hk hb => hF k hk (hG3.wb (hFl k hk) hb)
  clear hWx hcx hGx
  clear hpt hcy hWA hFp HCZ hbd hcd hWD hcM HS HW2
  go_wp2_with fail
  go_ret
  refine ⟨rfl, v3, ?_, hcw3, hG3⟩
  have he : l ++ (numB (wz 11) ++ (numsB [fr, tt] ++ (numsB [inc, boot]))) = ((l ++ numB (wz 11)) ++ numsB [fr, tt]) ++ numsB [inc, boot] := by simp only [List.append_assoc, List.append_nil]
  rw [he]; exact HW3.out

set_option maxHeartbeats 16000000 in
set_option maxRecDepth 100000 in
theorem wirPGreet {base g b : Nat} {v : Value} {l : List UInt8} {fr tt : Nat} {F : Nat → Prop} {w : World} 
    (h : Wir w base g v l) (hnb : ¬ WB g v b) (hF : ∀ k, F k → ¬ WB g v k) (hFl : ∀ k, F k → k < w.heap.size)
    (c0 : w.cell? ⟨b, 0, none⟩ = some (.int .i64 10)) (f0 : w.frozen? ⟨b, 0, none⟩ = false) (c1 : w.cell? ⟨b, 1, none⟩ = some (.int .u64 (fr : Int))) (u1 : U64 fr) (c2 : w.cell? ⟨b, 2, none⟩ = some (.int .u64 (tt : Int))) (u2 : U64 tt)
    
    (hb : l.length + (([] : List UInt8)).length + 600 ≤ 140737488355328) :
    Calls Try.prog 26 #[.pointer (some ⟨g, 0, none⟩), .pointer (some ⟨b, 0, none⟩)] w fun e w' =>
      e = .returned (.bool true) ∧ ∃ v', Wir w' base g v' (l ++ (numB (wz 10) ++ (numsB [fr, tt] ++ (([] : List UInt8))))) ∧ Chg (WB g v) w w' ∧ Grew w v v' := by
  have hbl : b < w.heap.size := World.block_lt_of_cell? w _ c0
  have hn2 := numsB_length [fr, tt]
  have hn1 := numB_length (wz 10)
  simp only [List.length_cons, List.length_nil] at hn2
  have hcw0 := Chg.refl (WB g v) w
  have hG0 := Grew.refl w v
  have hnb0 := hnb
  have hF0 := hF
  have hpt := RdPt.lit w 133 #[.pointer (some ⟨b, 0, none⟩)] [⟨b, 0, none⟩] 1 rfl rfl (by simp [maxLen])
  have hcL := (Chg.refl Non w).alloc (.cells #[.pointer (some ⟨b, 0, none⟩)] 133)
  have hWL : Wir _ base g v l := h.al (.cells #[.pointer (some ⟨b, 0, none⟩)] 133)
  have hFp : ∀ k, k = w.heap.size → ¬ WB g v k := fun k e hb => by have := (h.lt k hb).2; omega
  have hcz := whole_one (hcL.cell c0 (fun h => h)) (hcL.frz c0 (fun h => h) f0) hnb (by omega)
  have HCZ := hide hcz
  clear hcz
  have hbd : l.length + 9 * [(10 : Int)].length ≤ 140737488355328 := by simp only [List.length_cons, List.length_nil]; omega
  go_enter Try.func26, Try.ntmps26
  go_upto_region 2 with (go_at_call 52; refine (wirWhole hWL hpt hFp rfl HCZ.out hbd).mono ?_; rintro e w1 ⟨rfl, v1, hWx, hcx, hGx⟩)
  have hWx : Wir w1 base g v1 (l ++ numB (wz 10)) := by rw [← numsB_one]; exact hWx
  have hcw1 := hcw0.wtr hG0 ((chgX (S := WB g v) hcL).trans hcx fun _ _ h => h)
  have hG1 := hG0.trans hcw0.size (hGx.low hcL.size)
  have HW1 := hide (show Wir w1 base g v1 (l ++ numB (wz 10)) from hWx)
  have hnb1 : ¬ WB g v1 b := fun hb => hnb (hG1.wb hbl hb)
  have hF1 : ∀ k, F k → ¬ WB g v1 k := fun k hk hb => hF k hk (hG1.wb (hFl k hk) hb)
  clear hWx hcx hGx
  clear hcL hWL hpt hFp HCZ hbd
  have hcd : Chg Non w1 w1.drew := (Chg.refl Non w1).drew
  have hWD : Wir w1.drew base g v1 (l ++ numB (wz 10)) := (HW1.out).c0 hcd
  have hpt := RdPt.lit w1.drew 135 #[.pointer (some ⟨b, 1, none⟩), .pointer (some ⟨b, 2, none⟩)] [⟨b, 1, none⟩, ⟨b, 2, none⟩] 2 rfl rfl (by simp [maxLen])
  have hcM := (Chg.refl Non w1.drew).alloc (.cells #[.pointer (some ⟨b, 1, none⟩), .pointer (some ⟨b, 2, none⟩)] 135)
  have hWA : Wir _ base g v1 (l ++ numB (wz 10)) := hWD.al (.cells #[.pointer (some ⟨b, 1, none⟩), .pointer (some ⟨b, 2, none⟩)] 135)
  have hFp : ∀ k, k = w1.drew.heap.size → ¬ WB g v1 k := fun k e hb => by have := (hWD.lt k hb).2; omega
  have hcy := hcd.trans0 hcM
  have hcz : ∀ (j : Nat) (a : Addr) (n : Nat), ([⟨b, 1, none⟩, ⟨b, 2, none⟩] : List Addr)[j]? = some a → [fr, tt][j]? = some n → (w1.drew.alloc (.cells #[.pointer (some ⟨b, 1, none⟩), .pointer (some ⟨b, 2, none⟩)] 135)).cell? a = some (.int .u64 (n : Int)) ∧ ¬ WB g v1 a.block ∧ U64 n := by
    intro j a n h1 h2
    match j, h1, h2 with
    | 0, h1, h2 => simp at h1 h2; subst h1; subst h2; exact ⟨hcy.cell (hcw1.cell c1 hnb) (fun h => h), hnb1, u1⟩
    | 1, h1, h2 => simp at h1 h2; subst h1; subst h2; exact ⟨hcy.cell (hcw1.cell c2 hnb) (fun h => h), hnb1, u2⟩
    | j + 2, h1, h2 => simp at h1
  have HCZ := hide hcz
  clear hcz
  have hbd : (l ++ numB (wz 10)).length + 9 * [fr, tt].length ≤ 140737488355328 := by simp only [List.length_append, List.length_cons, List.length_nil]; omega
  refine wp_region_T (fun _ => True) 99 (by kernel_rfl) ?_
  have HS := hide True.intro
  refine AnyT.take (i := 0) (v := ?_) rfl (by kernel_rfl) (by kernel_rfl) (fun _ _ _ h => h) (by kernel_rfl) (by kernel_rfl) (Or.inl ⟨by rfl, ?_⟩) HS.out ?_
  rotate_left
  · (intro w9 h9; go_simp; try with_reducible rfl)
  try simp only [getElem_toArray, getElem_cons_succ, getElem_cons_zero, Act.put, setIfInBounds_toArray, set_cons_zero, set_cons_succ]
  refine AnyT.take (i := 1) (v := ?_) rfl (by kernel_rfl) (by kernel_rfl) (fun _ _ _ h => h) (by kernel_rfl) (by kernel_rfl) (Or.inl ⟨by rfl, ?_⟩) HS.out ?_
  rotate_left
  · (intro w9 h9; go_simp; try with_reducible rfl)
  try simp only [getElem_toArray, getElem_cons_succ, getElem_cons_zero, Act.put, setIfInBounds_toArray, set_cons_zero, set_cons_succ]
  refine AnyT.take (i := 2) (v := ?_) rfl (by kernel_rfl) (by kernel_rfl) (fun _ _ _ h => h) (by kernel_rfl) (by kernel_rfl) (Or.inl ⟨by rfl, ?_⟩) HS.out ?_
  rotate_left
  · (intro w9 h9; go_simp; try with_reducible rfl)
  try simp only [getElem_toArray, getElem_cons_succ, getElem_cons_zero, Act.put, setIfInBounds_toArray, set_cons_zero, set_cons_succ]
  refine AnyT.take (i := 3) (v := ?_) rfl (by kernel_rfl) (by kernel_rfl) (fun _ _ _ h => h) (by kernel_rfl) (by kernel_rfl) (Or.inl ⟨by rfl, ?_⟩) HS.out ?_
  rotate_left
  · (intro w9 h9; go_simp; try with_reducible rfl)
  try simp only [getElem_toArray, getElem_cons_succ, getElem_cons_zero, Act.put, setIfInBounds_toArray, set_cons_zero, set_cons_succ]
  refine AnyT.take (i := 4) (v := ?_) rfl (by kernel_rfl) (by kernel_rfl) (fun _ _ _ h => h) (by kernel_rfl) (by kernel_rfl) (Or.inl ⟨by rfl, ?_⟩) HS.out ?_
  rotate_left
  · (intro w9 h9; go_simp; try with_reducible rfl)
  try simp only [getElem_toArray, getElem_cons_succ, getElem_cons_zero, Act.put, setIfInBounds_toArray, set_cons_zero, set_cons_succ]
  refine AnyT.take (i := 5) (v := ?_) rfl (by kernel_rfl) (by kernel_rfl) (fun _ _ _ h => h) (by kernel_rfl) (by kernel_rfl) (Or.inl ⟨by rfl, ?_⟩) HS.out ?_
  rotate_left
  · (intro w9 h9; go_simp; try with_reducible rfl)
  try simp only [getElem_toArray, getElem_cons_succ, getElem_cons_zero, Act.put, setIfInBounds_toArray, set_cons_zero, set_cons_succ]
  refine AnyT.take (i := 6) (v := ?_) rfl (by kernel_rfl) (by kernel_rfl) (fun _ _ _ h => h) (by kernel_rfl) (by kernel_rfl) (Or.inl ⟨by rfl, ?_⟩) HS.out ?_
  rotate_left
  · (intro w9 h9; go_simp; try with_reducible rfl)
  try simp only [getElem_toArray, getElem_cons_succ, getElem_cons_zero, Act.put, setIfInBounds_toArray, set_cons_zero, set_cons_succ]
  refine AnyT.one (i := 7) (by kernel_rfl) rfl (fun K hK => ?_)
  go_simp
  refine hK.out _ _ (fun _ => trivial) ?_
  clear hK K
  try simp only [getElem_toArray, getElem_cons_succ, getElem_cons_zero, Act.put, setIfInBounds_toArray, set_cons_zero, set_cons_succ]
  refine AnyT.one (i := 8) (by kernel_rfl) rfl (fun K hK => ?_)
  go_simp
  go_wp2_with (go_at_call 53; refine (wirNum (G := Non) hWA hpt hFp rfl HCZ.out hbd).mono ?_; rintro e w2 ⟨rfl, v2, hWx, hcx, hGx⟩)
  refine hK.out _ _ (fun _ => trivial) ?_
  clear hK K
  try simp only [getElem_toArray, getElem_cons_succ, getElem_cons_zero, Act.put, setIfInBounds_toArray, set_cons_zero, set_cons_succ]
  refine AnyT.nil (by kernel_rfl) ?_
  have hcw2 := hcw1.wtr hG1 ((chgX (S := WB g v1) hcy).trans hcx fun _ _ h => h)
  have hG2 := hG1.trans hcw1.size (hGx.low hcy.size)
  have HW2 := hide (show Wir w2 base g v2 ((l ++ numB (wz 10)) ++ numsB [fr, tt]) from hWx)
  have hnb2 : ¬ WB g v2 b := fun hb => hnb (hG2.wb hbl hb)
  have hF2 : ∀ k, F k → ¬ WB g v2 k := fun k hk hb => hF k hk (hG2.wb (hFl k hk) hb)
  clear hWx hcx hGx
  clear hpt hcy hWA hFp HCZ hbd hcd hWD hcM HS HW1
  have k0 := hcw2.cell c0 hnb
  go_wp2_with fail
  go_ret
  refine ⟨rfl, v2, ?_, hcw2, hG2⟩
  have he : l ++ (numB (wz 10) ++ (numsB [fr, tt] ++ (([] : List UInt8)))) = (l ++ numB (wz 10)) ++ numsB [fr, tt] := by simp only [List.append_assoc, List.append_nil]
  rw [he]; exact HW2.out

end Go.Proofs.Ytncchbcoldgpbaa
