/- Texts turned into bytes, and bytes into texts, in these words. Plain theorems, no walk. -/
import Derived.Test.YtncchbcoldgpbaaBaM
import Derived.Lib.ConvBytes
import Derived.Lib.SlBytesRow
import Derived.Laws.AppendOwn
import Derived.Test.YtncchbcoldgpbaaWtM
open List (getElem_toArray getElem_cons_succ getElem_cons_zero setIfInBounds_toArray set_cons_zero set_cons_succ)
namespace Go.Proofs.Ytncchbcoldgpbaa
open Go.RowKit

/-- '[]byte(s)' -/
theorem conv_bytes (w : World) (s : ByteArray) : (convert 9 26 (.string s)).run Try.prog w = .ok (.slice (some ⟨w.heap.size, 0, none⟩) s.size (grownCap w s.size 0 5)) (Lib.bytesWorld w 5 s) :=
  Lib.run_convert_string_bytes w 9 26 5 s Try.underlying9 Try.underlying26 Try.underlying5
theorem bytesWorld_chg (w : World) (e : TypeId) (s : ByteArray) : Chg Non w (Lib.bytesWorld w e s) :=
  ⟨rfl, rfl, rfl, by rw [Lib.bytesWorld_size]; omega, fun k hk _ => Lib.bytesWorld_at_old w e s k hk⟩
set_option maxRecDepth 100000 in
theorem bytesWorld_rd (w : World) (e : TypeId) (s : ByteArray) (hs : s.size ≤ 1000000000) :
    RdB (Lib.bytesWorld w e s) (fun k => k = w.heap.size) (.slice (some ⟨w.heap.size, 0, none⟩) s.size (grownCap w s.size 0 e)) s.data.toList := by
  have hl : s.data.toList.length = s.size := by rw [Array.length_toList]; rfl
  refine ⟨by rw [bvs_length]; omega, some ⟨w.heap.size, 0, none⟩, grownCap w s.size 0 e, by rw [hl], by rw [hl]; exact grownCap_ge _ _ _ _, grownCap_le_maxLen _ _ _ _ (by simp only [maxLen]; omega), fun _ => ⟨_, rfl, rfl, fun j u hu => ?_⟩⟩
  rw [bvs_get] at hu
  obtain ⟨b, hb, rfl⟩ := Option.map_eq_some_iff.1 hu
  have hj := (List.getElem?_eq_some_iff.1 hb).1
  rw [add_none, Nat.zero_add, Lib.bytesWorld_cell w e s j (by omega), List.getD_eq_getElem?_getD, hb]
  rfl
/-- 'string(b)' -/
theorem conv_text {w : World} {F : Nat → Prop} {b o c : Nat} {l : List UInt8} (h : RdB w F (.slice (some ⟨b, o, none⟩) l.length c) l) : (convert 26 9 (.slice (some ⟨b, o, none⟩) l.length c)).run Try.prog w = .ok (.string ⟨l.toArray⟩) w := by
  have hc : Lib.Bytes w b o ⟨l.toArray⟩ := fun i hi => by
    have hil : i < l.length := by simpa [ByteArray.size] using hi
    obtain ⟨ad, hA, _, hcell⟩ := RdB.at_ h hil
    injection hA with hA
    subst hA
    rw [add_none] at hcell
    exact hcell
  have hsz : (⟨l.toArray⟩ : ByteArray).size = l.length := by simp [ByteArray.size]
  have := Lib.run_convert_whole (P := Try.prog) w 26 5 9 Try.underlying26 Try.underlying5 Try.underlying9 b o ⟨l.toArray⟩ hc c
  rw [hsz] at this
  exact this
end Go.Proofs.Ytncchbcoldgpbaa

namespace Go.Proofs.Ytncchbcoldgpbaa
open Go.RowKit
set_option linter.unusedVariables false
set_option linter.unusedSimpArgs false

theorem conv_ex (w : World) (s : ByteArray) (hs : s.size ≤ 1000000000) : ∃ cp wB, (convert 9 26 (.string s)).run Try.prog w = .ok (.slice (some ⟨w.heap.size, 0, none⟩) s.size cp) wB ∧ Chg Non w wB ∧ RdB wB (fun k => k = w.heap.size) (.slice (some ⟨w.heap.size, 0, none⟩) s.size cp) s.data.toList :=
  ⟨_, _, conv_bytes w s, bytesWorld_chg _ _ _, bytesWorld_rd _ _ _ hs⟩

set_option maxHeartbeats 8000000 in
set_option maxRecDepth 100000 in
theorem wirText {base g : Nat} {v : Value} {l : List UInt8} {a : Addr} {s : ByteArray} {w : World} (h : Wir w base g v l) (ca : w.cell? a = some (.string s)) (cf : w.frozen? a = false) (hna : ¬ WB g v a.block) (hs : s.size ≤ 1000000000) (hb : l.length + (flatB [s.data.toList]).length + 9 ≤ 140737488355328) :
    Calls Try.prog 57 #[.pointer (some ⟨g, 0, none⟩), .pointer (some a)] w fun e w' =>
      e = .returned (.tuple #[]) ∧ ∃ v', Wir w' base g v' (l ++ flatB [s.data.toList]) ∧ Chg (WB g v) w w' ∧ Grew w v v' := by
  obtain ⟨cp, wB, hcv, hcB, hrB⟩ := conv_ex w s hs
  obtain ⟨bs, hbs⟩ : ∃ b, b = w.heap.size := ⟨_, rfl⟩
  rw [← hbs] at hcv hrB
  have hsw : ¬ WB g v bs := fun hb => by have := (h.lt bs hb).2; omega
  have hWB : Wir wB base g v l := h.c0 hcB
  have caB := hcB.cell ca (fun h => h)
  have cfB := hcB.frz ca (fun h => h) cf
  clear hbs
  go_enter Try.func57, Try.ntmps57
  go_upto_region 1 with fail
  clear hcv
  have hX := Blk.new wB 26 #[.slice (some ⟨bs, 0, none⟩) s.size cp]
  have hcA := (Chg.refl Non wB).alloc (.cells #[.slice (some ⟨bs, 0, none⟩) s.size cp] 26)
  obtain ⟨bu, hbu⟩ : ∃ b, b = wB.heap.size := ⟨_, rfl⟩
  rw [← hbu] at hX ⊢
  generalize World.alloc _ _ = wA at hX hcA ⊢
  have hbw : ¬ WB g v bu := fun hb => by have := (hWB.lt bu hb).2; omega
  clear hbu
  have hWA : Wir wA base g v l := hWB.c0 hcA
  have caA := hcA.cell caB (fun h => h)
  have cfA := hcA.frz caB (fun h => h) cfB
  have hrA := hrB.c0 hcA
  have hpt := RdPt.lit wA 149 #[.pointer (some ⟨bu, 0, none⟩)] [⟨bu, 0, none⟩] 1 rfl rfl (by simp [maxLen])
  have hWL := hWA.al (.cells #[.pointer (some ⟨bu, 0, none⟩)] 149)
  have hcL := (Chg.refl Non wA).alloc (.cells #[.pointer (some ⟨bu, 0, none⟩)] 149)
  have hFp : ∀ k, k = wA.heap.size → ¬ WB g v k := fun k e hb => by have := (hWA.lt k hb).2; omega
  have hcz : ∀ (i : Nat) (b : Addr) (n : List UInt8), ([⟨bu, 0, none⟩] : List Addr)[i]? = some b → [s.data.toList][i]? = some n → ∃ x, (wA.alloc (.cells #[.pointer (some ⟨bu, 0, none⟩)] 149)).cell? b = some x ∧ ¬ WB g v b.block ∧ RdB (wA.alloc (.cells #[.pointer (some ⟨bu, 0, none⟩)] 149)) (fun k => k = bs) x n := by
    intro i b n h1 h2
    match i, h1, h2 with
    | 0, h1, h2 => simp at h1 h2; subst h1; subst h2; exact ⟨_, hcL.cell (hX.cell 0) (fun h => h), hbw, hrA.c0 hcL⟩
    | i + 1, h1, h2 => simp at h1
  have HCZ := hide hcz
  clear hcz
  go_upto_region 2 with (go_at_call 60; refine (wirData hWL hpt hFp rfl HCZ.out (fun k e => by subst e; exact hsw) hb).mono ?_; rintro e w2 ⟨rfl, v2, hW2, hc2, hG2⟩)
  have ca2 := hc2.cell (hcL.cell caA (fun h => h)) hna
  have cf2 := hc2.frz (hcL.cell caA (fun h => h)) hna (hcL.frz caA (fun h => h) cfA)
  have cu2 : w2.cell? ⟨bu, 0, none⟩ = some (.slice (some ⟨bs, 0, none⟩) s.size cp) := hc2.cell (hcL.cell (hX.cell 0) (fun h => h)) hbw
  have hr2 : RdB w2 (fun k => k = bs) (.slice (some ⟨bs, 0, none⟩) s.size cp) s.data.toList := (hrA.c0 hcL).chg hc2 (fun k e => by subst e; exact hsw)
  have hsz : s.data.toList.length = s.size := by rw [Array.length_toList]; rfl
  have hct : (convert 26 9 (.slice (some ⟨bs, 0, none⟩) s.size cp)).run Try.prog w2 = .ok (.string s) w2 := by
    rw [← hsz] at hr2 ⊢
    have := conv_text hr2
    rw [this]
  have hcx := (hcB.trans0 hcA).trans0 hcL
  have HC := hide ((chgX (S := WB g v) hcx).trans hc2 fun _ _ h => h)
  have HG := hide (hG2.low hcx.size)
  have HR := hide hW2
  clear hW2 hc2 hG2 hcL hcA hWL hpt hWA hX caA cfA hrA hrB hr2 hWB caB cfB hcB hsz
  go_wp2_with fail
  rw [setCell_id ca2]
  exact bodyPost_end (results_none rfl _ _ _) rfl ⟨rfl, v2, HR.out, HC.out, HG.out⟩
end Go.Proofs.Ytncchbcoldgpbaa

namespace Go.Proofs.Ytncchbcoldgpbaa
open Go.RowKit
set_option linter.unusedVariables false
set_option linter.unusedSimpArgs false

structure OpS where
  kind : Int
  key : List UInt8
  val : List UInt8
  most : Int
def I64 (z : Int) : Prop := -9223372036854775808 ≤ z ∧ z ≤ 9223372036854775807
def opB (o : OpS) : List UInt8 := numsB [wz o.kind, wz o.most] ++ flatB [o.key, o.val]
def opsB (l : List OpS) : List UInt8 := l.flatMap opB
theorem opsB_take {l : List OpS} {k : Nat} (h : k < l.length) : opsB (l.take (k + 1)) = opsB (l.take k) ++ opB l[k] := by
  unfold opsB; rw [List.take_succ_eq_append_getElem h, List.flatMap_append, List.flatMap_cons, List.flatMap_nil, List.append_nil]
theorem opsB_take_le (l : List OpS) (k : Nat) : (opsB (l.take k)).length ≤ (opsB l).length := by
  have h : opsB l = opsB (l.take k) ++ opsB (l.drop k) := by unfold opsB; rw [← List.flatMap_append, List.take_append_drop]
  rw [h, List.length_append]; omega
def flO (xs : List (Value × Value)) (l : List OpS) : List Value := (xs.zip l).flatMap fun p => [.int .i64 p.2.kind, p.1.1, p.1.2, .int .i64 p.2.most]
theorem flat4_get {α : Type} (f0 f1 f2 f3 : α → Value) : ∀ (l : List α) (k i : Nat) (h : k < l.length), i < 4 → (l.flatMap fun p => [f0 p, f1 p, f2 p, f3 p])[k * 4 + i]? = [f0 l[k], f1 l[k], f2 l[k], f3 l[k]][i]?
  | a :: l, 0, i, _, hi => by
    rw [Nat.zero_mul, Nat.zero_add, List.flatMap_cons, List.getElem?_append_left (by simpa using hi)]
    rfl
  | a :: l, k + 1, i, h, hi => by
    rw [List.flatMap_cons, show (k + 1) * 4 + i = (k * 4 + i) + 4 by omega, List.getElem?_append_right (by simp)]
    simp only [List.length_cons, List.length_nil, Nat.zero_add, Nat.add_sub_cancel]
    rw [flat4_get f0 f1 f2 f3 l k i (by simpa using h) hi]
    rfl
/-- a row of operations of the call's own, whose texts lie anywhere -/
structure OwnO (w : World) (b : Nat) (F : Nat → Prop) (v : Value) (l : List OpS) (xs : List (Value × Value)) : Prop where
  len : xs.length = l.length
  row : w.ownsRow b 85 4 v l.length (flO xs l)
  el : ∀ (i : Nat) (x : Value × Value) (y : OpS), xs[i]? = some x → l[i]? = some y → RdB w F x.1 y.key ∧ RdB w F x.2 y.val
theorem row_chgO {w w' : World} {S : Nat → Prop} {base sz n : Nat} {e : TypeId} {v : Value} {xs : List Value} (h : w.ownsRow base e sz v n xs) (hc : Chg S w w') (hS : ∀ k, v.ownBlock = some k → ¬ S k) : w'.ownsRow base e sz v n xs := by
  refine ⟨h.1, ?_⟩
  rcases h.2 with hn | ⟨g', cap, cur, rfl, hb, hg, rest⟩
  · exact .inl hn
  · exact .inr ⟨g', cap, cur, rfl, hb, hc.heap hg (hS g' rfl), rest⟩
theorem OwnO.chg {w w' : World} {S : Nat → Prop} {b : Nat} {F : Nat → Prop} {v : Value} {l : List OpS} {xs : List (Value × Value)} (h : OwnO w b F v l xs) (hc : Chg S w w') (h1 : ∀ k, v.ownBlock = some k → ¬ S k) (h2 : ∀ k, F k → ¬ S k) : OwnO w' b F v l xs :=
  ⟨h.len, row_chgO h.row hc h1, fun i x y hx hy => ⟨(h.el i x y hx hy).1.chg hc h2, (h.el i x y hx hy).2.chg hc h2⟩⟩
theorem OwnO.lt {w : World} {b : Nat} {F : Nat → Prop} {v : Value} {l : List OpS} {xs : List (Value × Value)} (h : OwnO w b F v l xs) : OwnO w b (fun k => F k ∧ k < w.heap.size) v l xs :=
  ⟨h.len, h.row, fun i x y hx hy => ⟨(h.el i x y hx hy).1.lt, (h.el i x y hx hy).2.lt⟩⟩
/-- the k-th operation: its four cells -/
theorem OwnO.at_ {w : World} {b : Nat} {F : Nat → Prop} {A : Option Addr} {n c : Nat} {l : List OpS} {xs : List (Value × Value)} (h : OwnO w b F (.slice A n c) l xs) {k : Nat} (hk : k < l.length) :
    ∃ ad p q, A = some ad ∧ (Value.slice A n c).ownBlock = some (ad.add (k * 4)).block ∧ w.cell? (ad.add (k * 4)) = some (.int .i64 l[k].kind) ∧ w.cell? ⟨(ad.add (k * 4)).block, (ad.add (k * 4)).off + 1, none⟩ = some p ∧ w.cell? ⟨(ad.add (k * 4)).block, (ad.add (k * 4)).off + 2, none⟩ = some q ∧ w.cell? ⟨(ad.add (k * 4)).block, (ad.add (k * 4)).off + 3, none⟩ = some (.int .i64 l[k].most) ∧
      w.frozen? (ad.add (k * 4)) = false ∧ w.frozen? ⟨(ad.add (k * 4)).block, (ad.add (k * 4)).off + 3, none⟩ = false ∧ RdB w F p l[k].key ∧ RdB w F q l[k].val := by
  obtain ⟨h1, hrow, h3⟩ := h
  have hkx : k < xs.length := by omega
  have hz : k < (xs.zip l).length := by rw [List.length_zip]; omega
  have hg : (xs.zip l)[k] = (xs[k], l[k]) := by rw [List.getElem_zip]
  have hc := fun i (hi : i < 4) => flat4_get (fun p : (Value × Value) × OpS => Value.int .i64 p.2.kind) (fun p => p.1.1) (fun p => p.1.2) (fun p => Value.int .i64 p.2.most) (xs.zip l) k i hz hi
  rw [hg] at hc
  obtain ⟨hrl, hor⟩ := hrow
  rcases hor with ⟨e, hn⟩ | ⟨g', cap, cur, e, hb, hgg, hcap, hmx, hsz, htk⟩
  · omega
  · injection e with e1 e2 e3
    subst e1
    have hblk : Blk w g' 85 cur := hgg
    have key : ∀ i u, i < 4 → [Value.int .i64 l[k].kind, xs[k].1, xs[k].2, Value.int .i64 l[k].most][i]? = some u → w.cell? ⟨g', k * 4 + i, none⟩ = some u := fun i u hi hu => by
      rw [hblk.cell]
      have h5 := hc i hi
      rw [show ((xs.zip l).flatMap fun p => [Value.int .i64 p.2.kind, p.1.1, p.1.2, Value.int .i64 p.2.most]) = flO xs l from rfl, ← htk, List.getElem?_take] at h5
      rw [if_pos (by omega)] at h5
      rw [← Array.getElem?_toList, h5]
      exact hu
    obtain ⟨r1, r2⟩ := h3 k xs[k] l[k] (List.getElem?_eq_getElem hkx) (List.getElem?_eq_getElem hk)
    refine ⟨⟨g', 0, none⟩, xs[k].1, xs[k].2, rfl, ?_, ?_, ?_, ?_, ?_, ?_, ?_, r1, r2⟩
    · rw [add_none]; rfl
    · rw [add_none, Nat.zero_add]; exact key 0 _ (by omega) rfl
    · rw [add_none, Nat.zero_add]; exact key 1 _ (by omega) rfl
    · rw [add_none, Nat.zero_add]; exact key 2 _ (by omega) rfl
    · rw [add_none, Nat.zero_add]; exact key 3 _ (by omega) rfl
    · rw [add_none]; exact hblk.frozen _
    · rw [add_none]; exact hblk.frozen _

set_option maxHeartbeats 16000000 in
set_option maxRecDepth 100000 in
theorem wirOps {base g b : Nat} {v vo : Value} {l : List UInt8} {a : Addr} {os : List OpS} {xs : List (Value × Value)} {F : Nat → Prop} {w : World} (h : Wir w base g v l) (ca : w.cell? a = some vo) (hna : ¬ WB g v a.block) (hO : OwnO w b F vo os xs) (hO1 : ∀ k, vo.ownBlock = some k → ¬ WB g v k) (hF : ∀ k, F k → ¬ WB g v k)
    (hwf : ∀ o ∈ os, I64 o.kind ∧ I64 o.most) (hn : os.length ≤ 1000000000) (hb : l.length + (opsB os).length + 100 ≤ 140737488355328) :
    Calls Try.prog 58 #[.pointer (some ⟨g, 0, none⟩), .pointer (some a)] w fun e w' =>
      e = .returned (.tuple #[]) ∧ ∃ v', Wir w' base g v' (l ++ (numB os.length ++ opsB os)) ∧ Chg (WB g v) w w' ∧ Grew w v v' := by
  obtain ⟨A, m, c, rfl⟩ : ∃ A m c, vo = .slice A m c := by obtain ⟨_, A, c, e, _⟩ := RdV.of_own hO.row; exact ⟨A, _, c, e⟩
  have hm : m = os.length := by obtain ⟨_, A', c', e, _⟩ := RdV.of_own hO.row; injection e
  have hmz : I64 (m : Int) := by unfold I64; omega
  have hwn : wz (m : Int) = os.length := by unfold wz; omega
  have HM := hide hm
  have HWN := hide hwn
  have HBD := hide hb
  have HWF := hide hwf
  have hbc : l.length + 9 * [(m : Int)].length ≤ 140737488355328 := by simp only [List.length_singleton]; omega
  clear hm hwn hb hwf
  go_enter Try.func58, Try.ntmps58
  go_upto_region 1 with (go_at_call 78; refine (wirCount h hmz hbc).mono ?_; rintro e w1 ⟨rfl, v1, hW1, hc1, hG1⟩)
  have hW1 : Wir w1 base g v1 (l ++ numB os.length) := by have := hW1; rw [HWN.out] at this; exact this
  have k0 := hW1.blk.cell 0
  simp at k0
  have k1 := Wir.k1 hW1
  have hO2 := hO.chg hc1 hO1 hF
  have ca2 := hc1.cell ca hna
  have hab : a.block < w.heap.size := World.block_lt_of_cell? w a ca
  have hob : ∀ k, (Value.slice A m c).ownBlock = some k → k < w.heap.size := fun k hk => (World.ownsRow.lt hO.row k hk).2
  have HW1 := hide hW1
  go_wp2_with fail
  clear k0 k1
  go_loopw [23] (fun iv wr => ∃ (k : Nat) (vv : Value), iv = .int .i64 (k : Int) ∧ k ≤ os.length ∧ Hid (Wir wr base g vv (l ++ numB os.length ++ opsB (os.take k))) ∧ Chg (WB g v) w wr ∧ Grew w v vv) (fun iv _ => os.length - (intOf iv).toNat)
  case atStart => exact ⟨0, v1, rfl, Nat.zero_le _, hide (by simpa [opsB] using HW1.out), hc1, hG1⟩
  case round =>
    obtain ⟨k, vv, rfl, hk, HW, hcw, hG⟩ := hrel
    have hm := HM.out
    by_cases hkl : k < os.length
    · have hki : (k : Int) < (m : Int) := by omega
      have h0i : (0 : Int) ≤ (k : Int) := by omega
      have h9 : k ≤ 1000000000 := by omega
      have hOr := hO.lt.chg hcw hO1 (fun k hk => hF k hk.1)
      obtain ⟨ad, p, q, rfl, hbk, c0, c1, c2, c3, f0, f3, rp, rq⟩ := hOr.at_ hkl
      obtain ⟨o, ho⟩ : ∃ o, o = os[k] := ⟨_, rfl⟩
      rw [← ho] at c0 c3 rp rq
      have hwo := HWF.out o (by rw [ho]; exact List.getElem_mem hkl)
      have htk : opsB (os.take (k + 1)) = opsB (os.take k) ++ opB o := by rw [ho]; exact opsB_take hkl
      have hle := opsB_take_le os (k + 1)
      rw [htk, List.length_append] at hle
      have HTK := hide htk
      have HLE := hide hle
      have HK := hide (And.intro hkl hm)
      clear ho htk hle hkl hk hm hOr
      have car := hcw.cell ca hna
      have hnb : ¬ WB g vv (ad.add (k * 4)).block := fun hb => hO1 _ hbk (hG.wb (hob _ hbk) hb)
      have hnF : ∀ k, F k ∧ k < w.heap.size → ¬ WB g vv k := fun k hk hb => hF k hk.1 (hG.wb hk.2 hb)
      have HNB := hide hnb
      have HNF := hide hnF
      clear hnb hnF
      obtain ⟨pt, hpt0⟩ : ∃ pt, pt = ad.add (k * 4) := ⟨_, rfl⟩
      go_upto_region 7 with fail
      rw [← hpt0] at c0 c1 c2 c3 f0 f3 HNB hbk ⊢
      have HBK := hide hbk
      clear hpt0 hbk
      have hcd : Chg Non wr wr.drew := (Chg.refl Non wr).drew
      obtain ⟨cur, hcur⟩ : ∃ cur, cur = l ++ numB os.length ++ opsB (os.take k) := ⟨_, rfl⟩
      have hW0 := HW.out
      rw [← hcur] at hW0
      have hcl : cur.length + (numsB [wz o.kind, wz o.most]).length + (flatB [o.key, o.val]).length + 40 ≤ 140737488355328 := by
        have h1 := HLE.out
        have h2 := HBD.out
        have h3 := numB_length os.length
        rw [opB, List.length_append] at h1
        rw [hcur, List.length_append, List.length_append]; omega
      have hnl := numsB_length [wz o.kind, wz o.most]
      have HCUR := hide hcur
      clear hcur
      have hWD : Wir wr.drew base g vv cur := hW0.c0 hcd
      have hpt := RdPt.lit wr.drew 133 #[.pointer (some pt), .pointer (some ⟨pt.block, pt.off + 3, none⟩)] [pt, ⟨pt.block, pt.off + 3, none⟩] 2 rfl rfl (by simp [maxLen])
      have hcM := (Chg.refl Non wr.drew).alloc (.cells #[.pointer (some pt), .pointer (some ⟨pt.block, pt.off + 3, none⟩)] 133)
      have hWA : Wir _ base g vv cur := hWD.al (.cells #[.pointer (some pt), .pointer (some ⟨pt.block, pt.off + 3, none⟩)] 133)
      have hFp : ∀ k, k = wr.drew.heap.size → ¬ WB g vv k := fun k e hb => by have := (hWD.lt k hb).2; omega
      have hcz : ∀ (i : Nat) (b : Addr) (n : Int), ([pt, ⟨pt.block, pt.off + 3, none⟩] : List Addr)[i]? = some b → [o.kind, o.most][i]? = some n → (wr.drew.alloc (.cells #[.pointer (some pt), .pointer (some ⟨pt.block, pt.off + 3, none⟩)] 133)).cell? b = some (.int .i64 n) ∧ (wr.drew.alloc (.cells #[.pointer (some pt), .pointer (some ⟨pt.block, pt.off + 3, none⟩)] 133)).frozen? b = false ∧ ¬ WB g vv b.block ∧ -9223372036854775808 ≤ n ∧ n ≤ 9223372036854775807 := by
        intro i b n h1 h2
        match i, h1, h2 with
        | 0, h1, h2 => simp at h1 h2; subst h1; subst h2; exact ⟨(hcd.trans0 hcM).cell c0 (fun h => h), (hcd.trans0 hcM).frz c0 (fun h => h) f0, HNB.out, hwo.1⟩
        | 1, h1, h2 => simp at h1 h2; subst h1; subst h2; exact ⟨(hcd.trans0 hcM).cell c3 (fun h => h), (hcd.trans0 hcM).frz c3 (fun h => h) f3, HNB.out, hwo.2⟩
        | i + 2, h1, h2 => simp at h1
      have HCZ := hide hcz
      clear hcz
      have hb2 : cur.length + 9 * [o.kind, o.most].length ≤ 140737488355328 := by simp only [List.length_cons, List.length_nil] at hnl ⊢; omega
      have HC12 := hide (And.intro c1 c2)
      clear c0 c1 c2 c3 f0 f3 car
      refine wp_region_T (fun _ => True) 99 (by kernel_rfl) ?_
      have HS := hide True.intro
      refine AnyT.take (i := 0) (v := ?_) rfl (by kernel_rfl) (by kernel_rfl) (fun _ _ _ h => h) (by kernel_rfl) (by kernel_rfl) (Or.inl ⟨by rfl, ?_⟩) HS.out ?_
      rotate_left
      · (intro w9 h9; go_simp; try with_reducible rfl)
      try simp only [getElem_toArray, getElem_cons_succ, getElem_cons_zero, Act.put, setIfInBounds_toArray, set_cons_zero, set_cons_succ]
      refine AnyT.take (i := 1) (v := ?_) rfl (by kernel_rfl) (by kernel_rfl) (fun _ _ _ h => h) (by kernel_rfl) (by kernel_rfl) (Or.inl ⟨by rfl, ?_⟩) HS.out ?_
      rotate_left
      · (intro w9 h9; go_simp; try with_reducible rfl)
      try simp only [getElem_toArray, getElem_cons_succ, getElem_cons_zero, Act.put, setIfInBounds_toArray, set_cons_zero, set_cons_succ]
      refine AnyT.take (i := 2) (v := ?_) rfl (by kernel_rfl) (by kernel_rfl) (fun _ _ _ h => h) (by kernel_rfl) (by kernel_rfl) (Or.inl ⟨by rfl, ?_⟩) HS.out ?_
      rotate_left
      · (intro w9 h9; go_simp; try with_reducible rfl)
      try simp only [getElem_toArray, getElem_cons_succ, getElem_cons_zero, Act.put, setIfInBounds_toArray, set_cons_zero, set_cons_succ]
      refine AnyT.take (i := 3) (v := ?_) rfl (by kernel_rfl) (by kernel_rfl) (fun _ _ _ h => h) (by kernel_rfl) (by kernel_rfl) (Or.inl ⟨by rfl, ?_⟩) HS.out ?_
      rotate_left
      · (intro w9 h9; go_simp; try with_reducible rfl)
      try simp only [getElem_toArray, getElem_cons_succ, getElem_cons_zero, Act.put, setIfInBounds_toArray, set_cons_zero, set_cons_succ]
      refine AnyT.take (i := 4) (v := ?_) rfl (by kernel_rfl) (by kernel_rfl) (fun _ _ _ h => h) (by kernel_rfl) (by kernel_rfl) (Or.inl ⟨by rfl, ?_⟩) HS.out ?_
      rotate_left
      · (intro w9 h9; go_simp; try with_reducible rfl)
      try simp only [getElem_toArray, getElem_cons_succ, getElem_cons_zero, Act.put, setIfInBounds_toArray, set_cons_zero, set_cons_succ]
      refine AnyT.take (i := 5) (v := ?_) rfl (by kernel_rfl) (by kernel_rfl) (fun _ _ _ h => h) (by kernel_rfl) (by kernel_rfl) (Or.inl ⟨by rfl, ?_⟩) HS.out ?_
      rotate_left
      · (intro w9 h9; go_simp; try with_reducible rfl)
      try simp only [getElem_toArray, getElem_cons_succ, getElem_cons_zero, Act.put, setIfInBounds_toArray, set_cons_zero, set_cons_succ]
      refine AnyT.take (i := 6) (v := ?_) rfl (by kernel_rfl) (by kernel_rfl) (fun _ _ _ h => h) (by kernel_rfl) (by kernel_rfl) (Or.inl ⟨by rfl, ?_⟩) HS.out ?_
      rotate_left
      · (intro w9 h9; go_simp; try with_reducible rfl)
      try simp only [getElem_toArray, getElem_cons_succ, getElem_cons_zero, Act.put, setIfInBounds_toArray, set_cons_zero, set_cons_succ]
      refine AnyT.one (i := 7) (by kernel_rfl) rfl (fun K hK => ?_)
      go_simp
      refine hK.out _ _ (fun _ => trivial) ?_
      clear hK K
      try simp only [getElem_toArray, getElem_cons_succ, getElem_cons_zero, Act.put, setIfInBounds_toArray, set_cons_zero, set_cons_succ]
      refine AnyT.one (i := 8) (by kernel_rfl) rfl (fun K hK => ?_)
      go_simp
      go_wp2_with (go_at_call 52; refine (wirWhole hWA hpt hFp rfl HCZ.out hb2).mono ?_; rintro e w2 ⟨rfl, v2, hW2, hc2, hG2⟩)
      refine hK.out _ _ (fun _ => trivial) ?_
      clear hK K
      try simp only [getElem_toArray, getElem_cons_succ, getElem_cons_zero, Act.put, setIfInBounds_toArray, set_cons_zero, set_cons_succ]
      refine AnyT.nil (by kernel_rfl) ?_
      have hcx := hcd.trans0 hcM
      have hcT := (chgX (S := WB g vv) hcx).trans hc2 fun _ _ h => h
      have hcw2 := hcw.wtr hG hcT
      have hGt := hG.trans hcw.size (hG2.low hcx.size)
      have rp2 := rp.chg hcT HNF.out
      have rq2 := rq.chg hcT HNF.out
      have c1 := hcT.cell HC12.out.1 HNB.out
      have c2 := hcT.cell HC12.out.2 HNB.out
      have HNB2 := hide (show ¬ WB g v2 pt.block from fun hb => hO1 _ HBK.out (hGt.wb (hob _ HBK.out) hb))
      have HNF2 := hide (show ∀ k, F k ∧ k < w.heap.size → ¬ WB g v2 k from fun k hk hb => hF k hk.1 (hGt.wb hk.2 hb))
      have HW2 := hide (show Wir w2 base g v2 (cur ++ numsB [wz o.kind, wz o.most]) from hW2)
      clear hW2 hc2 hG2 hcx hcT hcM hcd hWA hWD hW0 hpt hFp rp rq HNB HNF HC12 HS HCZ
      obtain ⟨P, pn, pc, rfl⟩ : ∃ A m c, p = .slice A m c := by obtain ⟨A, c, e, _⟩ := rp2.shape; exact ⟨A, _, c, e⟩
      obtain ⟨R, qn, qc, rfl⟩ : ∃ A m c, q = .slice A m c := by obtain ⟨A, c, e, _⟩ := rq2.shape; exact ⟨A, _, c, e⟩
      go_upto_region 8 with fail
      have hcd : Chg Non w2 w2.drew := (Chg.refl Non w2).drew
      have hWD : Wir w2.drew base g v2 (cur ++ numsB [wz o.kind, wz o.most]) := HW2.out.c0 hcd
      have hpt := RdPt.lit w2.drew 149 #[.pointer (some ⟨pt.block, pt.off + 1, none⟩), .pointer (some ⟨pt.block, pt.off + 2, none⟩)] [⟨pt.block, pt.off + 1, none⟩, ⟨pt.block, pt.off + 2, none⟩] 2 rfl rfl (by simp [maxLen])
      have hcM := (Chg.refl Non w2.drew).alloc (.cells #[.pointer (some ⟨pt.block, pt.off + 1, none⟩), .pointer (some ⟨pt.block, pt.off + 2, none⟩)] 149)
      have hWA : Wir _ base g v2 (cur ++ numsB [wz o.kind, wz o.most]) := hWD.al (.cells #[.pointer (some ⟨pt.block, pt.off + 1, none⟩), .pointer (some ⟨pt.block, pt.off + 2, none⟩)] 149)
      have hFp : ∀ k, k = w2.drew.heap.size → ¬ WB g v2 k := fun k e hb => by have := (hWD.lt k hb).2; omega
      have hcx := hcd.trans0 hcM
      have hcz : ∀ (i : Nat) (b : Addr) (n : List UInt8), ([⟨pt.block, pt.off + 1, none⟩, ⟨pt.block, pt.off + 2, none⟩] : List Addr)[i]? = some b → [o.key, o.val][i]? = some n → ∃ x, (w2.drew.alloc (.cells #[.pointer (some ⟨pt.block, pt.off + 1, none⟩), .pointer (some ⟨pt.block, pt.off + 2, none⟩)] 149)).cell? b = some x ∧ ¬ WB g v2 b.block ∧ RdB (w2.drew.alloc (.cells #[.pointer (some ⟨pt.block, pt.off + 1, none⟩), .pointer (some ⟨pt.block, pt.off + 2, none⟩)] 149)) (fun k => F k ∧ k < w.heap.size) x n := by
        intro i b n h1 h2
        match i, h1, h2 with
        | 0, h1, h2 => simp at h1 h2; subst h1; subst h2; exact ⟨_, hcx.cell c1 (fun h => h), HNB2.out, rp2.c0 hcx⟩
        | 1, h1, h2 => simp at h1 h2; subst h1; subst h2; exact ⟨_, hcx.cell c2 (fun h => h), HNB2.out, rq2.c0 hcx⟩
        | i + 2, h1, h2 => simp at h1
      have HCZ := hide hcz
      clear hcz c1 c2
      have hb3 : (cur ++ numsB [wz o.kind, wz o.most]).length + (flatB [o.key, o.val]).length + 9 ≤ 140737488355328 := by rw [List.length_append]; omega
      refine wp_region_T (fun _ => True) 99 (by kernel_rfl) ?_
      have HS := hide True.intro
      refine AnyT.take (i := 0) (v := ?_) rfl (by kernel_rfl) (by kernel_rfl) (fun _ _ _ h => h) (by kernel_rfl) (by kernel_rfl) (Or.inl ⟨by rfl, ?_⟩) HS.out ?_
      rotate_left
      · (intro w9 h9; go_simp; try with_reducible rfl)
      try simp only [getElem_toArray, getElem_cons_succ, getElem_cons_zero, Act.put, setIfInBounds_toArray, set_cons_zero, set_cons_succ]
      refine AnyT.take (i := 1) (v := ?_) rfl (by kernel_rfl) (by kernel_rfl) (fun _ _ _ h => h) (by kernel_rfl) (by kernel_rfl) (Or.inl ⟨by rfl, ?_⟩) HS.out ?_
      rotate_left
      · (intro w9 h9; go_simp; try with_reducible rfl)
      try simp only [getElem_toArray, getElem_cons_succ, getElem_cons_zero, Act.put, setIfInBounds_toArray, set_cons_zero, set_cons_succ]
      refine AnyT.take (i := 2) (v := ?_) rfl (by kernel_rfl) (by kernel_rfl) (fun _ _ _ h => h) (by kernel_rfl) (by kernel_rfl) (Or.inl ⟨by rfl, ?_⟩) HS.out ?_
      rotate_left
      · (intro w9 h9; go_simp; try with_reducible rfl)
      try simp only [getElem_toArray, getElem_cons_succ, getElem_cons_zero, Act.put, setIfInBounds_toArray, set_cons_zero, set_cons_succ]
      refine AnyT.take (i := 3) (v := ?_) rfl (by kernel_rfl) (by kernel_rfl) (fun _ _ _ h => h) (by kernel_rfl) (by kernel_rfl) (Or.inl ⟨by rfl, ?_⟩) HS.out ?_
      rotate_left
      · (intro w9 h9; go_simp; try with_reducible rfl)
      try simp only [getElem_toArray, getElem_cons_succ, getElem_cons_zero, Act.put, setIfInBounds_toArray, set_cons_zero, set_cons_succ]
      refine AnyT.take (i := 4) (v := ?_) rfl (by kernel_rfl) (by kernel_rfl) (fun _ _ _ h => h) (by kernel_rfl) (by kernel_rfl) (Or.inl ⟨by rfl, ?_⟩) HS.out ?_
      rotate_left
      · (intro w9 h9; go_simp; try with_reducible rfl)
      try simp only [getElem_toArray, getElem_cons_succ, getElem_cons_zero, Act.put, setIfInBounds_toArray, set_cons_zero, set_cons_succ]
      refine AnyT.take (i := 5) (v := ?_) rfl (by kernel_rfl) (by kernel_rfl) (fun _ _ _ h => h) (by kernel_rfl) (by kernel_rfl) (Or.inl ⟨by rfl, ?_⟩) HS.out ?_
      rotate_left
      · (intro w9 h9; go_simp; try with_reducible rfl)
      try simp only [getElem_toArray, getElem_cons_succ, getElem_cons_zero, Act.put, setIfInBounds_toArray, set_cons_zero, set_cons_succ]
      refine AnyT.take (i := 6) (v := ?_) rfl (by kernel_rfl) (by kernel_rfl) (fun _ _ _ h => h) (by kernel_rfl) (by kernel_rfl) (Or.inl ⟨by rfl, ?_⟩) HS.out ?_
      rotate_left
      · (intro w9 h9; go_simp; try with_reducible rfl)
      try simp only [getElem_toArray, getElem_cons_succ, getElem_cons_zero, Act.put, setIfInBounds_toArray, set_cons_zero, set_cons_succ]
      refine AnyT.one (i := 7) (by kernel_rfl) rfl (fun K hK => ?_)
      go_simp
      refine hK.out _ _ (fun _ => trivial) ?_
      clear hK K
      try simp only [getElem_toArray, getElem_cons_succ, getElem_cons_zero, Act.put, setIfInBounds_toArray, set_cons_zero, set_cons_succ]
      refine AnyT.one (i := 8) (by kernel_rfl) rfl (fun K hK => ?_)
      go_simp
      go_wp2_with (go_at_call 60; refine (wirData hWA hpt hFp rfl HCZ.out HNF2.out hb3).mono ?_; rintro e w3 ⟨rfl, v3, hW3, hc3, hG3⟩)
      refine hK.out _ _ (fun _ => trivial) ?_
      clear hK K
      try simp only [getElem_toArray, getElem_cons_succ, getElem_cons_zero, Act.put, setIfInBounds_toArray, set_cons_zero, set_cons_succ]
      refine AnyT.nil (by kernel_rfl) ?_
      have hcw3 := hcw2.wtr hGt ((chgX (S := WB g v2) hcx).trans hc3 fun _ _ h => h)
      have hGf := hGt.trans hcw2.size (hG3.low hcx.size)
      have HW3 := hide (show Wir w3 base g v3 (l ++ numB os.length ++ opsB (os.take (k + 1))) by rw [HTK.out, opB, ← List.append_assoc, ← List.append_assoc, ← HCUR.out]; exact hW3)
      clear hW3 hc3 hG3 hcx hcM hcd hWA hWD hpt hFp HS HCZ rp2 rq2
      go_wp2_with fail
      go_roundw
      case rel => exact ⟨k + 1, v3, by go_num, by have := HK.out.1; omega, HW3, hcw3, hGf⟩
      case measure => (have h := HK.out.1; have := HK.out.2; simp [intOf]; omega)
    · have hge : ¬ ((k : Int) < (m : Int)) := by omega
      have hke : k = os.length := by omega
      have HKE := hide hke
      clear hke hm hkl hk
      go_wp2_with fail
      refine bodyPost_end (results_none rfl _ _ _) rfl ⟨rfl, vv, ?_, hcw, hG⟩
      have h1 := HW.out
      rw [HKE.out, List.take_length, List.append_assoc] at h1
      exact h1
end Go.Proofs.Ytncchbcoldgpbaa

namespace Go.Proofs.Ytncchbcoldgpbaa
open Go.RowKit
set_option linter.unusedVariables false
set_option linter.unusedSimpArgs false

structure AskS where
  kind : Int
  inc : Nat
  head : Nat
  boot : Nat
  tb : Nat
  ts : Nat
  tq : Nat
  ops : List OpS
  commit : Bool
  reply : List UInt8
  id : Nat
  name : ByteArray
def askB (x : AskS) : List UInt8 := numB (wz x.kind) ++ (numsB [x.inc, x.head, x.boot, x.id] ++ (numsB [x.tb, x.ts, x.tq] ++ ((numB x.ops.length ++ opsB x.ops) ++ (flagB x.commit ++ (flatB [x.reply] ++ flatB [x.name.data.toList])))))
/-- an ask stands at the place ⟨b, i⟩ -/
structure AskAt (w : World) (b i : Nat) (F : Nat → Prop) (x : AskS) (vo vr : Value) (xs : List (Value × Value)) : Prop where
  c0 : w.cell? ⟨b, i, none⟩ = some (.int .i64 x.kind)
  c1 : w.cell? ⟨b, i + 1, none⟩ = some (.int .u64 (x.inc : Int))
  c2 : w.cell? ⟨b, i + 2, none⟩ = some (.int .u64 (x.head : Int))
  c3 : w.cell? ⟨b, i + 3, none⟩ = some (.int .u64 (x.boot : Int))
  c4 : w.cell? ⟨b, i + 4, none⟩ = some (.int .u64 (x.tb : Int))
  c5 : w.cell? ⟨b, i + 4 + 1, none⟩ = some (.int .u64 (x.ts : Int))
  c6 : w.cell? ⟨b, i + 4 + 2, none⟩ = some (.int .u64 (x.tq : Int))
  c7 : w.cell? ⟨b, i + 7, none⟩ = some vo
  c8 : w.cell? ⟨b, i + 8, none⟩ = some (.bool x.commit)
  c9 : w.cell? ⟨b, i + 9, none⟩ = some vr
  c10 : w.cell? ⟨b, i + 10, none⟩ = some (.int .u64 (x.id : Int))
  c11 : w.cell? ⟨b, i + 11, none⟩ = some (.string x.name)
  f0 : w.frozen? ⟨b, i, none⟩ = false
  f11 : w.frozen? ⟨b, i + 11, none⟩ = false
  ops : OwnO w 0 F vo x.ops xs
  reply : RdB w F vr x.reply
  kk : I64 x.kind
  u : U64 x.inc ∧ U64 x.head ∧ U64 x.boot ∧ U64 x.id ∧ U64 x.tb ∧ U64 x.ts ∧ U64 x.tq
  wf : ∀ o ∈ x.ops, I64 o.kind ∧ I64 o.most
  on : x.ops.length ≤ 1000000000
  nm : x.name.size ≤ 1000000000

set_option maxHeartbeats 16000000 in
set_option maxRecDepth 100000 in
theorem wirAsk {base g b i : Nat} {v vo vr : Value} {l : List UInt8} {x : AskS} {xs : List (Value × Value)} {F : Nat → Prop} {w : World} (h : Wir w base g v l) (hA : AskAt w b i F x vo vr xs) (hnb : ¬ WB g v b) (hO1 : ∀ k, vo.ownBlock = some k → ¬ WB g v k) (hF : ∀ k, F k → ¬ WB g v k)
    (hb : l.length + (askB x).length + 200 ≤ 140737488355328) :
    Calls Try.prog 54 #[.pointer (some ⟨g, 0, none⟩), .pointer (some ⟨b, i, none⟩)] w fun e w' =>
      e = .returned (.tuple #[]) ∧ ∃ v', Wir w' base g v' (l ++ askB x) ∧ Chg (WB g v) w w' ∧ Grew w v v' := by
  have hbl : b < w.heap.size := World.block_lt_of_cell? w _ hA.c0
  have hol : ∀ k, vo.ownBlock = some k → k < w.heap.size := fun k hk => (World.ownsRow.lt hA.ops.row k hk).2
  have hlen : (askB x).length = (numB (wz x.kind)).length + ((numsB [x.inc, x.head, x.boot, x.id]).length + ((numsB [x.tb, x.ts, x.tq]).length + (((numB x.ops.length).length + (opsB x.ops).length) + ((flagB x.commit).length + ((flatB [x.reply]).length + (flatB [x.name.data.toList]).length))))) := by simp only [askB, List.length_append]
  have hn4 := numsB_length [x.inc, x.head, x.boot, x.id]
  have hn3 := numsB_length [x.tb, x.ts, x.tq]
  have hn1 := numB_length (wz x.kind)
  have hn0 := numB_length x.ops.length
  simp only [List.length_cons, List.length_nil] at hn4 hn3
  have hfl : (flagB x.commit).length = 1 := rfl
  obtain ⟨R, rn, rc, rfl⟩ : ∃ A m c, vr = .slice A m c := by obtain ⟨A, c, e, _⟩ := hA.reply.shape; exact ⟨A, _, c, e⟩
  have hcw0 := Chg.refl (WB g v) w
  have hG0 := Grew.refl w v
  have hpt := RdPt.lit w 133 #[.pointer (some ⟨b, i, none⟩)] [⟨b, i, none⟩] 1 rfl rfl (by simp [maxLen])
  have hcL := (Chg.refl Non w).alloc (.cells #[.pointer (some ⟨b, i, none⟩)] 133)
  have hWL : Wir _ base g v l := h.al (.cells #[.pointer (some ⟨b, i, none⟩)] 133)
  have hFp : ∀ k, k = w.heap.size → ¬ WB g v k := fun k e hb => by have := (h.lt k hb).2; omega
  have hcz := whole_one (hcL.cell hA.c0 (fun h => h)) (hcL.frz hA.c0 (fun h => h) hA.f0) hnb hA.kk
  have HCZ := hide hcz
  clear hcz
  have hbd : l.length + 9 * [x.kind].length ≤ 140737488355328 := by simp only [List.length_cons, List.length_nil]; omega
  have HA := hide hA
  clear hA
  go_enter Try.func54, Try.ntmps54
  go_upto_region 1 with (go_at_call 52; refine (wirWhole hWL hpt hFp rfl HCZ.out hbd).mono ?_; rintro e w1 ⟨rfl, v1, hWx, hcx, hGx⟩)
  have hWx : Wir w1 base g v1 (l ++ numB (wz x.kind)) := by rw [← numsB_one]; exact hWx
  have hcw1 := hcw0.wtr hG0 ((chgX (S := WB g v) hcL).trans hcx fun _ _ h => h)
  have hGr1 := hG0.trans hcw0.size (hGx.low hcL.size)
  have hG1 := hGr1
  have HW1 := hide (show Wir w1 base g v1 (l ++ numB (wz x.kind)) from hWx)
  have hnb1 : ¬ WB g v1 b := fun hb => hnb (hG1.wb hbl hb)
  clear hWx hcx hGx hGr1
  clear hcL hWL hpt hFp HCZ hbd
  have hcd : Chg Non w1 w1.drew := (Chg.refl Non w1).drew
  have hWD : Wir w1.drew base g v1 (l ++ numB (wz x.kind)) := HW1.out.c0 hcd
  have hpt := RdPt.lit w1.drew 135 #[.pointer (some ⟨b, i + 1, none⟩), .pointer (some ⟨b, i + 2, none⟩), .pointer (some ⟨b, i + 3, none⟩), .pointer (some ⟨b, i + 10, none⟩)] [⟨b, i + 1, none⟩, ⟨b, i + 2, none⟩, ⟨b, i + 3, none⟩, ⟨b, i + 10, none⟩] 4 rfl rfl (by simp [maxLen])
  have hcM := (Chg.refl Non w1.drew).alloc (.cells #[.pointer (some ⟨b, i + 1, none⟩), .pointer (some ⟨b, i + 2, none⟩), .pointer (some ⟨b, i + 3, none⟩), .pointer (some ⟨b, i + 10, none⟩)] 135)
  have hWA : Wir _ base g v1 (l ++ numB (wz x.kind)) := hWD.al (.cells #[.pointer (some ⟨b, i + 1, none⟩), .pointer (some ⟨b, i + 2, none⟩), .pointer (some ⟨b, i + 3, none⟩), .pointer (some ⟨b, i + 10, none⟩)] 135)
  have hFp : ∀ k, k = w1.drew.heap.size → ¬ WB g v1 k := fun k e hb => by have := (hWD.lt k hb).2; omega
  have hcy := hcd.trans0 hcM
  have hcz : ∀ (j : Nat) (a : Addr) (n : Nat), ([⟨b, i + 1, none⟩, ⟨b, i + 2, none⟩, ⟨b, i + 3, none⟩, ⟨b, i + 10, none⟩] : List Addr)[j]? = some a → [x.inc, x.head, x.boot, x.id][j]? = some n → (w1.drew.alloc (.cells #[.pointer (some ⟨b, i + 1, none⟩), .pointer (some ⟨b, i + 2, none⟩), .pointer (some ⟨b, i + 3, none⟩), .pointer (some ⟨b, i + 10, none⟩)] 135)).cell? a = some (.int .u64 (n : Int)) ∧ ¬ WB g v1 a.block ∧ U64 n := by
    intro j a n h1 h2
    match j, h1, h2 with
    | 0, h1, h2 => simp at h1 h2; subst h1; subst h2; exact ⟨hcy.cell (hcw1.cell HA.out.c1 hnb) (fun h => h), hnb1, HA.out.u.1⟩
    | 1, h1, h2 => simp at h1 h2; subst h1; subst h2; exact ⟨hcy.cell (hcw1.cell HA.out.c2 hnb) (fun h => h), hnb1, HA.out.u.2.1⟩
    | 2, h1, h2 => simp at h1 h2; subst h1; subst h2; exact ⟨hcy.cell (hcw1.cell HA.out.c3 hnb) (fun h => h), hnb1, HA.out.u.2.2.1⟩
    | 3, h1, h2 => simp at h1 h2; subst h1; subst h2; exact ⟨hcy.cell (hcw1.cell HA.out.c10 hnb) (fun h => h), hnb1, HA.out.u.2.2.2.1⟩
    | j + 4, h1, h2 => simp at h1
  have HCZ := hide hcz
  clear hcz
  have hbd : (l ++ numB (wz x.kind)).length + 9 * [x.inc, x.head, x.boot, x.id].length ≤ 140737488355328 := by simp only [List.length_append, List.length_cons, List.length_nil]; omega
  refine wp_region_T (fun _ => True) 99 (by kernel_rfl) ?_
  have HS := hide True.intro
  refine AnyT.take (i := 0) (v := ?_) rfl (by kernel_rfl) (by kernel_rfl) (fun _ _ _ h => h) (by kernel_rfl) (by kernel_rfl) (Or.inl ⟨by rfl, ?_⟩) HS.out ?_
  rotate_left
  · (intro w9 h9; go_simp; try with_reducible rfl)
  try simp only [getElem_toArray, getElem_cons_succ, getElem_cons_zero, Act.put, setIfInBounds_toArray, set_cons_zero, set_cons_succ]
  refine AnyT.take (i := 1) (v := ?_) rfl (by kernel_rfl) (by kernel_rfl) (fun _ _ _ h => h) (by kernel_rfl) (by kernel_rfl) (Or.inl ⟨by rfl, ?_⟩) HS.out ?_
  rotate_left
  · (intro w9 h9; go_simp; try with_reducible rfl)
  try simp only [getElem_toArray, getElem_cons_succ, getElem_cons_zero, Act.put, setIfInBounds_toArray, set_cons_zero, set_cons_succ]
  refine AnyT.take (i := 2) (v := ?_) rfl (by kernel_rfl) (by kernel_rfl) (fun _ _ _ h => h) (by kernel_rfl) (by kernel_rfl) (Or.inl ⟨by rfl, ?_⟩) HS.out ?_
  rotate_left
  · (intro w9 h9; go_simp; try with_reducible rfl)
  try simp only [getElem_toArray, getElem_cons_succ, getElem_cons_zero, Act.put, setIfInBounds_toArray, set_cons_zero, set_cons_succ]
  refine AnyT.take (i := 3) (v := ?_) rfl (by kernel_rfl) (by kernel_rfl) (fun _ _ _ h => h) (by kernel_rfl) (by kernel_rfl) (Or.inl ⟨by rfl, ?_⟩) HS.out ?_
  rotate_left
  · (intro w9 h9; go_simp; try with_reducible rfl)
  try simp only [getElem_toArray, getElem_cons_succ, getElem_cons_zero, Act.put, setIfInBounds_toArray, set_cons_zero, set_cons_succ]
  refine AnyT.take (i := 4) (v := ?_) rfl (by kernel_rfl) (by kernel_rfl) (fun _ _ _ h => h) (by kernel_rfl) (by kernel_rfl) (Or.inl ⟨by rfl, ?_⟩) HS.out ?_
  rotate_left
  · (intro w9 h9; go_simp; try with_reducible rfl)
  try simp only [getElem_toArray, getElem_cons_succ, getElem_cons_zero, Act.put, setIfInBounds_toArray, set_cons_zero, set_cons_succ]
  refine AnyT.take (i := 5) (v := ?_) rfl (by kernel_rfl) (by kernel_rfl) (fun _ _ _ h => h) (by kernel_rfl) (by kernel_rfl) (Or.inl ⟨by rfl, ?_⟩) HS.out ?_
  rotate_left
  · (intro w9 h9; go_simp; try with_reducible rfl)
  try simp only [getElem_toArray, getElem_cons_succ, getElem_cons_zero, Act.put, setIfInBounds_toArray, set_cons_zero, set_cons_succ]
  refine AnyT.take (i := 6) (v := ?_) rfl (by kernel_rfl) (by kernel_rfl) (fun _ _ _ h => h) (by kernel_rfl) (by kernel_rfl) (Or.inl ⟨by rfl, ?_⟩) HS.out ?_
  rotate_left
  · (intro w9 h9; go_simp; try with_reducible rfl)
  try simp only [getElem_toArray, getElem_cons_succ, getElem_cons_zero, Act.put, setIfInBounds_toArray, set_cons_zero, set_cons_succ]
  refine AnyT.take (i := 7) (v := ?_) rfl (by kernel_rfl) (by kernel_rfl) (fun _ _ _ h => h) (by kernel_rfl) (by kernel_rfl) (Or.inl ⟨by rfl, ?_⟩) HS.out ?_
  rotate_left
  · (intro w9 h9; go_simp; try with_reducible rfl)
  try simp only [getElem_toArray, getElem_cons_succ, getElem_cons_zero, Act.put, setIfInBounds_toArray, set_cons_zero, set_cons_succ]
  refine AnyT.take (i := 8) (v := ?_) rfl (by kernel_rfl) (by kernel_rfl) (fun _ _ _ h => h) (by kernel_rfl) (by kernel_rfl) (Or.inl ⟨by rfl, ?_⟩) HS.out ?_
  rotate_left
  · (intro w9 h9; go_simp; try with_reducible rfl)
  try simp only [getElem_toArray, getElem_cons_succ, getElem_cons_zero, Act.put, setIfInBounds_toArray, set_cons_zero, set_cons_succ]
  refine AnyT.take (i := 9) (v := ?_) rfl (by kernel_rfl) (by kernel_rfl) (fun _ _ _ h => h) (by kernel_rfl) (by kernel_rfl) (Or.inl ⟨by rfl, ?_⟩) HS.out ?_
  rotate_left
  · (intro w9 h9; go_simp; try with_reducible rfl)
  try simp only [getElem_toArray, getElem_cons_succ, getElem_cons_zero, Act.put, setIfInBounds_toArray, set_cons_zero, set_cons_succ]
  refine AnyT.take (i := 10) (v := ?_) rfl (by kernel_rfl) (by kernel_rfl) (fun _ _ _ h => h) (by kernel_rfl) (by kernel_rfl) (Or.inl ⟨by rfl, ?_⟩) HS.out ?_
  rotate_left
  · (intro w9 h9; go_simp; try with_reducible rfl)
  try simp only [getElem_toArray, getElem_cons_succ, getElem_cons_zero, Act.put, setIfInBounds_toArray, set_cons_zero, set_cons_succ]
  refine AnyT.take (i := 11) (v := ?_) rfl (by kernel_rfl) (by kernel_rfl) (fun _ _ _ h => h) (by kernel_rfl) (by kernel_rfl) (Or.inl ⟨by rfl, ?_⟩) HS.out ?_
  rotate_left
  · (intro w9 h9; go_simp; try with_reducible rfl)
  try simp only [getElem_toArray, getElem_cons_succ, getElem_cons_zero, Act.put, setIfInBounds_toArray, set_cons_zero, set_cons_succ]
  refine AnyT.take (i := 12) (v := ?_) rfl (by kernel_rfl) (by kernel_rfl) (fun _ _ _ h => h) (by kernel_rfl) (by kernel_rfl) (Or.inl ⟨by rfl, ?_⟩) HS.out ?_
  rotate_left
  · (intro w9 h9; go_simp; try with_reducible rfl)
  try simp only [getElem_toArray, getElem_cons_succ, getElem_cons_zero, Act.put, setIfInBounds_toArray, set_cons_zero, set_cons_succ]
  refine AnyT.one (i := 13) (by kernel_rfl) rfl (fun K hK => ?_)
  go_simp
  refine hK.out _ _ (fun _ => trivial) ?_
  clear hK K
  try simp only [getElem_toArray, getElem_cons_succ, getElem_cons_zero, Act.put, setIfInBounds_toArray, set_cons_zero, set_cons_succ]
  refine AnyT.one (i := 14) (by kernel_rfl) rfl (fun K hK => ?_)
  go_simp
  go_wp2_with (go_at_call 53; refine (wirNum (G := Non) hWA hpt hFp rfl HCZ.out hbd).mono ?_; rintro e w2 ⟨rfl, v2, hWx, hcx, hGx⟩)
  refine hK.out _ _ (fun _ => trivial) ?_
  clear hK K
  try simp only [getElem_toArray, getElem_cons_succ, getElem_cons_zero, Act.put, setIfInBounds_toArray, set_cons_zero, set_cons_succ]
  refine AnyT.nil (by kernel_rfl) ?_
  have hcw2 := hcw1.wtr hG1 ((chgX (S := WB g v1) hcy).trans hcx fun _ _ h => h)
  have hGr2 := hG1.trans hcw1.size (hGx.low hcy.size)
  have hG2 := hGr2
  have HW2 := hide (show Wir w2 base g v2 ((l ++ numB (wz x.kind)) ++ numsB [x.inc, x.head, x.boot, x.id]) from hWx)
  have hnb2 : ¬ WB g v2 b := fun hb => hnb (hG2.wb hbl hb)
  clear hWx hcx hGx hGr2
  clear hcd hWD hpt hcM hWA hFp hcy HCZ hbd HS HW1 hcw1 hG1 hnb1
  have hbd : ((l ++ numB (wz x.kind)) ++ numsB [x.inc, x.head, x.boot, x.id]).length + 9 * [x.tb, x.ts, x.tq].length ≤ 140737488355328 := by simp only [List.length_append, List.length_cons, List.length_nil]; omega
  go_upto_region 3 with (go_at_call 56; refine (wirTxn HW2.out (hcw2.cell HA.out.c4 hnb) (hcw2.cell HA.out.c5 hnb) (hcw2.cell HA.out.c6 hnb) HA.out.u.2.2.2.2.1 HA.out.u.2.2.2.2.2.1 HA.out.u.2.2.2.2.2.2 hnb2 hbd).mono ?_; rintro e w3 ⟨rfl, v3, hWx, hcx, hGx⟩)
  have hcw3 := hcw2.wtr hG2 (hcx)
  have hGr3 := hG2.trans hcw2.size (hGx.low (Nat.le_refl _))
  have hG3 := hGr3
  have HW3 := hide (show Wir w3 base g v3 ((l ++ numB (wz x.kind)) ++ numsB [x.inc, x.head, x.boot, x.id] ++ numsB [x.tb, x.ts, x.tq]) from hWx)
  have hnb3 : ¬ WB g v3 b := fun hb => hnb (hG3.wb hbl hb)
  clear hWx hcx hGx hGr3
  clear hbd HW2
  have hbd : ((l ++ numB (wz x.kind)) ++ numsB [x.inc, x.head, x.boot, x.id] ++ numsB [x.tb, x.ts, x.tq]).length + (opsB x.ops).length + 100 ≤ 140737488355328 := by simp only [List.length_append]; omega
  have hO3 := HA.out.ops.lt.chg hcw3 hO1 (fun k hk => hF k hk.1)
  go_upto_region 4 with (go_at_call 58; refine (wirOps HW3.out (hcw3.cell HA.out.c7 hnb) hnb3 hO3 (fun k hk hb => hO1 k hk (hG3.wb (hol k hk) hb)) (fun k hk hb => hF k hk.1 (hG3.wb hk.2 hb)) HA.out.wf HA.out.on hbd).mono ?_; rintro e w4 ⟨rfl, v4, hWx, hcx, hGx⟩)
  have hcw4 := hcw3.wtr hG3 (hcx)
  have hGr4 := hG3.trans hcw3.size (hGx.low (Nat.le_refl _))
  have hG4 := hGr4
  have HW4 := hide (show Wir w4 base g v4 ((l ++ numB (wz x.kind)) ++ numsB [x.inc, x.head, x.boot, x.id] ++ numsB [x.tb, x.ts, x.tq] ++ (numB x.ops.length ++ opsB x.ops)) from hWx)
  have hnb4 : ¬ WB g v4 b := fun hb => hnb (hG4.wb hbl hb)
  clear hWx hcx hGx hGr4
  clear hbd HW3 hO3
  have hbd : ((l ++ numB (wz x.kind)) ++ numsB [x.inc, x.head, x.boot, x.id] ++ numsB [x.tb, x.ts, x.tq] ++ (numB x.ops.length ++ opsB x.ops)).length + 1 ≤ 140737488355328 := by simp only [List.length_append]; omega
  go_upto_region 5 with (go_at_call 76; refine (wirFlag HW4.out (hcw4.cell HA.out.c8 hnb) hnb4 hbd).mono ?_; rintro e w5 ⟨rfl, v5, hWx, hcx, hGx⟩)
  have hcw5 := hcw4.wtr hG4 (hcx)
  have hGr5 := hG4.trans hcw4.size (hGx.low (Nat.le_refl _))
  have hG5 := hGr5
  have HW5 := hide (show Wir w5 base g v5 ((l ++ numB (wz x.kind)) ++ numsB [x.inc, x.head, x.boot, x.id] ++ numsB [x.tb, x.ts, x.tq] ++ (numB x.ops.length ++ opsB x.ops) ++ flagB x.commit) from hWx)
  have hnb5 : ¬ WB g v5 b := fun hb => hnb (hG5.wb hbl hb)
  clear hWx hcx hGx hGr5
  clear hbd HW4
  have hpt := RdPt.lit w5 149 #[.pointer (some ⟨b, i + 9, none⟩)] [⟨b, i + 9, none⟩] 1 rfl rfl (by simp [maxLen])
  have hcL := (Chg.refl Non w5).alloc (.cells #[.pointer (some ⟨b, i + 9, none⟩)] 149)
  have hWL : Wir _ base g v5 ((l ++ numB (wz x.kind)) ++ numsB [x.inc, x.head, x.boot, x.id] ++ numsB [x.tb, x.ts, x.tq] ++ (numB x.ops.length ++ opsB x.ops) ++ flagB x.commit) := HW5.out.al (.cells #[.pointer (some ⟨b, i + 9, none⟩)] 149)
  have hFp : ∀ k, k = w5.heap.size → ¬ WB g v5 k := fun k e hb => by have := (HW5.out.lt k hb).2; omega
  have hrp := HA.out.reply.lt.chg hcw5 (fun k hk => hF k hk.1)
  have hcz : ∀ (j : Nat) (a : Addr) (n : List UInt8), ([⟨b, i + 9, none⟩] : List Addr)[j]? = some a → [x.reply][j]? = some n → ∃ u, (w5.alloc (.cells #[.pointer (some ⟨b, i + 9, none⟩)] 149)).cell? a = some u ∧ ¬ WB g v5 a.block ∧ RdB (w5.alloc (.cells #[.pointer (some ⟨b, i + 9, none⟩)] 149)) (fun k => F k ∧ k < w.heap.size) u n := by
    intro j a n h1 h2
    match j, h1, h2 with
    | 0, h1, h2 => simp at h1 h2; subst h1; subst h2; exact ⟨_, hcL.cell (hcw5.cell HA.out.c9 hnb) (fun h => h), hnb5, hrp.c0 hcL⟩
    | j + 1, h1, h2 => simp at h1
  have HCZ := hide hcz
  clear hcz
  have hbd : ((l ++ numB (wz x.kind)) ++ numsB [x.inc, x.head, x.boot, x.id] ++ numsB [x.tb, x.ts, x.tq] ++ (numB x.ops.length ++ opsB x.ops) ++ flagB x.commit).length + (flatB [x.reply]).length + 9 ≤ 140737488355328 := by simp only [List.length_append]; omega
  go_upto_region 6 with (go_at_call 60; refine (wirData hWL hpt hFp rfl HCZ.out (fun k hk hb => hF k hk.1 (hG5.wb hk.2 hb)) hbd).mono ?_; rintro e w6 ⟨rfl, v6, hWx, hcx, hGx⟩)
  have hcw6 := hcw5.wtr hG5 ((chgX (S := WB g v5) hcL).trans hcx fun _ _ h => h)
  have hGr6 := hG5.trans hcw5.size (hGx.low hcL.size)
  have hG6 := hGr6
  have HW6 := hide (show Wir w6 base g v6 ((l ++ numB (wz x.kind)) ++ numsB [x.inc, x.head, x.boot, x.id] ++ numsB [x.tb, x.ts, x.tq] ++ (numB x.ops.length ++ opsB x.ops) ++ flagB x.commit ++ flatB [x.reply]) from hWx)
  have hnb6 : ¬ WB g v6 b := fun hb => hnb (hG6.wb hbl hb)
  clear hWx hcx hGx hGr6
  clear hpt hcL hWL hFp hrp HCZ hbd HW5
  have hbd : ((l ++ numB (wz x.kind)) ++ numsB [x.inc, x.head, x.boot, x.id] ++ numsB [x.tb, x.ts, x.tq] ++ (numB x.ops.length ++ opsB x.ops) ++ flagB x.commit ++ flatB [x.reply]).length + (flatB [x.name.data.toList]).length + 9 ≤ 140737488355328 := by simp only [List.length_append]; omega
  go_wp2_with (go_at_call 57; refine (wirText HW6.out (hcw6.cell HA.out.c11 hnb) (hcw6.frz HA.out.c11 hnb HA.out.f11) hnb6 HA.out.nm hbd).mono ?_; rintro e w7 ⟨rfl, v7, hWx, hcx, hGx⟩)
  have hcw7 := hcw6.wtr hG6 hcx
  have hG7 := hG6.trans hcw6.size hGx
  refine bodyPost_end (results_none rfl _ _ _) rfl ⟨rfl, v7, ?_, hcw7, hG7⟩
  have he : l ++ askB x = ((l ++ numB (wz x.kind)) ++ numsB [x.inc, x.head, x.boot, x.id] ++ numsB [x.tb, x.ts, x.tq] ++ (numB x.ops.length ++ opsB x.ops) ++ flagB x.commit ++ flatB [x.reply]) ++ flatB [x.name.data.toList] := by simp only [askB, List.append_assoc]
  rw [he]; exact hWx
end Go.Proofs.Ytncchbcoldgpbaa

namespace Go.Proofs.Ytncchbcoldgpbaa
open Go.RowKit
set_option linter.unusedVariables false
set_option linter.unusedSimpArgs false

abbrev PairL := List UInt8 × List UInt8
def pairB (p : PairL) : List UInt8 := flatB [p.1, p.2]
def rowB (r : List PairL) : List UInt8 := r.flatMap pairB
def rowsB (rs : List (List PairL)) : List UInt8 := rs.flatMap fun r => numB r.length ++ rowB r
theorem rowB_take {r : List PairL} {k : Nat} (h : k < r.length) : rowB (r.take (k + 1)) = rowB (r.take k) ++ pairB r[k] := by
  unfold rowB; rw [List.take_succ_eq_append_getElem h, List.flatMap_append, List.flatMap_cons, List.flatMap_nil, List.append_nil]
theorem rowB_take_le (r : List PairL) (k : Nat) : (rowB (r.take k)).length ≤ (rowB r).length := by
  have h : rowB r = rowB (r.take k) ++ rowB (r.drop k) := by unfold rowB; rw [← List.flatMap_append, List.take_append_drop]
  rw [h, List.length_append]; omega
theorem rowsB_take {rs : List (List PairL)} {k : Nat} (h : k < rs.length) : rowsB (rs.take (k + 1)) = rowsB (rs.take k) ++ (numB rs[k].length ++ rowB rs[k]) := by
  unfold rowsB; rw [List.take_succ_eq_append_getElem h, List.flatMap_append, List.flatMap_cons, List.flatMap_nil, List.append_nil]
theorem rowsB_take_le (rs : List (List PairL)) (k : Nat) : (rowsB (rs.take k)).length ≤ (rowsB rs).length := by
  have h : rowsB rs = rowsB (rs.take k) ++ rowsB (rs.drop k) := by unfold rowsB; rw [← List.flatMap_append, List.take_append_drop]
  rw [h, List.length_append]; omega
theorem flat2_get {α : Type} (f0 f1 : α → Value) : ∀ (l : List α) (k i : Nat) (h : k < l.length), i < 2 → (l.flatMap fun p => [f0 p, f1 p])[k * 2 + i]? = [f0 l[k], f1 l[k]][i]?
  | a :: l, 0, i, _, hi => by
    rw [Nat.zero_mul, Nat.zero_add, List.flatMap_cons, List.getElem?_append_left (by simpa using hi)]
    rfl
  | a :: l, k + 1, i, h, hi => by
    rw [List.flatMap_cons, show (k + 1) * 2 + i = (k * 2 + i) + 2 by omega, List.getElem?_append_right (by simp)]
    simp only [List.length_cons, List.length_nil, Nat.zero_add, Nat.add_sub_cancel]
    rw [flat2_get f0 f1 l k i (by simpa using h) hi]
    rfl
/-- a row of pairs -/
def RdRow (w : World) (F : Nat → Prop) (v : Value) (r : List PairL) : Prop :=
  ∃ xs : List (Value × Value), xs.length = r.length ∧ RdV w F 2 v r.length (xs.flatMap fun p => [p.1, p.2]) ∧ ∀ (i : Nat) (x : Value × Value) (y : PairL), xs[i]? = some x → r[i]? = some y → RdB w F x.1 y.1 ∧ RdB w F x.2 y.2
theorem RdRow.chg {w w' : World} {F S : Nat → Prop} {v : Value} {r : List PairL} (h : RdRow w F v r) (hc : Chg S w w') (hF : ∀ k, F k → ¬ S k) : RdRow w' F v r := by
  obtain ⟨xs, h1, h2, h3⟩ := h
  exact ⟨xs, h1, h2.chg hc hF, fun i x y hx hy => ⟨(h3 i x y hx hy).1.chg hc hF, (h3 i x y hx hy).2.chg hc hF⟩⟩
theorem RdRow.sl {w : World} {F : Nat → Prop} {v : Value} {r : List PairL} (h : RdRow w F v r) : ∃ A c, v = .slice A r.length c := by
  obtain ⟨xs, h1, ⟨_, A, c, e, _⟩, h3⟩ := h
  exact ⟨A, c, e⟩
theorem RdRow.at_ {w : World} {F : Nat → Prop} {A : Option Addr} {n c : Nat} {r : List PairL} (h : RdRow w F (.slice A n c) r) {k : Nat} (hk : k < r.length) :
    ∃ ad p q, A = some ad ∧ F ad.block ∧ w.cell? (ad.add (k * 2)) = some p ∧ w.cell? ⟨(ad.add (k * 2)).block, (ad.add (k * 2)).off + 1, none⟩ = some q ∧ RdB w F p r[k].1 ∧ RdB w F q r[k].2 := by
  obtain ⟨xs, h1, ⟨h2, A', c', e, _, _, h4⟩, h3⟩ := h
  injection e with e1 e2 e3
  subst e1
  obtain ⟨ad, e, hF, hc⟩ := h4 (by omega)
  have hkx : k < xs.length := by omega
  obtain ⟨r1, r2⟩ := h3 k xs[k] r[k] (List.getElem?_eq_getElem hkx) (List.getElem?_eq_getElem hk)
  refine ⟨ad, xs[k].1, xs[k].2, e, hF, ?_, ?_, r1, r2⟩
  · exact hc (k * 2 + 0) _ (by rw [flat2_get (fun p : Value × Value => p.1) (fun p => p.2) xs k 0 hkx (by omega)]; rfl)
  · rw [← add_succ ad (k * 2) 1 (by omega)]
    exact hc (k * 2 + 1) _ (by rw [flat2_get (fun p : Value × Value => p.1) (fun p => p.2) xs k 1 hkx (by omega)]; rfl)
/-- rows of pairs -/
def RdRows (w : World) (F : Nat → Prop) (v : Value) (rs : List (List PairL)) : Prop :=
  ∃ vs : List Value, vs.length = rs.length ∧ RdV w F 1 v rs.length vs ∧ ∀ (i : Nat) (x : Value) (r : List PairL), vs[i]? = some x → rs[i]? = some r → RdRow w F x r
theorem RdRows.at_ {w : World} {F : Nat → Prop} {A : Option Addr} {n c : Nat} {rs : List (List PairL)} (h : RdRows w F (.slice A n c) rs) {k : Nat} (hk : k < rs.length) : ∃ ad u, A = some ad ∧ F ad.block ∧ w.cell? (ad.add k) = some u ∧ RdRow w F u rs[k] := by
  obtain ⟨vs, h1, ⟨h2, A', c', e, _, _, h4⟩, h3⟩ := h
  injection e with e1 e2 e3
  subst e1
  obtain ⟨ad, e, hF, hc⟩ := h4 (by omega)
  have hkv : k < vs.length := by omega
  exact ⟨ad, vs[k], e, hF, hc k _ (List.getElem?_eq_getElem hkv), h3 k _ _ (List.getElem?_eq_getElem hkv) (List.getElem?_eq_getElem hk)⟩

set_option maxHeartbeats 16000000 in
set_option maxRecDepth 100000 in
theorem wirRows {base g : Nat} {v vo : Value} {l : List UInt8} {a : Addr} {rs : List (List PairL)} {F : Nat → Prop} {w : World} (h : Wir w base g v l) (ca : w.cell? a = some vo) (hna : ¬ WB g v a.block) (hR : RdRows w F vo rs) (hF : ∀ k, F k → ¬ WB g v k) (hFl : ∀ k, F k → k < w.heap.size)
    (hn : rs.length ≤ 1000000000) (hnr : ∀ r ∈ rs, r.length ≤ 1000000000) (hb : l.length + (rowsB rs).length + 100 ≤ 140737488355328) :
    Calls Try.prog 92 #[.pointer (some ⟨g, 0, none⟩), .pointer (some a)] w fun e w' =>
      e = .returned (.tuple #[]) ∧ ∃ v', Wir w' base g v' (l ++ (numB rs.length ++ rowsB rs)) ∧ Chg (WB g v) w w' ∧ Grew w v v' := by
  obtain ⟨A, m, c, rfl⟩ : ∃ A m c, vo = .slice A m c := by obtain ⟨_, _, ⟨_, A, c, e, _⟩, _⟩ := hR; exact ⟨A, _, c, e⟩
  have hm : m = rs.length := by obtain ⟨_, _, ⟨_, A', c', e, _⟩, _⟩ := hR; injection e
  have hmz : I64 (m : Int) := by unfold I64; omega
  have hwn : wz (m : Int) = rs.length := by unfold wz; omega
  have HM := hide hm
  have HWN := hide hwn
  have HBD := hide hb
  have HNR := hide hnr
  have hbc : l.length + 9 * [(m : Int)].length ≤ 140737488355328 := by simp only [List.length_singleton]; omega
  clear hm hwn hb hnr
  go_enter Try.func92, Try.ntmps92
  go_upto_region 1 with (go_at_call 78; refine (wirCount h hmz hbc).mono ?_; rintro e w1 ⟨rfl, v1, hW1, hc1, hG1⟩)
  have hW1 : Wir w1 base g v1 (l ++ numB rs.length) := by have := hW1; rw [HWN.out] at this; exact this
  have k0 := hW1.blk.cell 0
  simp at k0
  have k1 := Wir.k1 hW1
  have ca2 := hc1.cell ca hna
  have HW1 := hide hW1
  go_wp2_with fail
  clear k0 k1
  go_loopw [25] (fun iv wr => ∃ (k : Nat) (vv : Value), iv = .int .i64 (k : Int) ∧ k ≤ rs.length ∧ Hid (Wir wr base g vv (l ++ numB rs.length ++ rowsB (rs.take k))) ∧ Chg (WB g v) w wr ∧ Grew w v vv) (fun iv _ => rs.length - (intOf iv).toNat)
  case atStart => exact ⟨0, v1, rfl, Nat.zero_le _, hide (by simpa [rowsB] using HW1.out), hc1, hG1⟩
  case round =>
    obtain ⟨k, vv, rfl, hk, HW, hcw, hG⟩ := hrel
    have hm := HM.out
    by_cases hkl : k < rs.length
    · have hki : (k : Int) < (m : Int) := by omega
      have h0i : (0 : Int) ≤ (k : Int) := by omega
      have h9 : k ≤ 1000000000 := by omega
      obtain ⟨ad, u, rfl, hFb, cu, hrr⟩ := hR.at_ hkl
      obtain ⟨row, hrow⟩ : ∃ row, row = rs[k] := ⟨_, rfl⟩
      rw [← hrow] at hrr
      have hrl : row.length ≤ 1000000000 := HNR.out row (by rw [hrow]; exact List.getElem_mem hkl)
      have htk : rowsB (rs.take (k + 1)) = rowsB (rs.take k) ++ (numB row.length ++ rowB row) := by rw [hrow]; exact rowsB_take hkl
      have hle := rowsB_take_le rs (k + 1)
      rw [htk, List.length_append, List.length_append] at hle
      obtain ⟨U, uc, rfl⟩ := hrr.sl
      obtain ⟨un, hun⟩ : ∃ n, n = row.length := ⟨_, rfl⟩
      rw [← hun] at cu hrr
      have HUN := hide hun
      have huz : I64 (un : Int) := by unfold I64; omega
      have hwu : wz (un : Int) = row.length := by unfold wz; omega
      have HWU := hide hwu
      have HTK := hide htk
      have HLE := hide hle
      have HK := hide (And.intro hkl hm)
      clear hrow htk hle hkl hk hm hun hwu
      have car := hcw.cell ca hna
      obtain ⟨pt, hpt0⟩ : ∃ pt, pt = ad.add k := ⟨_, rfl⟩
      have hbk : pt.block = ad.block := by rw [hpt0, block_of_add]
      have hpF : F pt.block := by rw [hbk]; exact hFb
      go_upto_region 7 with fail
      rw [← hpt0] at cu ⊢
      clear hpt0 hbk hFb
      have cur1 := hcw.cell cu (hF _ hpF)
      obtain ⟨cur, hcur⟩ : ∃ cur, cur = l ++ numB rs.length ++ rowsB (rs.take k) := ⟨_, rfl⟩
      have hW0 := HW.out
      rw [← hcur] at hW0
      have hcl : cur.length + (numB row.length).length + (rowB row).length + 80 ≤ 140737488355328 := by
        have h1 := HLE.out
        have h2 := HBD.out
        have h3 := numB_length rs.length
        rw [hcur, List.length_append, List.length_append]; omega
      have HCUR := hide hcur
      clear hcur
      have hbc2 : cur.length + 9 * [(un : Int)].length ≤ 140737488355328 := by simp only [List.length_singleton]; omega
      go_upto_region 8 with (go_at_call 78; refine (wirCount hW0 huz hbc2).mono ?_; rintro e w3 ⟨rfl, v3, hW3, hc3, hG3⟩)
      have hW3 : Wir w3 base g v3 (cur ++ numB row.length) := by have := hW3; rw [HWU.out] at this; exact this
      have k0 := hW3.blk.cell 0
      simp at k0
      have k1 := Wir.k1 hW3
      have hcw3 := hcw.wtr hG hc3
      have hGr3 := hG.trans hcw.size hG3
      have HW3 := hide hW3
      clear hW3 hc3 hG3 hW0 hbc2
      go_wp2_with fail
      clear k0 k1
      go_loopw [49] (fun jv wq => ∃ (j : Nat) (vq : Value), jv = .int .i64 (j : Int) ∧ j ≤ row.length ∧ Hid (Wir wq base g vq (cur ++ numB row.length ++ rowB (row.take j))) ∧ Chg (WB g v) w wq ∧ Grew w v vq) (fun jv _ => row.length - (intOf jv).toNat)
      case atStart => exact ⟨0, v3, rfl, Nat.zero_le _, hide (by simpa [rowB] using HW3.out), hcw3, hGr3⟩
      case round =>
        obtain ⟨j, vq, rfl, hj, HWQ, hcq, hGq⟩ := hrel
        have hun := HUN.out
        by_cases hjl : j < row.length
        · have hji : (j : Int) < (un : Int) := by omega
          have h0j : (0 : Int) ≤ (j : Int) := by omega
          have h9j : j ≤ 1000000000 := by omega
          have hrq := hrr.chg hcq hF
          obtain ⟨ud, p, q, rfl, hFu, c0, c1, rp, rq⟩ := hrq.at_ hjl
          obtain ⟨o, ho⟩ : ∃ o, o = row[j] := ⟨_, rfl⟩
          rw [← ho] at rp rq
          have htk2 : rowB (row.take (j + 1)) = rowB (row.take j) ++ pairB o := by rw [ho]; exact rowB_take hjl
          have hle2 := rowB_take_le row (j + 1)
          rw [htk2, List.length_append] at hle2
          have HTK2 := hide htk2
          have HJ := hide (And.intro hjl hun)
          have hcl2 : (cur ++ numB row.length ++ rowB (row.take j)).length + (flatB [o.1, o.2]).length + 9 ≤ 140737488355328 := by rw [List.length_append, List.length_append]; unfold pairB at hle2; omega
          clear ho htk2 hle2 hjl hj hun hrq
          obtain ⟨P, pn, pc, rfl⟩ : ∃ A m c, p = .slice A m c := by obtain ⟨A, c, e, _⟩ := rp.shape; exact ⟨A, _, c, e⟩
          obtain ⟨Q, qn, qc, rfl⟩ : ∃ A m c, q = .slice A m c := by obtain ⟨A, c, e, _⟩ := rq.shape; exact ⟨A, _, c, e⟩
          obtain ⟨pu, hpu⟩ : ∃ pu, pu = ud.add (j * 2) := ⟨_, rfl⟩
          have hpuF : F pu.block := by rw [hpu, block_of_add]; exact hFu
          have hqF : ∀ k, F k → ¬ WB g vq k := fun k hk hb => hF k hk (hGq.wb (hFl k hk) hb)
          have HQF := hide hqF
          clear hqF
          have cup := hcq.cell cu (hF _ hpF)
          go_upto_region 13 with fail
          have hcd : Chg Non wr wr.drew := (Chg.refl Non wr).drew
          have hWD : Wir wr.drew base g vq (cur ++ numB row.length ++ rowB (row.take j)) := HWQ.out.c0 hcd
          rw [← hpu] at c0 c1
          have hpt := RdPt.lit wr.drew 149 #[.pointer (some pu), .pointer (some ⟨pu.block, pu.off + 1, none⟩)] [pu, ⟨pu.block, pu.off + 1, none⟩] 2 rfl rfl (by simp [maxLen])
          have hcM := (Chg.refl Non wr.drew).alloc (.cells #[.pointer (some pu), .pointer (some ⟨pu.block, pu.off + 1, none⟩)] 149)
          have hWA : Wir _ base g vq (cur ++ numB row.length ++ rowB (row.take j)) := hWD.al (.cells #[.pointer (some pu), .pointer (some ⟨pu.block, pu.off + 1, none⟩)] 149)
          have hFp : ∀ k, k = wr.drew.heap.size → ¬ WB g vq k := fun k e hb => by have := (hWD.lt k hb).2; omega
          have hcx := hcd.trans0 hcM
          have hcz : ∀ (i : Nat) (b : Addr) (n : List UInt8), ([pu, ⟨pu.block, pu.off + 1, none⟩] : List Addr)[i]? = some b → [o.1, o.2][i]? = some n → ∃ x, (wr.drew.alloc (.cells #[.pointer (some pu), .pointer (some ⟨pu.block, pu.off + 1, none⟩)] 149)).cell? b = some x ∧ ¬ WB g vq b.block ∧ RdB (wr.drew.alloc (.cells #[.pointer (some pu), .pointer (some ⟨pu.block, pu.off + 1, none⟩)] 149)) F x n := by
            intro i b n h1 h2
            match i, h1, h2 with
            | 0, h1, h2 => simp at h1 h2; subst h1; subst h2; exact ⟨_, hcx.cell c0 (fun h => h), HQF.out _ hpuF, rp.c0 hcx⟩
            | 1, h1, h2 => simp at h1 h2; subst h1; subst h2; exact ⟨_, hcx.cell c1 (fun h => h), HQF.out _ hpuF, rq.c0 hcx⟩
            | i + 2, h1, h2 => simp at h1
          have HCZ := hide hcz
          clear hcz c0 c1
          obtain ⟨S, hSd⟩ : ∃ S : World → Prop, ∀ w', S w' ↔ w'.cell? pt = some (.slice (some ud) un uc) := ⟨_, fun _ => Iff.rfl⟩
          have HSd := hide hSd
          have HS := hide ((hSd wr.drew).2 (hcd.cell cup (fun h => h)))
          clear hSd
          have HPU := hide hpu
          clear hpu
          refine wp_region_T S 99 (by kernel_rfl) ?_
          refine AnyT.take (i := 0) (v := ?_) rfl (by kernel_rfl) (by kernel_rfl) (fun _ _ _ h => h) (by kernel_rfl) (by kernel_rfl) (Or.inl ⟨by rfl, ?_⟩) HS.out ?_
          rotate_left
          · (intro w9 h9; go_simp; try with_reducible rfl)
          try simp only [getElem_toArray, getElem_cons_succ, getElem_cons_zero, Act.put, setIfInBounds_toArray, set_cons_zero, set_cons_succ]
          refine AnyT.take (i := 1) (v := ?_) rfl (by kernel_rfl) (by kernel_rfl) (fun _ _ _ h => h) (by kernel_rfl) (by kernel_rfl) (Or.inl ⟨by rfl, ?_⟩) HS.out ?_
          rotate_left
          · (intro w9 h9; go_simp; try with_reducible rfl)
          try simp only [getElem_toArray, getElem_cons_succ, getElem_cons_zero, Act.put, setIfInBounds_toArray, set_cons_zero, set_cons_succ]
          refine AnyT.take (i := 2) (v := ?_) rfl (by kernel_rfl) (by kernel_rfl) (fun _ _ _ h => h) (by kernel_rfl) (by kernel_rfl) (Or.inl ⟨by rfl, ?_⟩) HS.out ?_
          rotate_left
          · (intro w9 h9; go_simp; try with_reducible rfl)
          try simp only [getElem_toArray, getElem_cons_succ, getElem_cons_zero, Act.put, setIfInBounds_toArray, set_cons_zero, set_cons_succ]
          refine AnyT.take (i := 3) (v := ?_) rfl (by kernel_rfl) (by kernel_rfl) (fun _ _ _ h => h) (by kernel_rfl) (by kernel_rfl) (Or.inl ⟨by rfl, ?_⟩) HS.out ?_
          rotate_left
          · (intro w9 h9; have y0 := (HSd.out _).1 h9; go_simp; try with_reducible rfl)
          try simp only [getElem_toArray, getElem_cons_succ, getElem_cons_zero, Act.put, setIfInBounds_toArray, set_cons_zero, set_cons_succ]
          refine AnyT.take (i := 4) (v := ?_) rfl (by kernel_rfl) (by kernel_rfl) (fun _ _ _ h => h) (by kernel_rfl) (by kernel_rfl) (Or.inl ⟨by rfl, ?_⟩) HS.out ?_
          rotate_left
          · (intro w9 h9; go_simp; try with_reducible rfl)
          try simp only [getElem_toArray, getElem_cons_succ, getElem_cons_zero, Act.put, setIfInBounds_toArray, set_cons_zero, set_cons_succ]
          refine AnyT.take (i := 5) (v := ?_) rfl (by kernel_rfl) (by kernel_rfl) (fun _ _ _ h => h) (by kernel_rfl) (by kernel_rfl) (Or.inl ⟨by rfl, ?_⟩) HS.out ?_
          rotate_left
          · (intro w9 h9; go_simp; try with_reducible rfl)
          try simp only [getElem_toArray, getElem_cons_succ, getElem_cons_zero, Act.put, setIfInBounds_toArray, set_cons_zero, set_cons_succ]
          refine AnyT.take (i := 6) (v := ?_) rfl (by kernel_rfl) (by kernel_rfl) (fun _ _ _ h => h) (by kernel_rfl) (by kernel_rfl) (Or.inl ⟨by rfl, ?_⟩) HS.out ?_
          rotate_left
          · (intro w9 h9; go_simp; try with_reducible rfl)
          try simp only [getElem_toArray, getElem_cons_succ, getElem_cons_zero, Act.put, setIfInBounds_toArray, set_cons_zero, set_cons_succ]
          refine AnyT.take (i := 7) (v := ?_) rfl (by kernel_rfl) (by kernel_rfl) (fun _ _ _ h => h) (by kernel_rfl) (by kernel_rfl) (Or.inl ⟨by rfl, ?_⟩) HS.out ?_
          rotate_left
          · (intro w9 h9; go_simp; try with_reducible rfl)
          try simp only [getElem_toArray, getElem_cons_succ, getElem_cons_zero, Act.put, setIfInBounds_toArray, set_cons_zero, set_cons_succ]
          refine AnyT.take (i := 8) (v := ?_) rfl (by kernel_rfl) (by kernel_rfl) (fun _ _ _ h => h) (by kernel_rfl) (by kernel_rfl) (Or.inl ⟨by rfl, ?_⟩) HS.out ?_
          rotate_left
          · (intro w9 h9; go_simp; try with_reducible rfl)
          try simp only [getElem_toArray, getElem_cons_succ, getElem_cons_zero, Act.put, setIfInBounds_toArray, set_cons_zero, set_cons_succ]
          refine AnyT.take (i := 9) (v := ?_) rfl (by kernel_rfl) (by kernel_rfl) (fun _ _ _ h => h) (by kernel_rfl) (by kernel_rfl) (Or.inl ⟨by rfl, ?_⟩) HS.out ?_
          rotate_left
          · (intro w9 h9; have y0 := (HSd.out _).1 h9; go_simp; try with_reducible rfl)
          try simp only [getElem_toArray, getElem_cons_succ, getElem_cons_zero, Act.put, setIfInBounds_toArray, set_cons_zero, set_cons_succ]
          refine AnyT.take (i := 10) (v := ?_) rfl (by kernel_rfl) (by kernel_rfl) (fun _ _ _ h => h) (by kernel_rfl) (by kernel_rfl) (Or.inl ⟨by rfl, ?_⟩) HS.out ?_
          rotate_left
          · (intro w9 h9; go_simp; try with_reducible rfl)
          try simp only [getElem_toArray, getElem_cons_succ, getElem_cons_zero, Act.put, setIfInBounds_toArray, set_cons_zero, set_cons_succ]
          refine AnyT.take (i := 11) (v := ?_) rfl (by kernel_rfl) (by kernel_rfl) (fun _ _ _ h => h) (by kernel_rfl) (by kernel_rfl) (Or.inl ⟨by rfl, ?_⟩) HS.out ?_
          rotate_left
          · (intro w9 h9; go_simp; try with_reducible rfl)
          try simp only [getElem_toArray, getElem_cons_succ, getElem_cons_zero, Act.put, setIfInBounds_toArray, set_cons_zero, set_cons_succ]
          refine AnyT.take (i := 12) (v := ?_) rfl (by kernel_rfl) (by kernel_rfl) (fun _ _ _ h => h) (by kernel_rfl) (by kernel_rfl) (Or.inl ⟨by rfl, ?_⟩) HS.out ?_
          rotate_left
          · (intro w9 h9; go_simp; try with_reducible rfl)
          try simp only [getElem_toArray, getElem_cons_succ, getElem_cons_zero, Act.put, setIfInBounds_toArray, set_cons_zero, set_cons_succ]
          rw [← HPU.out]
          refine AnyT.one (i := 13) (by kernel_rfl) rfl (fun K hK => ?_)
          go_simp
          have hS6 := hcM.cell ((HSd.out _).1 HS.out) (fun h => h)
          refine hK.out _ _ (fun _ => (HSd.out _).2 hS6) ?_
          clear hK K HS
          try simp only [getElem_toArray, getElem_cons_succ, getElem_cons_zero, Act.put, setIfInBounds_toArray, set_cons_zero, set_cons_succ]
          refine AnyT.one (i := 14) (by kernel_rfl) rfl (fun K hK => ?_)
          go_simp
          go_wp2_with (go_at_call 60; refine (wirData hWA hpt hFp rfl HCZ.out HQF.out hcl2).mono ?_; rintro e w5 ⟨rfl, v5, hW5, hc5, hG5⟩)
          refine hK.out _ _ (fun _ => (HSd.out _).2 (hc5.cell hS6 (HQF.out _ hpF))) ?_
          clear hK K
          try simp only [getElem_toArray, getElem_cons_succ, getElem_cons_zero, Act.put, setIfInBounds_toArray, set_cons_zero, set_cons_succ]
          refine AnyT.nil (by kernel_rfl) ?_
          have hcw5 := hcq.wtr hGq ((chgX (S := WB g vq) hcx).trans hc5 fun _ _ h => h)
          have hGf := hGq.trans hcq.size (hG5.low hcx.size)
          have HW5 := hide (show Wir w5 base g v5 (cur ++ numB row.length ++ rowB (row.take (j + 1))) by rw [HTK2.out, ← List.append_assoc]; exact hW5)
          clear hW5 hc5 hG5 hcx hcM hcd hWA hWD hpt hFp HCZ rp rq hcq hGq HWQ HQF hS6
          go_wp2_with fail
          go_roundw
          case rel => exact ⟨j + 1, v5, by go_num, by have := HJ.out.1; omega, HW5, hcw5, hGf⟩
          case measure => (have h := HJ.out.1; have := HJ.out.2; simp [intOf]; omega)
        · have hge : ¬ ((j : Int) < (un : Int)) := by omega
          have hje : j = row.length := by omega
          have HWF := hide (show Wir wr base g vq (l ++ numB rs.length ++ rowsB (rs.take (k + 1))) by rw [HTK.out, ← List.append_assoc, ← List.append_assoc, ← HCUR.out]; have h1 := HWQ.out; rw [hje, List.take_length] at h1; exact h1)
          clear hje hjl hj hun
          go_wp2_with fail
          go_roundw
          case rel => exact ⟨k + 1, vq, by go_num, by have := HK.out.1; omega, HWF, hcq, hGq⟩
          case measure => (have h := HK.out.1; have := HK.out.2; simp [intOf]; omega)
    · have hge : ¬ ((k : Int) < (m : Int)) := by omega
      have hke : k = rs.length := by omega
      have HKE := hide hke
      clear hke hm hkl hk
      go_wp2_with fail
      refine bodyPost_end (results_none rfl _ _ _) rfl ⟨rfl, vv, ?_, hcw, hG⟩
      have h1 := HW.out
      rw [HKE.out, List.take_length, List.append_assoc] at h1
      exact h1
end Go.Proofs.Ytncchbcoldgpbaa
