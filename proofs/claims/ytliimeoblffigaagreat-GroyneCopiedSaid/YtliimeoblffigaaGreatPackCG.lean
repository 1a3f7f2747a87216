/- The walk of vault's Names. -/
import Derived.Test.YtliimeoblffigaaGreatRfMG
import Derived.Test.YtliimeoblffigaaGreatRfP
import Derived.Lib.Bytes2
import Derived.Test.YtliimeoblffigaaGreatPackAG
import Derived.Lib.ConvBytes
import Derived.Lib.SlBytesRow
import Derived.Laws.AppendOwn
import Derived.Test.YtliimeoblffigaaGreatTsAG
import Derived.Test.YtliimeoblffigaaGreatPackBG
open List renaming getElem_toArray → lz1, getElem_cons_succ → lz2, getElem_cons_zero → lz3, setIfInBounds_toArray → lz4, set_cons_zero → lz5, set_cons_succ → lz6
set_option linter.unusedVariables false
set_option linter.unusedSimpArgs false
set_option maxRecDepth 100000
namespace Go.Proofs.YtliimeoblffigaaGreat
open Go.RowKit Go.Maps Go.Sort Go.Lib
set_option linter.unusedVariables false
set_option linter.unusedSimpArgs false

theorem info_S : (Tryz.prog.info? 9).map (fun i => (i.zero, i.size, i.bytes)) = some (some (.string ⟨#[]⟩), 1, 16) := by kernel_rfl
/-- a text in a slice -/
def elS : El Unit (List UInt8) where
 sz := 1
 pos := by omega
 cells := fun _ a => [encStr a]
 len := fun _ _ => rfl
 rd := fun _ _ _ _ => True
 mono := fun h _ => h
 chg := fun h _ _ => h
 lt := fun h => h
 one := fun _ y hy => by simp at hy; subst hy; rfl
theorem slS : SlT elS Tryz.prog 77 9 := ⟨Tryz.underlying77, by
 obtain ⟨i, hi, hz, h1, h2⟩ := info_parts info_S
 exact ⟨i, _, hi, hz, h1, by omega, rfl⟩⟩
theorem flE_str : ∀ (us : List Unit) (l : List (List UInt8)), us.length = l.length → flE elS us l = l.map encStr
 | [], [], _ => rfl
 | u :: us, a :: l, h => by rw [flE_cons, flE_str us l (by simpa using h)]; rfl
 | [], _ :: _, h => by simp at h
 | _ :: _, [], h => by simp at h
theorem OwnE.strs {t : TypeId} {w : World} {base : Nat} {F : Nat → Prop} {v : Value} {l : List (List UInt8)} (h : OwnE elS t w base F v l) : RdV w (fun b => base ≤ b ∧ b < w.heap.size) 1 v l.length (l.map encStr) := by
 obtain ⟨us, h1, h2, _⟩ := h
 rw [← flE_str us l h1]
 exact (RdV.of_own h2).mono fun b hb => World.ownsRow.lt h2 b hb
theorem RdV.str {w : World} {F : Nat → Prop} {A : Option Addr} {n c : Nat} {xs : List (List UInt8)} (h : RdV w F 1 (.slice A n c) xs.length (xs.map encStr)) {k : Nat} (hk : k < xs.length) : ∃ ad, A = some ad ∧ F ad.block ∧ w.cell? (ad.add k) = some (encStr xs[k]) := by
 obtain ⟨A', c', e, _, _⟩ := RdV.shape h
 injection e with e1 e2 e3
 subst e2; subst e3
 obtain ⟨ad, u, hA, hf, hu, hc⟩ := RdV.at_ h hk (i := 0) (by omega)
 simp only [Nat.mul_one, Nat.add_zero] at hu hc
 refine ⟨ad, hA, hf, ?_⟩
 rw [List.getElem?_map, List.getElem?_eq_getElem hk] at hu
 rw [hc, ← hu]
 rfl
theorem extract_str (x : List UInt8) (k : Nat) : (⟨x.toArray⟩ : ByteArray).extract k x.length = ⟨(x.drop k).toArray⟩ := by
 apply ByteArray.ext
 rw [ByteArray.data_extract]
 apply Array.ext'
 simp
 exact List.take_of_length_le (by simp)
theorem pre_nil' (pre : ByteArray) : pre ++ ⟨#[]⟩ = pre := by apply ByteArray.ext; rw [ByteArray.data_append]; simp
section
variable {w : World} {T : Nat → Prop} {vb : Nat} {sup : List Nm} {l : FL} {pre : ByteArray}
set_option maxHeartbeats 16000000 in
theorem shNames (hV : Vlt w T vb sup l) (hsl : sup.length ≤ 1000000) (hz : pre.size ≤ 10000) (hnm : ∀ x ∈ sup, x.length ≤ 10000) :
  Calls Tryz.prog 27 #[.agg #[.pointer (some ⟨vb, 0, none⟩), .string pre], .slice none 0 0] w fun e w' => ∃ (v : Value) (ss : List (List UInt8)), e = .returned v ∧ ss.Perm (l.map (·.1)) ∧ RdV w' (fun b => w.heap.size ≤ b ∧ b < w'.heap.size) 1 v (((ss.mergeSort (fun x y => decide (x ≤ y))).filter (fun x => Lib.hasPrefix x pre.data.toList)).map (·.drop pre.size)).length ((((ss.mergeSort (fun x y => decide (x ≤ y))).filter (fun x => Lib.hasPrefix x pre.data.toList)).map (·.drop pre.size)).map encStr) ∧ Chg Non w w' := by
 have hb := Blk.new w 65 #[.pointer (some ⟨vb, 0, none⟩), .string pre]
 have hc := (Chg.refl Non w).alloc (.cells #[.pointer (some ⟨vb, 0, none⟩), .string pre] 65)
 obtain ⟨w1, hw1⟩ : ∃ w1, w1 = w.alloc (.cells #[.pointer (some ⟨vb, 0, none⟩), .string pre] 65) := ⟨_, rfl⟩
 rw [← hw1] at hb hc
 have hlx : ∀ x ∈ l.map (·.1), x.length ≤ 10000 := fun x hx => by
  obtain ⟨mv, F, _, hF, _⟩ := hV
  obtain ⟨p, hp, rfl⟩ := List.mem_map.1 hx
  exact hnm _ (hF.sup p hp)
 have hll : l.length ≤ 1000000 := by
  obtain ⟨mv, F, _, hF, _⟩ := hV
  have := hF.len; omega
 have HLX := hide (And.intro hlx hll)
 have HV := hide (hV.c0 hc)
 have HB := hide hb
 have HC := hide hc
 have HS := hide hsl
 clear hV hb hc hsl hnm hlx hll
 go_enter Tryz.func27, Tryz.ntmps27
 go_upto_region 2 with fail
 obtain ⟨N, hN⟩ : ∃ N, N = w.heap.size := ⟨_, rfl⟩
 rw [← hw1]
 rw [← hN] at HB ⊢
 clear hw1
 have HN := hide hN
 clear hN
 refine wp_region_T (Chg Non w1) 8 (by kernel_rfl) ?_
 have HW0 := hide ((Chg.refl Non w1).drew)
 generalize World.drew w1 = x0 at HW0 ⊢
 refine AnyT.takeM (i := 0) (v := ?_) rfl (by kernel_rfl) (by kernel_rfl) (fun _ _ _ h => h) (by kernel_rfl) (by kernel_rfl) (Or.inl ⟨by rfl, ?_⟩) HW0.out ?_
 rotate_left
 ·(intro w9 h9; go_simp; try with_reducible rfl)
 try simp only [lz1, lz2, lz3, Act.put, lz4, lz5, lz6]
 refine AnyT.takeM (i := 1) (v := ?_) rfl (by kernel_rfl) (by kernel_rfl) (fun _ _ _ h => h) (by kernel_rfl) (by kernel_rfl) (Or.inl ⟨by rfl, ?_⟩) HW0.out ?_
 rotate_left
 ·(intro w9 h9; obtain ⟨y0, y1⟩ := blk2 (HB.out.c0 h9); go_simp; try with_reducible rfl)
 try simp only [lz1, lz2, lz3, Act.put, lz4, lz5, lz6]
 refine AnyT.takeM (i := 2) (v := ?_) rfl (by kernel_rfl) (by kernel_rfl) (fun _ _ _ h => h) (by kernel_rfl) (by kernel_rfl) (Or.inl ⟨by rfl, ?_⟩) HW0.out ?_
 rotate_left
 ·(intro w9 h9; obtain ⟨y0, y1⟩ := blk2 (HB.out.c0 h9); go_simp; try with_reducible rfl)
 try simp only [lz1, lz2, lz3, Act.put, lz4, lz5, lz6]
 refine AnyT.takeM (i := 3) (v := ?_) rfl (by kernel_rfl) (by kernel_rfl) (fun _ _ _ h => h) (by kernel_rfl) (by kernel_rfl) (Or.inl ⟨by rfl, ?_⟩) HW0.out ?_
 rotate_left
 ·(intro w9 h9; go_simp; try with_reducible rfl)
 try simp only [lz1, lz2, lz3, Act.put, lz4, lz5, lz6]
 refine AnyT.takeM (i := 7) (v := ?_) rfl (by kernel_rfl) (by kernel_rfl) (fun _ _ _ h => h) (by kernel_rfl) (by kernel_rfl) (Or.inl ⟨by rfl, ?_⟩) HW0.out ?_
 rotate_left
 ·(intro w9 h9; go_simp; try with_reducible rfl)
 try simp only [lz1, lz2, lz3, Act.put, lz4, lz5, lz6]
 refine AnyT.one (i := 4) (by kernel_rfl) rfl (fun K hK => ?_)
 rw [if_pos (by rfl)]
 try simp only [lz1, lz2, lz3, Act.put, lz4, lz5, lz6]
 have hcc := vltPath0 (w := x0) (vb := vb) (pre := pre) hz
 go_wp2_with (go_at_call 66; refine hcc.mono ?_; rintro e x1 ⟨rfl, hc⟩)
 have HW1 := hide (HW0.out.trans0 hc)
 refine hK.out _ _ (fun _ => HW1.out) ?_
 clear hcc hc
 clear hK K
 try simp only [lz1, lz2, lz3, Act.put, lz4, lz5, lz6]
 refine AnyT.one (i := 5) (by kernel_rfl) rfl (fun K hK => ?_)
 rw [if_pos (by rfl)]
 try simp only [lz1, lz2, lz3, Act.put, lz4, lz5, lz6]
 have hcc := vltList (HV.out.c0 HW1.out) HS.out (pre ++ ⟨#[]⟩)
 go_wp2_with (go_at_call 67; refine hcc.mono ?_; rintro e x2 ⟨v, ss, rfl, h1, h2, hc⟩; obtain ⟨VA, vn, vc, rfl⟩ : ∃ A n c, v = .slice A n c := (by obtain ⟨A, c, e, _, _⟩ := h2.shape; exact ⟨A, _, c, e⟩))
 have HW2 := hide (HW1.out.trans0 hc)
 refine hK.out _ _ (fun _ => HW2.out) ?_
 have HP := hide (And.intro h1 (And.intro h2 hc))
 clear hcc h1 h2 hc
 clear hK K
 try simp only [lz1, lz2, lz3, Act.put, lz4, lz5, lz6]
 refine AnyT.takeM (i := 6) (v := ?_) rfl (by kernel_rfl) (by kernel_rfl) (fun _ _ _ h => h) (by kernel_rfl) (by kernel_rfl) (Or.inl ⟨by rfl, ?_⟩) HW2.out ?_
 rotate_left
 ·(intro w9 h9; go_simp; try with_reducible rfl)
 try simp only [lz1, lz2, lz3, Act.put, lz4, lz5, lz6]
 refine AnyT.nil (by kernel_rfl) ?_
 obtain ⟨xs, hxs⟩ : ∃ xs, xs = (ss.mergeSort (fun x y => decide (x ≤ y))).filter (fun x => Lib.hasPrefix x pre.data.toList) := ⟨_, rfl⟩
 have hR := HP.out.2.1
 rw [pre_nil'] at hR
 rw [← hxs] at hR
 obtain ⟨VA, vc, e, _, _⟩ := hR.shape
 injection e with e1 e2 e3
 subst e1; subst e3
 have hxl : ∀ x ∈ xs, pre.size ≤ x.length ∧ x.length ≤ 10000 := fun x hx => by
  rw [hxs] at hx
  have h1 := (List.mem_filter.1 hx).2
  have h2 := HLX.out.1 x (HP.out.1.mem_iff.1 (List.mem_mergeSort.1 (List.mem_filter.1 hx).1))
  have h3 := Lib.hasPrefix_le h1
  have h4 : pre.data.toList.length = pre.size := by simp
  exact ⟨by omega, h2⟩
 have hxn : xs.length ≤ 1000000 := by
  have h1 : xs.length ≤ (ss.mergeSort (fun x y => decide (x ≤ y))).length := by rw [hxs]; exact List.length_filter_le _ _
  rw [List.length_mergeSort, HP.out.1.length_eq, List.length_map] at h1
  have := HLX.out.2
  omega
 have HX := hide (And.intro hxl hxn)
 have HXS := hide hxs
 have HR2 := hide hR
 have HVN := hide e2
 have hvx := e2
 have hvb : vn ≤ 1000000 := by omega
 have HC2 := hide ((HC.out.trans0 HW1.out).trans0 HP.out.2.2)
 have HB2 := hide ((HB.out.c0 HW1.out).c0 HP.out.2.2)
 clear hxl hxn hxs hR e2 hvx
 go_wp2_with fail
 go_loopw [5, 15] (fun out i wr => ∃ k : Nat, k ≤ vn ∧ i = .int .i64 (k : Int) ∧ Hid (OwnE elS 9 wr x2.heap.size (fun _ => True) out ((xs.take k).map (·.drop pre.size))) ∧ Hid (Chg Non x2 wr)) (fun _ i _ => vn - (intOf i).toNat)
 case atStart => exact ⟨0, Nat.zero_le _, rfl, hide (by rw [List.take_zero, List.map_nil]; exact OwnE.nil_ _ _ _ _ _), hide (Chg.refl _ _)⟩
 case round =>
  obtain ⟨k, hk, rfl, hO, hcr⟩ := hrel
  rename Value => out
  obtain ⟨OA, on, oc, rfl⟩ := hO.out.shapeH
  by_cases hkl : k < vn
  ·have hkx : k < xs.length := by have := HVN.out; omega
   obtain ⟨ad, rfl, _, hcell⟩ := (HR2.out.chg hcr.out fun _ _ h => h).str hkx
   have hxk := HX.out.1 _ (List.getElem_mem hkx)
   obtain ⟨x, hx⟩ : ∃ x, x = xs[k] := ⟨_, rfl⟩
   rw [← hx] at hcell hxk
   have htk : (xs.take (k + 1)).map (·.drop pre.size) = (xs.take k).map (·.drop pre.size) ++ [x.drop pre.size] := by
    rw [List.take_succ_eq_append_getElem hkx, List.map_append, ← hx]; rfl
   obtain ⟨sx, hsx⟩ : ∃ s : ByteArray, s = ⟨x.toArray⟩ := ⟨_, rfl⟩
   have hss : sx.size = x.length := by rw [hsx]; show x.toArray.size = _; simp
   have hcell2 : wr.cell? (ad.add k) = some (.string sx) := by rw [hcell, hsx]
   have hpl : pre.size ≤ sx.size := by omega
   have hml : sx.size ≤ 10000 := by omega
   have hext : sx.extract pre.size sx.size = ⟨(x.drop pre.size).toArray⟩ := by rw [hss, hsx]; exact extract_str x pre.size
   obtain ⟨y0, y1⟩ := blk2 (HB2.out.c0 hcr.out)
   have hcb := (Chg.refl Non wr).alloc (.cells #[.string (sx.extract pre.size sx.size)] 9)
   have hbb := Blk.new wr 9 #[.string (sx.extract pre.size sx.size)]
   have hO5 := hO.out.c0 hcb
   have hlb : ((xs.take k).map (·.drop pre.size)).length + 1 ≤ 1000000000000 := by rw [List.length_map, List.length_take]; omega
   have hbs : x2.heap.size ≤ (wr.alloc (.cells #[.string (sx.extract pre.size sx.size)] 9)).heap.size := by have := HC2.out.size; have := hcr.out.size; have := hcb.size; omega
   have hcs : (#[.string (sx.extract pre.size sx.size)] : Array Value).toList = elS.cells () (x.drop pre.size) := by rw [hext]; rfl
   have HTK := hide htk
   have HBL := hide (And.intro hO.out.bl (hcr.out.trans0 hcb))
   have HKL := hide hkl
   have HBW := hide HC2.out.size
   clear hcell hxk hx htk hsx hss hcb hO hcr hext hkx
   go_wp2_with (at_builtin; refine append_E slS rfl _ _ rfl hO5 rfl (u := ()) (y := x.drop pre.size) trivial hcs hbb rfl hlb hbs ?_; intro v6 w6 hO6 hg6 hat6; obtain ⟨WB, wbn, wbc, rfl⟩ := hO6.shapeH)
   have hc6 := HBL.out.2.trans (Chg.of_grown hg6) fun b hb e => by have := (HBL.out.1 b e.symm).1; omega
   go_roundw
   case rel => exact ⟨k + 1, HKL.out, by go_num, hide (by rw [HTK.out]; exact hO6), hide hc6⟩
   case measure => (have := HKL.out; simp [intOf]; omega)
  ·have e : k = xs.length := by have := HVN.out; omega
   rw [e, List.take_length] at hO
   go_wp2_with fail
   go_ret
   refine ⟨_, ss, rfl, HP.out.1, ?_, HC2.out.trans0 hcr.out⟩
   rw [← HXS.out]
   exact hO.out.strs.mono fun b hb => ⟨Nat.le_trans HC2.out.size hb.1, hb.2⟩
end
end Go.Proofs.YtliimeoblffigaaGreat

set_option maxRecDepth 100000
namespace Go.Proofs.YtliimeoblffigaaGreat
open Go.RowKit

/-- 'string(b)' -/
theorem conv_text {w : World} {F : Nat → Prop} {b o c : Nat} {l : List UInt8} (h : RdB w F (.slice (some ⟨b, o, none⟩) l.length c) l) : (convert 30 9 (.slice (some ⟨b, o, none⟩) l.length c)).run Tryz.prog w = .ok (.string ⟨l.toArray⟩) w := by
 have hc : Lib.Bytes w b o ⟨l.toArray⟩ := fun i hi => by
  have hil : i < l.length := by simpa [ByteArray.size] using hi
  obtain ⟨ad, hA, _, hcell⟩ := RdB.at_ h hil
  injection hA with hA
  subst hA
  rw [add_none] at hcell
  exact hcell
 have hsz : (⟨l.toArray⟩ : ByteArray).size = l.length := by simp [ByteArray.size]
 have := Lib.run_convert_whole (P := Tryz.prog) w 30 5 9 Tryz.underlying30 Tryz.underlying5 Tryz.underlying9 b o ⟨l.toArray⟩ hc c
 rw [hsz] at this
 exact this
end Go.Proofs.YtliimeoblffigaaGreat

set_option maxRecDepth 100000
namespace Go.Proofs.YtliimeoblffigaaGreat
open Go.RowKit
set_option linter.unusedVariables false

def hexN (n : Nat) : UInt8 := if n < 10 then UInt8.ofNat (48 + n) else UInt8.ofNat (87 + n)
theorem hexN_get : ∀ (q : Nat) (h : q < (⟨#[48, 49, 50, 51, 52, 53, 54, 55, 56, 57, 97, 98, 99, 100, 101, 102]⟩ : ByteArray).size), (⟨#[48, 49, 50, 51, 52, 53, 54, 55, 56, 57, 97, 98, 99, 100, 101, 102]⟩ : ByteArray)[q] = hexN q
 | 0, _ => rfl | 1, _ => rfl | 2, _ => rfl | 3, _ => rfl | 4, _ => rfl | 5, _ => rfl | 6, _ => rfl | 7, _ => rfl
 | 8, _ => rfl | 9, _ => rfl | 10, _ => rfl | 11, _ => rfl | 12, _ => rfl | 13, _ => rfl | 14, _ => rfl | 15, _ => rfl
 | q + 16, h => absurd h (by
  have e : (⟨#[48, 49, 50, 51, 52, 53, 54, 55, 56, 57, 97, 98, 99, 100, 101, 102]⟩ : ByteArray).size = 16 := rfl
  omega)
/-- sixteen digits -/
def numL (n : Nat) : List UInt8 := (List.range 16).map fun j => hexN (n / 16 ^ (15 - j) % 16)
theorem numL_len (n : Nat) : (numL n).length = 16 := by simp [numL]
theorem numL_at (n j : Nat) (h : j < (numL n).length) : (numL n)[j] = hexN (n / 16 ^ (15 - j) % 16) := by simp [numL]
theorem drop_set_prev {l m : List UInt8} {j : Nat} (hl : l.length = m.length) (hj : j < m.length) (h : l.drop (j + 1) = m.drop (j + 1)) : (l.set j m[j]).drop j = m.drop j := by
 rw [List.drop_eq_getElem_cons (by rw [List.length_set]; omega), List.drop_eq_getElem_cons hj, List.getElem_set_self, List.drop_set, if_pos (by omega), h]
theorem and15n : ∀ n k : Nat, n < 70 → k < 16 → bits .and .u64 ((n : Int) / 2 ^ (4 * k)) 15 = ((n / 16 ^ k % 16 : Nat) : Int) := by
 have h : ∀ n : Fin 70, ∀ k : Fin 16, bits .and .u64 ((n.val : Int) / 2 ^ (4 * k.val)) 15 = ((n.val / 16 ^ k.val % 16 : Nat) : Int) := by decide +kernel
 exact fun n k hn hk => h ⟨n, hn⟩ ⟨k, hk⟩
set_option maxRecDepth 100000 in
set_option maxHeartbeats 4000000 in
theorem vltNumber (n : Nat) (hn : n < 70) (w : World) : Calls Tryz.prog 26 #[.int .u64 (n : Int)] w fun e w' => e = .returned (.string ⟨(numL n).toArray⟩) ∧ Chg Non w w' := by
 have hmk : ∀ w, (Instr.makeSlice 30 (.int .i64 16) (.int .i64 16)).run Tryz.prog w = .ok (.slice (some ⟨w.heap.size, 0, none⟩) 16 16) (w.alloc (.cells (madeCells #[.int .u8 0] 16) 5)) := fun w => mk_files w 16 (by omega)
 have hown := own_files w 16 (by omega)
 have c1 := (Chg.refl Non w).alloc (.cells (madeCells #[.int .u8 0] 16) 5)
 go_enter Tryz.func26, Tryz.ntmps26
 go_wp2_with fail
 generalize w.alloc (.cells (madeCells #[.int .u8 0] 16) 5) = w1 at hown c1 ⊢
 obtain ⟨g, hg, hgw⟩ : ∃ g, g = w.heap.size ∧ w.heap.size ≤ g := ⟨_, rfl, Nat.le_refl _⟩
 rw [← hg] at hown ⊢
 clear hmk hg
 go_loopw [8] (fun iv wr => ∃ (k : Nat) (l : List UInt8), iv = .int .i64 (k : Int) ∧ k ≤ 16 ∧ OwnB wr g (.slice (some ⟨g, 0, none⟩) 16 16) l ∧ Hid (l.length = 16 ∧ l.drop (16 - k) = (numL n).drop (16 - k)) ∧ Chg Non w wr) (fun iv _ => 16 - (intOf iv).toNat)
 case atStart => exact ⟨0, _, rfl, Nat.zero_le _, hown, hide ⟨by simp, by simp [numL]⟩, c1⟩
 case round =>
  clear hown c1
  obtain ⟨k, l, rfl, hk, hO, hl, hcw⟩ := hrel
  by_cases h1 : k < 16
  ·have hkN : (k : Int) < 16 := by omega
   have hk0 : (0 : Int) ≤ (k : Int) := by omega
   have hll := hl.out.1
   have hfz := (hO.cell (i := 15 - k) (by omega)).2
   obtain ⟨cell0, hcell0⟩ : ∃ z, wr.cell? ⟨g, 15 - k, none⟩ = some z := ⟨_, (hO.cell (i := 15 - k) (by omega)).1⟩
   have hand := and15n n k (by omega) h1
   obtain ⟨q, hq⟩ : ∃ q, q = n / 16 ^ k % 16 := ⟨_, rfl⟩
   have hq16 : q < 16 := by omega
   rw [← hq] at hand
   have hgq := hexN_get q
   have iq : (0 : Int) ≤ (q : Int) ∧ (q : Int) < 16 := by omega
   obtain ⟨x, hx⟩ : ∃ x, x = hexN q := ⟨_, rfl⟩
   simp only [← hx] at hgq
   have hst := hO.stored (15 - k) x
   have hcst := hcw.setCell (p := ⟨g, 15 - k, none⟩) (fun hlt => by simp at hlt; omega) (.int .u8 (x.toNat : Int))
   have HN := hide (show (l.set (15 - k) x).length = 16 ∧ (l.set (15 - k) x).drop (16 - (k + 1)) = (numL n).drop (16 - (k + 1)) by
    refine ⟨by rw [List.length_set]; exact hll, ?_⟩
    have hL := numL_len n
    have hj : 15 - k < (numL n).length := by omega
    have hv : x = (numL n)[15 - k] := by rw [numL_at, hx, hq]; congr 5; omega
    have h2 := hl.out.2
    rw [show 16 - k = 15 - k + 1 by omega] at h2
    rw [show 16 - (k + 1) = 15 - k by omega, hv]
    exact drop_set_prev (by omega) hj h2)
   clear hO hcw hl hll hx hq
   go_wp2_with fail
   go_roundw
   case rel => exact ⟨k + 1, _, by go_num, by omega, hst, HN, hcst⟩
   case measure => simp [intOf]; omega
  ·obtain rfl : k = 16 := by omega
   have hl2 := hl.out.2
   rw [Nat.sub_self, List.drop_zero, List.drop_zero] at hl2
   rw [hl2] at hO
   have hc : (convert 30 9 (.slice (some ⟨g, 0, none⟩) 16 16)).run Tryz.prog wr = .ok (.string ⟨(numL n).toArray⟩) wr := by
    have h2 := hO.rd
    have e := conv_text (l := numL n) (b := g) (o := 0) (c := 16) (w := wr) (by rw [numL_len]; exact h2)
    rw [numL_len] at e
    exact e
   clear hO hl hl2
   go_wp2_with fail
   go_ret
   exact ⟨rfl, hcw⟩
end Go.Proofs.YtliimeoblffigaaGreat

set_option maxRecDepth 100000
namespace Go.Proofs.YtliimeoblffigaaGreat
set_option linter.unusedVariables false

def inR (f t : List UInt8) (p : KV) : Bool := decide (cmpB f p.1 ≤ 0) && (t.isEmpty || decide (cmpB p.1 t < 0))
def rngL (f t : List UInt8) (l : List KV) : List KV := l.filter (inR f t)
def cutM (m : Int) (l : List KV) : List KV := if 0 < m then l.take m.toNat else l
/-- is it full? -/
def fullM (m : Int) (l : List KV) : Bool := decide (0 < m) && decide (m ≤ (l.length : Int))
theorem rngL_app (f t : List UInt8) (a b : List KV) : rngL f t (a ++ b) = rngL f t a ++ rngL f t b := List.filter_append ..
theorem cutM_le (m : Int) (l : List KV) : (cutM m l).length ≤ l.length := by
 unfold cutM; split
 ·rw [List.length_take]; exact Nat.min_le_right _ _
 ·exact Nat.le_refl _
theorem cutM_app (m : Int) (a b : List KV) : cutM m (cutM m a ++ b) = cutM m (a ++ b) := by
 unfold cutM
 split
 ·rw [List.take_append, List.take_append, List.take_take, Nat.min_self, List.length_take]
  congr 2
  omega
 ·rfl
theorem cutM_full {m : Int} {a : List KV} (h : fullM m (cutM m a) = true) (b : List KV) : cutM m (a ++ b) = cutM m a := by
 unfold fullM cutM at h
 simp only [Bool.and_eq_true, decide_eq_true_eq] at h
 obtain ⟨h1, h2⟩ := h
 rw [if_pos h1, List.length_take] at h2
 unfold cutM
 rw [if_pos h1, if_pos h1, List.take_append_of_le_length (by omega)]
theorem cutM_idem (m : Int) (a : List KV) : cutM m (cutM m a) = cutM m a := by
 have := cutM_app m a []
 rwa [List.append_nil, List.append_nil] at this
/-- one more, where it is not full -/
theorem cutM_snoc {m : Int} {a : List KV} (h : fullM m a = false) (p : KV) : cutM m (a ++ [p]) = a ++ [p] := by
 unfold fullM at h
 unfold cutM
 split
 ·rename_i h1
  simp [h1] at h
  exact List.take_of_length_le (by rw [List.length_append, List.length_singleton]; omega)
 ·rfl
section
variable {T : Nat → List Nat → List KV → Prop} {EA EB : List Ent} {k0 f t : List UInt8} {x : Kid}
theorem rng_left (h : Brn T (EA ++ (k0, x) :: EB)) (w : Way EA EB k0 f) : rngL f t (lE EA) = [] := by
 unfold rngL
 rw [List.filter_eq_nil_iff]
 intro p hp
 have h1 := h.left w p hp
 have h2 := cmpB_neg f p.1
 simp [inR]; intro h3; omega
/-- behind a key that is not below the end nothing is wanted -/
theorem rng_right (h : Brn T (EA ++ (k0, x) :: EB)) (ht : t ≠ []) (hk : 0 ≤ cmpB k0 t) : rngL f t (lE ((k0, x) :: EB)) = [] := by
 unfold rngL
 rw [List.filter_eq_nil_iff]
 intro p hp
 have h1 : cmpB k0 p.1 ≤ 0 := by
  obtain ⟨e, he, hpe⟩ := mem_lE.1 hp
  rcases List.mem_cons.1 he with rfl | he
  ·exact h.lo (k0, x) (by simp) p hpe
  ·obtain ⟨_, h2, _⟩ := List.pairwise_append.1 h.pw
   have h4 := (List.pairwise_cons.1 h2).1 e he
   exact Int.le_of_lt (cmpB_lt_le h4.1 (h.lo e (by simp [he]) p hpe))
 have h2 : ¬ cmpB p.1 t < 0 := fun h3 => by have := cmpB_le_lt h1 h3; omega
 simp [inR, h2, ht]
end
/-- the places of a leaf's pairs in a range -/
theorem rng_leaf {l : List KV} {f t : List UInt8} {i : Nat} {ok : Bool} (h : Fnd (ksL l) f i ok) (hu : UpL l) : rngL f t l = rngL f t (l.drop i) ∧ ∀ p ∈ l.drop i, cmpB f p.1 ≤ 0 := by
 obtain ⟨h1, h2, h3⟩ := h.parts hu
 refine ⟨?_, fun p hp => ?_⟩
 ·conv => lhs; rw [← List.take_append_drop i l]
  rw [rngL_app]
  have e : rngL f t (l.take i) = [] := by
   unfold rngL
   rw [List.filter_eq_nil_iff]
   intro p hp
   have h4 := h1 p hp
   have h5 := cmpB_neg f p.1
   simp [inR]; intro h6; omega
  rw [e, List.nil_append]
 ·cases ok with
  | false => exact Int.le_of_lt (h2 rfl p hp)
  | true =>
   obtain ⟨v0, hd, h4⟩ := h3 rfl
   rw [hd] at hp
   rcases List.mem_cons.1 hp with rfl | hp
   ·rw [cmpB_refl]; exact Int.le_refl _
   ·exact Int.le_of_lt (h4 p hp)
theorem rng_stop {l : List KV} {f t : List UInt8} {j : Nat} (hu : UpL l) (hj : j < l.length) (ht : t ≠ []) (hk : ¬ cmpB (l[j]).1 t < 0) : rngL f t (l.drop j) = [] := by
 unfold rngL
 rw [List.filter_eq_nil_iff]
 intro p hp
 obtain ⟨i, hi, rfl⟩ := List.mem_iff_getElem.1 hp
 rw [List.length_drop] at hi
 rw [List.getElem_drop]
 have h2 : ¬ cmpB (l[j + i]'(by omega)).1 t < 0 := fun h3 => by
  by_cases e : i = 0
  ·subst e; exact hk h3
  ·exact hk (cmpB_trans (List.pairwise_iff_getElem.1 hu j (j + i) hj (by omega) (by omega)) h3)
 simp [inR, h2, ht]
end Go.Proofs.YtliimeoblffigaaGreat

set_option maxRecDepth 100000
namespace Go.Proofs.YtliimeoblffigaaGreat
open Go.RowKit

/-- three results: a number, a place, an error's number -/
def tk (x : Nat × Int × Int) : Ending := .returned (.tuple #[.int .u64 (x.1 : Int), .int .i64 x.2.1, .int .i64 x.2.2])

theorem or_byte (x : Nat) (y : UInt8) (hx : x < 72057594037927936) : bits .or .u64 (IntKind.u64.wrap ((x : Int) * 256)) (IntKind.u64.wrap (y.toNat : Int)) = ((x * 256 + y.toNat : Nat) : Int) := by
 have hy := y.toNat_lt
 have e1 : IntKind.u64.wrap ((x : Int) * 256) = ((x * 256 : Nat) : Int) := by simp [IntKind.wrap_u64]; omega
 have e2 : IntKind.u64.wrap (y.toNat : Int) = ((y.toNat : Nat) : Int) := by simp [IntKind.wrap_u64]; omega
 rw [e1, e2, u64_or_nat _ _ (by omega) (by omega)]
 congr 1
 have h := Nat.shiftLeft_add_eq_or_of_lt (i := 8) (b := y.toNat) (by omega) x
 rw [Nat.shiftLeft_eq] at h
 exact h.symm

theorem pow_lt56 {i x : Nat} (h : x < 256 ^ i) (hi : i < 8) : x < 72057594037927936 :=
 Nat.lt_of_lt_of_le h (Nat.le_trans (Nat.pow_le_pow_right (by omega) (by omega : i ≤ 7)) (by omega))

set_option maxRecDepth 100000 in
set_option maxHeartbeats 400000 in
theorem packTake {v : Value} {b : List UInt8} {F : Nat → Prop} {w : World} {at_ : Int} (hr : RdB w F v b) :
  Calls Tryz.prog 104 #[v, .int .i64 at_] w fun e w' => e = tk (takeB b at_) ∧ w' = w := by
 obtain ⟨A, c, rfl, hc, hm⟩ := hr.shape
 unfold maxLen at hm
 by_cases h1 : at_ < 0 ∨ (b.length : Int) < at_
 ·have HE := hide (takeB_arg b at_ h1)
  by_cases h2 : at_ < 0
  ·clear h1
   go_enter Tryz.func104, Tryz.ntmps104
   go_wp2
   go_ret3
   exact ⟨by rw [HE.out]; rfl, rfl⟩
  ·have h3 : (b.length : Int) < at_ := by omega
   clear h1
   go_enter Tryz.func104, Tryz.ntmps104
   go_wp2
   go_ret3
   exact ⟨by rw [HE.out]; rfl, rfl⟩
 ·obtain ⟨a, rfl⟩ := Int.eq_ofNat_of_zero_le (a := at_) (by omega)
  by_cases h2 : a = b.length
  ·subst h2
   have HE := hide (takeB_end b)
   clear h1
   go_enter Tryz.func104, Tryz.ntmps104
   go_wp2
   go_ret3
   exact ⟨by rw [HE.out]; rfl, rfl⟩
  ·have h3 : a < b.length := by omega
   have h4 : ((a : Int) == (b.length : Int)) = false := beq_eq_false_iff_ne.2 (by omega)
   clear h1
   have HE := hide (takeB_at b a h3)
   obtain ⟨ad, rfl, _, hca⟩ := hr.at_ h3
   obtain ⟨f, hf⟩ : ∃ f, f = b[a] := ⟨_, rfl⟩
   rw [← hf] at HE hca
   clear hf
   have hf8 := f.toNat_lt
   by_cases h5 : f.toNat ≤ 247
   ·go_enter Tryz.func104, Tryz.ntmps104
    go_wp2
    go_ret3
    exact ⟨by rw [HE.out, if_pos h5]; rfl, rfl⟩
   ·have hd : (b.drop (a + 1)).length = b.length - (a + 1) := List.length_drop
    by_cases h6 : b.length - (a + 1) < f.toNat - 247
    ·have HE' := hide ((HE.out.trans (if_neg h5)).trans (if_pos (by rw [hd]; exact h6)))
     clear hd HE
     have h7 : (b.length : Int) - a - 1 < f.toNat - 247 := by omega
     clear h6
     go_enter Tryz.func104, Tryz.ntmps104
     go_wp2
     go_ret3
     exact ⟨by rw [HE'.out]; rfl, rfl⟩
    ·have HE' := hide ((HE.out.trans (if_neg h5)).trans (if_neg (by rw [hd]; exact h6)))
     clear hd HE
     go_enter Tryz.func104, Tryz.ntmps104
     go_wp2
     obtain ⟨k, hk⟩ : ∃ k, k = f.toNat - 247 := ⟨_, rfl⟩
     have hp := hr.piece1 (i := a + 1) (m := f.toNat - 247) (by omega) (by omega) (by omega)
     obtain ⟨p, hpd⟩ : ∃ p, p = (b.drop (a + 1)).take (f.toNat - 247) := ⟨_, rfl⟩
     have hpl : p.length = f.toNat - 247 := by rw [hpd, List.length_take, List.length_drop]; omega
     rw [← hpd] at hp HE'
     have HP := hide hpd
     have HPL := hide hpl
     clear hpd
     go_loopw [9, 53] (fun nv iv wr => ∃ i : Nat, i ≤ f.toNat - 247 ∧ nv = .int .u64 (val (p.take i) : Int) ∧ iv = .int .i64 i ∧ wr = w) (fun _ i _ => f.toNat - 247 - (intOf i).toNat)
     case atStart => exact ⟨0, by omega, rfl, rfl, rfl⟩
     case round =>
      obtain ⟨i, hi, rfl, rfl, rfl⟩ := hrel
      by_cases h8 : i < f.toNat - 247
      ·rw [← hpl] at hp
       obtain ⟨ad', e, _, hcell⟩ := hp.at_ (k := i) (by omega)
       injection e with e; subst e
       rw [add_none] at hcell
       have hlt := val_take_lt p i
       have HV := hide (val_take_succ p i (by omega))
       obtain ⟨x, hx⟩ : ∃ x, x = val (p.take i) := ⟨_, rfl⟩
       obtain ⟨y, hy⟩ : ∃ y, y = p[i]'(by omega) := ⟨_, rfl⟩
       rw [← hx] at HV hlt ⊢
       rw [← hy] at HV hcell
       have HX := hide hlt
       clear hx hy hpl hlt
       go_wp2
       go_roundw
       case rel =>
        refine ⟨i + 1, by omega, ?_, by go_num, trivial⟩
        rw [or_byte x y (pow_lt56 HX.out (by omega)), HV.out]
       case measure => simp [intOf]; omega
      ·have hi2 : i = f.toNat - 247 := by omega
       have hpi : p.take i = p := List.take_of_length_le (by rw [HPL.out]; omega)
       rw [hpi]
       have h9 : a + 1 < b.length := by omega
       obtain ⟨ad', e, _, hcell⟩ := hr.at_ h9
       injection e with e; subst e
       have hhead : (b.drop (a + 1)).head? = some b[a + 1] := by rw [List.drop_eq_getElem_cons h9]; rfl
       rw [hhead] at HE'
       rw [show ad.add (a + 1) = ⟨ad.block, ad.off + (a + 1), none⟩ from by unfold Addr.add; rw [if_neg (by omega)]] at hcell
       obtain ⟨y, hy⟩ : ∃ y, y = b[a + 1] := ⟨_, rfl⟩
       rw [← hy] at HE' hcell
       obtain ⟨x, hx⟩ : ∃ x, x = val p := ⟨_, rfl⟩
       rw [← hx] at HE' ⊢
       clear hx hy hhead hpi hpl hi2 hp
       by_cases h10 : x ≤ 247
       ·go_wp2
        go_ret3
        exact ⟨by rw [HE'.out, if_pos (.inl h10)]; rfl, rfl⟩
       ·by_cases h11 : y = 0
        ·have h12 : ((y.toNat : Int) == 0) = true := by rw [h11]; rfl
         have H11 := hide h11
         clear h11
         go_wp2
         go_ret3
         exact ⟨by rw [HE'.out, if_pos (.inr (by rw [H11.out]))]; rfl, rfl⟩
        ·have h12 : ((y.toNat : Int) == 0) = false := beq_eq_false_iff_ne.2 fun e => h11 (UInt8.toNat_inj.1 (show y.toNat = 0 by omega))
         go_wp2
         go_ret3
         refine ⟨?_, rfl⟩
         rw [HE'.out, if_neg (by rintro (h | h); exact h10 h; injection h with h; exact h11 h)]
         unfold tk
         congr 3
         simp; omega
end Go.Proofs.YtliimeoblffigaaGreat

