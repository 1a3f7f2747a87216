/- The walks of vault's Put and Get. -/
import Derived.Test.YtliimeoblffigaaGreatVltAG
import Derived.Test.YtliimeoblffigaaGreatDgEG
import Derived.Test.YtliimeoblffigaaGreatTsHG
import Derived.Shelf.SlicesE.Compact
import Derived.Lib.SlicesS
import Derived.Test.YtliimeoblffigaaGreatTrOG
import Derived.Test.YtliimeoblffigaaGreatTsRG
open List renaming getElem_toArray → lz1, getElem_cons_succ → lz2, getElem_cons_zero → lz3, setIfInBounds_toArray → lz4, set_cons_zero → lz5, set_cons_succ → lz6
set_option linter.unusedVariables false
set_option linter.unusedSimpArgs false
set_option maxRecDepth 100000
namespace Go.Proofs.YtliimeoblffigaaGreat
open Go.RowKit Go.Maps
set_option linter.unusedVariables false
set_option linter.unusedSimpArgs false

/-- 'm[k] = v' inside AnyT.one -/
theorem oper_M {H : Type} {P : Program} {w : World} {o : Oper} {a : Act} {K : Act → World → Prop} {Q : Exit → Act → World → Prop} (m x v : Operand) (t : TypeId) (hop : o.op = Op.mapUpdate t m x v)
  (k e : TypeId) (Kd : Keyed P k) (ht : P.underlying t = some (.map k e)) (R : Value → Option (DataW H × List MemPlace)) (b n : Nat) (D : DataW H)
  (hm : a.eval m = .map (some b)) (hown : w.ownsMap P k R b n D) (hn : n < maxLen) (key val : Value) (kl : Lit) (hx : a.eval x = key) (hv : a.eval v = val) (hkey : keyOf P k key = some kl)
  (d : DataW H) (ps : List MemPlace) (hval : R val = some (d, ps))
  (h : ∀ w', w'.ownsMap P k R b (n + 1) (D.put kl d) → w.grownBy w' (some b) → K (a.put o.dst undef) w') : Oper.wp P o a w K Q := by
 obtain ⟨w', hrun, r1, r2⟩ := hown.update Kd ht hn hkey hval
 unfold Oper.wp
 simp [execOp, hop, hm, hx, hv, hrun, Result.andThen]
 exact h w' r1 r2
section
variable {w : World} {T G : Nat → Prop} {vb : Nat} {sup : List Nm} {l : FL} {s : ByteArray} {dv : Value} {d : List UInt8}
set_option maxHeartbeats 16000000 in
theorem vltPut (hV : Vlt w T vb sup l) (hs : s.size ≤ 10000) (hin : s.data.toList ∈ sup) (hno : fOf l s.data.toList = none) (hd : RdB w G dv d) (hG : ∀ b, G b → ¬ T b) (hdl : d.length ≤ 100000000) (hsl : sup.length ≤ 1000000) :
  Calls Tryz.prog 65 #[.pointer (some ⟨vb, 0, none⟩), .string s, dv] w fun e w' => e = .returned (.int .i64 0) ∧ ∃ u, Vlt w' (Ext T w w') vb sup (aPut klS s.data.toList (u, d) l) ∧ Chg T w w' := by
 obtain ⟨mv, F, hb, hF, f1, f2, f3, f4⟩ := hV
 obtain ⟨DA, dc, rfl, _, _⟩ := hd.shape
 have hc0 := hb.cell 0
 have hz0 := hb.frozen 0
 simp at hc0
 obtain ⟨x, hx, hlk0⟩ := hF.lookV s (by unfold maxLen; omega)
 have hlk := hlk0 w (Chg.refl _ _)
 rw [hno] at hlk hx
 have hlen := hF.len
 have hkey := keyOf_s s (by unfold maxLen; omega)
 have HD := hide (And.intro hd hdl)
 have HB := hide hb
 have HFL := hide hF
 have HF := hide (And.intro f1 (And.intro f2 (And.intro f3 f4)))
 have HI := hide (And.intro hin (And.intro hlen hsl))
 clear hb hF f1 f2 f3 f4 hlk0 hd hdl hin hlen hsl hno
 obtain ⟨r, rfl⟩ := HFL.out.form
 obtain ⟨XA, xc, rfl, _, _⟩ := hx.shape
 simp only [Option.getD_none, List.length_nil] at hlk
 clear hx
 have hnm := fun w => run_eql_map_nil (P := Tryz.prog) w 114 9 30 r Tryz.underlying114
 cases r with
 | none =>
  have hmk := @run_makeMap Tryz.prog
  have hnm1 : ∀ w, (binOp .eql 114 (.map none) (.map none)).run Tryz.prog w = .ok (.bool true) w := fun w => hnm w
  clear hnm
  go_enter Tryz.func65, Tryz.ntmps65
  go_upto_region 7 with fail
  have hca := (Chg.refl Non w).alloc (.map #[] 0)
  have hnew := FsL.new w sup F
  have hsz := sizeAl' w (.map #[] 0)
  have hba := HB.out.c0 hca
  have y0 := hba.cell 0
  have y1 := hba.frozen 0
  simp at y0
  obtain ⟨B, hB⟩ : ∃ B, B = w.heap.size := ⟨_, rfl⟩
  obtain ⟨w1, hw1⟩ : ∃ w1, w1 = w.alloc (.map #[] 0) := ⟨_, rfl⟩
  rw [← hB, ← hw1] at hnew
  rw [← hw1] at hca hba y0 y1
  rw [hw1] at y0 y1
  go_upto_region 8 with fail
  rw [← hw1]
  have hb2 := hba.set_ 0 (.map (some B))
  simp at hb2
  have hc2 : Chg (fun k => k = vb) w1 (w1.setCell ⟨vb, 0, none⟩ (.map (some B))) := Chg.setCell (p := ⟨vb, 0, none⟩) (Chg.refl (fun k => k = vb) w1) (fun _ => rfl) _
  have hl0 : l = [] := by rcases HFL.out.map with ⟨_, h⟩ | ⟨B', h, _⟩; exact h; cases h
  have hvl := HB.out.lt
  rw [← hl0] at hnew
  have hf2 := hnew.chg hc2 (fun b hb e => (HF.out.1 b hb).2.1 e) (fun B' e e2 => by injection e with e; injection e with e; have e2 : B' = vb := e2; omega)
  rw [← hB]
  clear y0 y1 hnew hba hl0
  generalize World.setCell w1 _ _ = w2 at hb2 hc2 hf2 ⊢
  have n2 := hc2.size
  have hsz1 : w1.heap.size = w.heap.size + 1 := by rw [hw1]; exact hsz
  have C1 := hide ((hca.mono (S' := T) fun _ _ h => (h : False).elim).trans hc2 fun b hb e => by have e : b = vb := e; rw [e]; exact HF.out.2.2.1)
  have V1 := hide (And.intro hb2 (And.intro hf2 (And.intro (show ∀ b, F b → b < w.heap.size from fun b hb => HF.out.2.2.2 b (HF.out.1 b hb).1) (show w.heap.size ≤ B ∧ B < w2.heap.size from ⟨by omega, by omega⟩))))
  have HD1 := hide ((HD.out.1.lt.c0 hca).chg hc2 fun b hb e => hG b hb.1 (by have e : b = vb := e; rw [e]; exact HF.out.2.2.1))
  have HFF := hide (show (∀ b, F b → Ext T w w2 b ∧ b ≠ vb ∧ b ≠ B) ∧ (Ext T w w2 B ∧ B ≠ vb) ∧ Ext T w w2 vb from ⟨fun b hb => ⟨.inl (HF.out.1 b hb).1, (HF.out.1 b hb).2.1, by have := HF.out.2.2.2 b (HF.out.1 b hb).1; omega⟩, ⟨.inr ⟨by omega, by omega⟩, by omega⟩, .inl HF.out.2.2.1⟩)
  clear hca hsz hB hw1 hb2 hc2 hf2 hsz1 n2 hlk hnm1 hmk hc0 hz0 hvl
  refine wp_region_T (Chg Non w2) 7 (by kernel_rfl) ?_
  have HW0 := hide ((Chg.refl Non w2).drew)
  generalize World.drew w2 = x0 at HW0 ⊢
  refine AnyT.takeM (i := 0) (v := ?_) rfl (by kernel_rfl) (by kernel_rfl) (fun _ _ _ h => h) (by kernel_rfl) (by kernel_rfl) (Or.inl ⟨by rfl, ?_⟩) HW0.out ?_
  rotate_left
  ·(intro w9 h9; go_simp; try with_reducible rfl)
  try simp only [lz1, lz2, lz3, Act.put, lz4, lz5, lz6]
  refine AnyT.takeM (i := 1) (v := ?_) rfl (by kernel_rfl) (by kernel_rfl) (fun _ _ _ h => h) (by kernel_rfl) (by kernel_rfl) (Or.inl ⟨by rfl, ?_⟩) HW0.out ?_
  rotate_left
  ·(intro w9 h9; go_simp; try with_reducible rfl)
  try simp only [lz1, lz2, lz3, Act.put, lz4, lz5, lz6]
  refine AnyT.takeM (i := 2) (v := ?_) rfl (by kernel_rfl) (by kernel_rfl) (fun _ _ _ h => h) (by kernel_rfl) (by kernel_rfl) (Or.inl ⟨by rfl, ?_⟩) HW0.out ?_
  rotate_left
  ·(intro w9 h9; go_simp; try with_reducible rfl)
  try simp only [lz1, lz2, lz3, Act.put, lz4, lz5, lz6]
  refine AnyT.takeM (i := 3) (v := ?_) rfl (by kernel_rfl) (by kernel_rfl) (fun _ _ _ h => h) (by kernel_rfl) (by kernel_rfl) (Or.inl ⟨by rfl, ?_⟩) HW0.out ?_
  rotate_left
  ·(intro w9 h9; have y0 := (V1.out.1.c0 h9).cell 0; simp at y0; go_simp; try with_reducible rfl)
  try simp only [lz1, lz2, lz3, Act.put, lz4, lz5, lz6]
  refine AnyT.takeM (i := 4) (v := ?_) rfl (by kernel_rfl) (by kernel_rfl) (fun _ _ _ h => h) (by kernel_rfl) (by kernel_rfl) (Or.inl ⟨by rfl, ?_⟩) HW0.out ?_
  rotate_left
  ·(intro w9 h9; go_simp; try with_reducible rfl)
  try simp only [lz1, lz2, lz3, Act.put, lz4, lz5, lz6]
  refine AnyT.takeM (i := 5) (v := ?_) rfl (by kernel_rfl) (by kernel_rfl) (fun _ _ _ h => h) (by kernel_rfl) (by kernel_rfl) (Or.inl ⟨by rfl, ?_⟩) HW0.out ?_
  rotate_left
  ·(intro w9 h9; go_simp; try with_reducible rfl)
  try simp only [lz1, lz2, lz3, Act.put, lz4, lz5, lz6]
  refine AnyT.one (i := 6) (by kernel_rfl) rfl (fun K hK => ?_)
  rw [if_pos (by rfl)]
  try simp only [lz1, lz2, lz3, Act.put, lz4, lz5, lz6]
  have hcc := bytesClone (HD1.out.c0 HW0.out) (by have := HD.out.2; omega)
  go_wp2_with (go_at_call 38; refine hcc.mono ?_; rintro e x1 ⟨u, rfl, hu, hc⟩)
  obtain ⟨UA, un, uc, rfl⟩ := hu.shapeH
  have HW1 := hide (HW0.out.trans0 hc)
  refine hK.out _ _ (fun _ => HW1.out) ?_
  have HU := hide (And.intro hu HW0.out.size)
  clear hcc hu hc
  clear hK K
  try simp only [lz1, lz2, lz3, Act.put, lz4, lz5, lz6]
  refine AnyT.one (i := 7) (by kernel_rfl) rfl (fun K hK => ?_)
  rw [if_pos (by rfl)]
  try simp only [lz1, lz2, lz3, Act.put, lz4, lz5, lz6]
  have hml : w2.ownsMap Tryz.prog 9 heldR B l.length (datS l) := by rcases V1.out.2.1.map with ⟨h, _⟩ | ⟨B2, h, hm⟩; cases h; injection h with h; injection h with h; rw [h]; exact hm
  refine oper_M _ _ _ 114 rfl 9 30 keyF Tryz.underlying114 heldR B l.length _ rfl (ownsMap_chg hml HW1.out (fun h => h)) (by have := HI.out; unfold maxLen; omega) _ _ (klS s.data.toList) rfl rfl hkey (.held (.slice UA un uc)) [] rfl ?_
  intro x2 hm5 hg5
  refine hK.out _ _ (fun h => absurd h (by decide)) ?_
  have hc5 : Chg (fun k => k = B) x1 x2 := (Chg.of_grown hg5).mono fun b _ e => by injection e
  have HM := hide (And.intro hm5 hc5)
  clear hm5 hg5 hc5 hml
  clear hK K
  try simp only [lz1, lz2, lz3, Act.put, lz4, lz5, lz6]
  refine AnyT.nil (by kernel_rfl) ?_
  go_wp2_with fail
  go_ret
  have hF2 := V1.out.2.1
  have n1 := C1.out.size
  have nx := HW0.out.size
  have n2 := HW1.out.size
  have n3 := HM.out.2.size
  have hu := HU.out.1
  have hul := hu.lt
  have hff := HFF.out
  have hold : ∀ b, F b → b < w.heap.size := V1.out.2.2.1
  have hBl : B < w2.heap.size := hF2.lt rfl
  have hf9 := ((hF2.chg HW1.out (fun _ _ h => h) (fun _ _ h => h)).mono (F' := fun b => F b ∨ (w2.heap.size ≤ b ∧ b < x1.heap.size)) fun b hb => .inl hb).put (k := s.data.toList) (x := .slice UA un uc) (b := d) (fun b hb e => by rcases hb with hb | hb; exact (hff.1 b hb).2.2 e; omega) HM.out.2 HI.out.1 (hu.rdB.mono fun b hb => .inr ⟨by have := HU.out.2; omega, hb.2⟩) HM.out.1
  refine ⟨rfl, _, ⟨_, _, ((V1.out.1.c0 HW1.out).chg HM.out.2 (fun e => hff.2.1.2 e.symm)), hf9, fun b hb => ?_, fun B' e => ?_, ?_, fun b hb => ?_⟩, (C1.out.trans0 HW1.out).trans HM.out.2 fun b hb e => ?_⟩
  ·rcases hb with hb | hb
   ·exact ⟨(hff.1 b hb).1.up (by omega), (hff.1 b hb).2.1, fun B' e => by injection e with e; injection e with e; rw [← e]; exact (hff.1 b hb).2.2⟩
   ·exact ⟨.inr ⟨by omega, by omega⟩, fun e => by have := V1.out.1.lt; omega, fun B' e => by injection e with e; injection e with e; omega⟩
  ·injection e with e; injection e with e
   rw [← e]
   exact ⟨hff.2.1.1.up (by omega), hff.2.1.2⟩
  ·exact hff.2.2.up (by omega)
  ·rcases hb with hb | hb
   ·have := HF.out.2.2.2 b hb; omega
   ·exact hb.2
  ·have e : b = B := e
   rw [e]
   rw [e] at hb
   rcases hff.2.1.1 with h | h
   ·exact h
   ·omega
 | some B =>
  have hnm1 : ∀ w, (binOp .eql 114 (.map (some B)) (.map none)).run Tryz.prog w = .ok (.bool false) w := fun w => hnm w
  clear hnm
  go_enter Tryz.func65, Tryz.ntmps65
  go_upto_region 8 with fail
  have C1 := hide (Chg.refl T w)
  have HD1 := hide HD.out.1.lt
  have HFF := hide (show (∀ b, F b → Ext T w w b ∧ b ≠ vb ∧ b ≠ B) ∧ (Ext T w w B ∧ B ≠ vb) ∧ Ext T w w vb from ⟨fun b hb => ⟨.inl (HF.out.1 b hb).1, (HF.out.1 b hb).2.1, (HF.out.1 b hb).2.2 B rfl⟩, ⟨.inl (HF.out.2.1 B rfl).1, (HF.out.2.1 B rfl).2⟩, .inl HF.out.2.2.1⟩)
  have V1 := hide (And.intro HB.out (And.intro HFL.out (And.intro (show ∀ b, F b → b < w.heap.size from fun b hb => HF.out.2.2.2 b (HF.out.1 b hb).1) (show True from trivial))))
  clear hlk hnm1 hc0 hz0
  refine wp_region_T (Chg Non w) 7 (by kernel_rfl) ?_
  have HW0 := hide ((Chg.refl Non w).drew)
  generalize World.drew w = x0 at HW0 ⊢
  refine AnyT.takeM (i := 0) (v := ?_) rfl (by kernel_rfl) (by kernel_rfl) (fun _ _ _ h => h) (by kernel_rfl) (by kernel_rfl) (Or.inl ⟨by rfl, ?_⟩) HW0.out ?_
  rotate_left
  ·(intro w9 h9; go_simp; try with_reducible rfl)
  try simp only [lz1, lz2, lz3, Act.put, lz4, lz5, lz6]
  refine AnyT.takeM (i := 1) (v := ?_) rfl (by kernel_rfl) (by kernel_rfl) (fun _ _ _ h => h) (by kernel_rfl) (by kernel_rfl) (Or.inl ⟨by rfl, ?_⟩) HW0.out ?_
  rotate_left
  ·(intro w9 h9; go_simp; try with_reducible rfl)
  try simp only [lz1, lz2, lz3, Act.put, lz4, lz5, lz6]
  refine AnyT.takeM (i := 2) (v := ?_) rfl (by kernel_rfl) (by kernel_rfl) (fun _ _ _ h => h) (by kernel_rfl) (by kernel_rfl) (Or.inl ⟨by rfl, ?_⟩) HW0.out ?_
  rotate_left
  ·(intro w9 h9; go_simp; try with_reducible rfl)
  try simp only [lz1, lz2, lz3, Act.put, lz4, lz5, lz6]
  refine AnyT.takeM (i := 3) (v := ?_) rfl (by kernel_rfl) (by kernel_rfl) (fun _ _ _ h => h) (by kernel_rfl) (by kernel_rfl) (Or.inl ⟨by rfl, ?_⟩) HW0.out ?_
  rotate_left
  ·(intro w9 h9; have y0 := (V1.out.1.c0 h9).cell 0; simp at y0; go_simp; try with_reducible rfl)
  try simp only [lz1, lz2, lz3, Act.put, lz4, lz5, lz6]
  refine AnyT.takeM (i := 4) (v := ?_) rfl (by kernel_rfl) (by kernel_rfl) (fun _ _ _ h => h) (by kernel_rfl) (by kernel_rfl) (Or.inl ⟨by rfl, ?_⟩) HW0.out ?_
  rotate_left
  ·(intro w9 h9; go_simp; try with_reducible rfl)
  try simp only [lz1, lz2, lz3, Act.put, lz4, lz5, lz6]
  refine AnyT.takeM (i := 5) (v := ?_) rfl (by kernel_rfl) (by kernel_rfl) (fun _ _ _ h => h) (by kernel_rfl) (by kernel_rfl) (Or.inl ⟨by rfl, ?_⟩) HW0.out ?_
  rotate_left
  ·(intro w9 h9; go_simp; try with_reducible rfl)
  try simp only [lz1, lz2, lz3, Act.put, lz4, lz5, lz6]
  refine AnyT.one (i := 6) (by kernel_rfl) rfl (fun K hK => ?_)
  rw [if_pos (by rfl)]
  try simp only [lz1, lz2, lz3, Act.put, lz4, lz5, lz6]
  have hcc := bytesClone (HD1.out.c0 HW0.out) (by have := HD.out.2; omega)
  go_wp2_with (go_at_call 38; refine hcc.mono ?_; rintro e x1 ⟨u, rfl, hu, hc⟩)
  obtain ⟨UA, un, uc, rfl⟩ := hu.shapeH
  have HW1 := hide (HW0.out.trans0 hc)
  refine hK.out _ _ (fun _ => HW1.out) ?_
  have HU := hide (And.intro hu HW0.out.size)
  clear hcc hu hc
  clear hK K
  try simp only [lz1, lz2, lz3, Act.put, lz4, lz5, lz6]
  refine AnyT.one (i := 7) (by kernel_rfl) rfl (fun K hK => ?_)
  rw [if_pos (by rfl)]
  try simp only [lz1, lz2, lz3, Act.put, lz4, lz5, lz6]
  have hml : w.ownsMap Tryz.prog 9 heldR B l.length (datS l) := by rcases V1.out.2.1.map with ⟨h, _⟩ | ⟨B2, h, hm⟩; cases h; injection h with h; injection h with h; rw [h]; exact hm
  refine oper_M _ _ _ 114 rfl 9 30 keyF Tryz.underlying114 heldR B l.length _ rfl (ownsMap_chg hml HW1.out (fun h => h)) (by have := HI.out; unfold maxLen; omega) _ _ (klS s.data.toList) rfl rfl hkey (.held (.slice UA un uc)) [] rfl ?_
  intro x2 hm5 hg5
  refine hK.out _ _ (fun h => absurd h (by decide)) ?_
  have hc5 : Chg (fun k => k = B) x1 x2 := (Chg.of_grown hg5).mono fun b _ e => by injection e
  have HM := hide (And.intro hm5 hc5)
  clear hm5 hg5 hc5 hml
  clear hK K
  try simp only [lz1, lz2, lz3, Act.put, lz4, lz5, lz6]
  refine AnyT.nil (by kernel_rfl) ?_
  go_wp2_with fail
  go_ret
  have hF2 := V1.out.2.1
  have n1 := C1.out.size
  have nx := HW0.out.size
  have n2 := HW1.out.size
  have n3 := HM.out.2.size
  have hu := HU.out.1
  have hul := hu.lt
  have hff := HFF.out
  have hold : ∀ b, F b → b < w.heap.size := V1.out.2.2.1
  have hBl : B < w.heap.size := hF2.lt rfl
  have hf9 := ((hF2.chg HW1.out (fun _ _ h => h) (fun _ _ h => h)).mono (F' := fun b => F b ∨ (w.heap.size ≤ b ∧ b < x1.heap.size)) fun b hb => .inl hb).put (k := s.data.toList) (x := .slice UA un uc) (b := d) (fun b hb e => by rcases hb with hb | hb; exact (hff.1 b hb).2.2 e; omega) HM.out.2 HI.out.1 (hu.rdB.mono fun b hb => .inr ⟨by have := HU.out.2; omega, hb.2⟩) HM.out.1
  refine ⟨rfl, _, ⟨_, _, ((V1.out.1.c0 HW1.out).chg HM.out.2 (fun e => hff.2.1.2 e.symm)), hf9, fun b hb => ?_, fun B' e => ?_, ?_, fun b hb => ?_⟩, (C1.out.trans0 HW1.out).trans HM.out.2 fun b hb e => ?_⟩
  ·rcases hb with hb | hb
   ·exact ⟨(hff.1 b hb).1.up (by omega), (hff.1 b hb).2.1, fun B' e => by injection e with e; injection e with e; rw [← e]; exact (hff.1 b hb).2.2⟩
   ·exact ⟨.inr ⟨by omega, by omega⟩, fun e => by have := V1.out.1.lt; omega, fun B' e => by injection e with e; injection e with e; omega⟩
  ·injection e with e; injection e with e
   rw [← e]
   exact ⟨hff.2.1.1.up (by omega), hff.2.1.2⟩
  ·exact hff.2.2.up (by omega)
  ·rcases hb with hb | hb
   ·have := HF.out.2.2.2 b hb; omega
   ·exact hb.2
  ·have e : b = B := e
   rw [e]
   rw [e] at hb
   rcases hff.2.1.1 with h | h
   ·exact h
   ·omega
end
end Go.Proofs.YtliimeoblffigaaGreat

set_option maxRecDepth 100000
namespace Go.Proofs.YtliimeoblffigaaGreat
open Go.RowKit Go.Maps
set_option linter.unusedVariables false
set_option linter.unusedSimpArgs false

section
variable {w : World} {T G : Nat → Prop} {vb b : Nat} {sup : List Nm} {l : FL} {s pre x : ByteArray} {dv : Value} {d : List UInt8}
set_option maxHeartbeats 8000000 in
theorem vltGet (hV : Vlt w T vb sup l) (hs : s.size ≤ 10000) (hyes : fOf l s.data.toList = some d) (hdl : d.length ≤ 100000000) :
  Calls Tryz.prog 68 #[.pointer (some ⟨vb, 0, none⟩), .string s] w fun e w' => ∃ u, e = .returned (.tuple #[u, .int .i64 0]) ∧ OwnB w' w.heap.size u d ∧ Chg Non w w' := by
 obtain ⟨mv, F, hb, hF, f1, f2, f3, f4⟩ := hV
 have hc0 := hb.cell 0
 simp at hc0
 obtain ⟨x, hx, hlk0⟩ := hF.lookV s (by unfold maxLen; omega)
 have hlk := hlk0 w (Chg.refl _ _)
 rw [hyes] at hlk hx
 obtain ⟨r, rfl⟩ := hF.form
 have hcl := bytesClone hx (by rw [Option.getD_some]; omega)
 obtain ⟨XA, xc, rfl, _, _⟩ := hx.shape
 clear hx hlk0 hyes hF f1 f2 f3 f4 hb
 rw [Option.getD_some] at hlk hcl
 obtain ⟨dn, hdn⟩ : ∃ n, n = d.length := ⟨_, rfl⟩
 rw [← hdn] at hlk hcl
 clear hdn
 go_enter Tryz.func68, Tryz.ntmps68
 go_wp2_with (go_at_call 38; refine hcl.mono ?_; rintro e w1 ⟨u, rfl, hu, hc⟩)
 go_ret2
 exact ⟨u, rfl, hu, hc⟩
set_option maxHeartbeats 8000000 in
theorem shStore (hV : Vlt w T vb sup l) (hz : pre.size + x.size ≤ 10000) (hin : (pre ++ x).data.toList ∈ sup) (hno : fOf l (pre ++ x).data.toList = none) (hd : RdB w G dv d) (hG : ∀ b, G b → ¬ T b) (hdl : d.length ≤ 100000000) (hsl : sup.length ≤ 1000000) (hx : w.cell? ⟨b, 0, none⟩ = some (.string x)) :
  Calls Tryz.prog 24 #[.agg #[.pointer (some ⟨vb, 0, none⟩), .string pre], dv, .slice (some ⟨b, 0, none⟩) 1 1] w fun e w' => e = .returned (.int .i64 0) ∧ ∃ u, Vlt w' (Ext T w w') vb sup (aPut klS (pre ++ x).data.toList (u, d) l) ∧ Chg T w w' := by
 obtain ⟨DA, dc, rfl, _, _⟩ := hd.shape
 have hb := Blk.new w 65 #[.pointer (some ⟨vb, 0, none⟩), .string pre]
 have hc := (Chg.refl Non w).alloc (.cells #[.pointer (some ⟨vb, 0, none⟩), .string pre] 65)
 have hxl := World.block_lt_of_cell? w _ hx
 obtain ⟨w1, hw1⟩ : ∃ w1, w1 = w.alloc (.cells #[.pointer (some ⟨vb, 0, none⟩), .string pre] 65) := ⟨_, rfl⟩
 rw [← hw1] at hb hc
 have HV := hide (hV.c0 hc)
 have HD := hide (And.intro (hd.lt.c0 hc) hdl)
 have HX := hide (hc.cell hx (fun h => h))
 have HB := hide hb
 have HC := hide hc
 have HI := hide (And.intro hin (And.intro hno (And.intro hsl hz)))
 clear hV hd hx hb hc hin hno hsl hdl
 go_enter Tryz.func24, Tryz.ntmps24
 go_upto_region 1 with fail
 obtain ⟨N, hN⟩ : ∃ N, N = w.heap.size := ⟨_, rfl⟩
 rw [← hw1]
 rw [← hN] at HB ⊢
 clear hw1 hN
 refine wp_region_T (Chg Non w1) 6 (by kernel_rfl) ?_
 have HW0 := hide ((Chg.refl Non w1).drew)
 generalize World.drew w1 = x0 at HW0 ⊢
 refine AnyT.takeM (i := 0) (v := ?_) rfl (by kernel_rfl) (by kernel_rfl) (fun _ _ _ h => h) (by kernel_rfl) (by kernel_rfl) (Or.inl ⟨by rfl, ?_⟩) HW0.out ?_
 rotate_left
 ·(intro w9 h9; go_simp; try with_reducible rfl)
 try simp only [lz1, lz2, lz3, Act.put, lz4, lz5, lz6]
 refine AnyT.takeM (i := 1) (v := ?_) rfl (by kernel_rfl) (by kernel_rfl) (fun _ _ _ h => h) (by kernel_rfl) (by kernel_rfl) (Or.inl ⟨by rfl, ?_⟩) HW0.out ?_
 rotate_left
 ·(intro w9 h9; obtain ⟨y0, y1⟩ := blk2 (HB.out.c0 h9); go_simp; try with_reducible rfl)
 try simp only [lz1, lz2, lz3, Act.put, lz4, lz5, lz6]
 refine AnyT.takeM (i := 2) (v := ?_) rfl (by kernel_rfl) (by kernel_rfl) (fun _ _ _ h => h) (by kernel_rfl) (by kernel_rfl) (Or.inl ⟨by rfl, ?_⟩) HW0.out ?_
 rotate_left
 ·(intro w9 h9; obtain ⟨y0, y1⟩ := blk2 (HB.out.c0 h9); go_simp; try with_reducible rfl)
 try simp only [lz1, lz2, lz3, Act.put, lz4, lz5, lz6]
 refine AnyT.takeM (i := 3) (v := ?_) rfl (by kernel_rfl) (by kernel_rfl) (fun _ _ _ h => h) (by kernel_rfl) (by kernel_rfl) (Or.inl ⟨by rfl, ?_⟩) HW0.out ?_
 rotate_left
 ·(intro w9 h9; go_simp; try with_reducible rfl)
 try simp only [lz1, lz2, lz3, Act.put, lz4, lz5, lz6]
 refine AnyT.takeM (i := 5) (v := ?_) rfl (by kernel_rfl) (by kernel_rfl) (fun _ _ _ h => h) (by kernel_rfl) (by kernel_rfl) (Or.inl ⟨by rfl, ?_⟩) HW0.out ?_
 rotate_left
 ·(intro w9 h9; go_simp; try with_reducible rfl)
 try simp only [lz1, lz2, lz3, Act.put, lz4, lz5, lz6]
 refine AnyT.one (i := 4) (by kernel_rfl) rfl (fun K hK => ?_)
 rw [if_pos (by rfl)]
 try simp only [lz1, lz2, lz3, Act.put, lz4, lz5, lz6]
 have hcc := vltPath (vb := vb) (pre := pre) HI.out.2.2.2 (HW0.out.cell HX.out (fun h => h))
 go_wp2_with (go_at_call 66; refine hcc.mono ?_; rintro e x1 ⟨rfl, hc⟩)
 have HW1 := hide (HW0.out.trans0 hc)
 refine hK.out _ _ (fun _ => HW1.out) ?_
 clear hcc hc
 clear hK K
 try simp only [lz1, lz2, lz3, Act.put, lz4, lz5, lz6]
 refine AnyT.one (i := 6) (by kernel_rfl) rfl (fun K hK => ?_)
 rw [if_pos (by rfl)]
 try simp only [lz1, lz2, lz3, Act.put, lz4, lz5, lz6]
 have hcc := vltPut (HV.out.c0 HW1.out) (s := pre ++ x) (by rw [ByteArray.size_append]; exact HI.out.2.2.2) HI.out.1 HI.out.2.1 (HD.out.1.c0 HW1.out) (fun b hb => hG b hb.1) HD.out.2 HI.out.2.2.1
 go_wp2_with (go_at_call 65; refine hcc.mono ?_; rintro e x2 ⟨rfl, hp⟩)
 refine hK.out _ _ (fun h => absurd h (by decide)) ?_
 have HP := hide hp
 clear hcc hp
 clear hK K
 try simp only [lz1, lz2, lz3, Act.put, lz4, lz5, lz6]
 refine AnyT.takeL (i := 7) (v := ?_) rfl (by kernel_rfl) (by kernel_rfl) (fun _ _ _ h => h) (by kernel_rfl) (by kernel_rfl) (Or.inl ⟨by rfl, ?_⟩) ?_
 rotate_left
 ·(intro w9; go_simp; try with_reducible rfl)
 try simp only [lz1, lz2, lz3, Act.put, lz4, lz5, lz6]
 refine AnyT.nil (by kernel_rfl) ?_
 go_wp2_with fail
 go_ret
 obtain ⟨u, h1, h2⟩ := HP.out
 have n1 := HC.out.size
 have n2 := HW1.out.size
 have n3 := h2.size
 obtain ⟨mv, F, g1, g2, g3, g4, g5, g6⟩ := h1
 have hup : ∀ b, Ext T x1 x2 b → Ext T w x2 b := fun b h => h.back (by omega)
 refine ⟨rfl, u, ⟨mv, F, g1, g2, fun b hb => ⟨hup b (g3 b hb).1, (g3 b hb).2⟩, fun B e => ⟨hup B (g4 B e).1, (g4 B e).2⟩, hup _ g5, fun b hb => ?_⟩, ((HC.out.trans0 HW1.out).mono (S' := T) fun _ _ h => (h : False).elim).trans h2 fun b _ h => h⟩
 rcases hb with h | h
 ·exact g6 b (.inl h)
 ·exact h.2
set_option maxHeartbeats 8000000 in
theorem shFetch (hV : Vlt w T vb sup l) (hz : pre.size + x.size ≤ 10000) (hyes : fOf l (pre ++ x).data.toList = some d) (hdl : d.length ≤ 100000000) (hx : w.cell? ⟨b, 0, none⟩ = some (.string x)) :
  Calls Tryz.prog 28 #[.agg #[.pointer (some ⟨vb, 0, none⟩), .string pre], .slice (some ⟨b, 0, none⟩) 1 1] w fun e w' => ∃ u, e = .returned (.tuple #[u, .int .i64 0]) ∧ OwnB w' w.heap.size u d ∧ Chg Non w w' := by
 have hb := Blk.new w 65 #[.pointer (some ⟨vb, 0, none⟩), .string pre]
 have hc := (Chg.refl Non w).alloc (.cells #[.pointer (some ⟨vb, 0, none⟩), .string pre] 65)
 obtain ⟨w1, hw1⟩ : ∃ w1, w1 = w.alloc (.cells #[.pointer (some ⟨vb, 0, none⟩), .string pre] 65) := ⟨_, rfl⟩
 rw [← hw1] at hb hc
 have HV := hide (hV.c0 hc)
 have HX := hide (hc.cell hx (fun h => h))
 have HB := hide hb
 have HC := hide hc
 have HI := hide (And.intro hyes (And.intro hdl hz))
 clear hV hx hb hc hyes hdl
 go_enter Tryz.func28, Tryz.ntmps28
 go_upto_region 1 with fail
 obtain ⟨N, hN⟩ : ∃ N, N = w.heap.size := ⟨_, rfl⟩
 rw [← hw1]
 rw [← hN] at HB ⊢
 clear hw1 hN
 refine wp_region_T (Chg Non w1) 5 (by kernel_rfl) ?_
 have HW0 := hide ((Chg.refl Non w1).drew)
 generalize World.drew w1 = x0 at HW0 ⊢
 refine AnyT.takeM (i := 0) (v := ?_) rfl (by kernel_rfl) (by kernel_rfl) (fun _ _ _ h => h) (by kernel_rfl) (by kernel_rfl) (Or.inl ⟨by rfl, ?_⟩) HW0.out ?_
 rotate_left
 ·(intro w9 h9; go_simp; try with_reducible rfl)
 try simp only [lz1, lz2, lz3, Act.put, lz4, lz5, lz6]
 refine AnyT.takeM (i := 1) (v := ?_) rfl (by kernel_rfl) (by kernel_rfl) (fun _ _ _ h => h) (by kernel_rfl) (by kernel_rfl) (Or.inl ⟨by rfl, ?_⟩) HW0.out ?_
 rotate_left
 ·(intro w9 h9; obtain ⟨y0, y1⟩ := blk2 (HB.out.c0 h9); go_simp; try with_reducible rfl)
 try simp only [lz1, lz2, lz3, Act.put, lz4, lz5, lz6]
 refine AnyT.takeM (i := 2) (v := ?_) rfl (by kernel_rfl) (by kernel_rfl) (fun _ _ _ h => h) (by kernel_rfl) (by kernel_rfl) (Or.inl ⟨by rfl, ?_⟩) HW0.out ?_
 rotate_left
 ·(intro w9 h9; obtain ⟨y0, y1⟩ := blk2 (HB.out.c0 h9); go_simp; try with_reducible rfl)
 try simp only [lz1, lz2, lz3, Act.put, lz4, lz5, lz6]
 refine AnyT.takeM (i := 3) (v := ?_) rfl (by kernel_rfl) (by kernel_rfl) (fun _ _ _ h => h) (by kernel_rfl) (by kernel_rfl) (Or.inl ⟨by rfl, ?_⟩) HW0.out ?_
 rotate_left
 ·(intro w9 h9; go_simp; try with_reducible rfl)
 try simp only [lz1, lz2, lz3, Act.put, lz4, lz5, lz6]
 refine AnyT.one (i := 4) (by kernel_rfl) rfl (fun K hK => ?_)
 rw [if_pos (by rfl)]
 try simp only [lz1, lz2, lz3, Act.put, lz4, lz5, lz6]
 have hcc := vltPath (vb := vb) (pre := pre) HI.out.2.2 (HW0.out.cell HX.out (fun h => h))
 go_wp2_with (go_at_call 66; refine hcc.mono ?_; rintro e x1 ⟨rfl, hc⟩)
 have HW1 := hide (HW0.out.trans0 hc)
 refine hK.out _ _ (fun _ => HW1.out) ?_
 clear hcc hc
 clear hK K
 try simp only [lz1, lz2, lz3, Act.put, lz4, lz5, lz6]
 refine AnyT.one (i := 5) (by kernel_rfl) rfl (fun K hK => ?_)
 rw [if_pos (by rfl)]
 try simp only [lz1, lz2, lz3, Act.put, lz4, lz5, lz6]
 have hcc := vltGet (HV.out.c0 HW1.out) (s := pre ++ x) (by rw [ByteArray.size_append]; exact HI.out.2.2) HI.out.1 HI.out.2.1
 go_wp2_with (go_at_call 68; refine hcc.mono ?_; rintro e x2 ⟨u, rfl, hu, hcu⟩; obtain ⟨UA, un, uc, rfl⟩ := hu.shapeH)
 refine hK.out _ _ (fun h => absurd h (by decide)) ?_
 have HP := hide (And.intro hu hcu)
 clear hcc hu hcu
 clear hK K
 try simp only [lz1, lz2, lz3, Act.put, lz4, lz5, lz6]
 refine AnyT.takeL (i := 6) (v := ?_) rfl (by kernel_rfl) (by kernel_rfl) (fun _ _ _ h => h) (by kernel_rfl) (by kernel_rfl) (Or.inl ⟨by rfl, ?_⟩) ?_
 rotate_left
 ·(intro w9; go_simp; try with_reducible rfl)
 try simp only [lz1, lz2, lz3, Act.put, lz4, lz5, lz6]
 refine AnyT.takeL (i := 7) (v := ?_) rfl (by kernel_rfl) (by kernel_rfl) (fun _ _ _ h => h) (by kernel_rfl) (by kernel_rfl) (Or.inl ⟨by rfl, ?_⟩) ?_
 rotate_left
 ·(intro w9; go_simp; try with_reducible rfl)
 try simp only [lz1, lz2, lz3, Act.put, lz4, lz5, lz6]
 refine AnyT.takeL (i := 8) (v := ?_) rfl (by kernel_rfl) (by kernel_rfl) (fun _ _ _ h => h) (by kernel_rfl) (by kernel_rfl) (Or.inl ⟨by rfl, ?_⟩) ?_
 rotate_left
 ·(intro w9; go_simp; try with_reducible rfl)
 try simp only [lz1, lz2, lz3, Act.put, lz4, lz5, lz6]
 refine AnyT.takeL (i := 9) (v := ?_) rfl (by kernel_rfl) (by kernel_rfl) (fun _ _ _ h => h) (by kernel_rfl) (by kernel_rfl) (Or.inl ⟨by rfl, ?_⟩) ?_
 rotate_left
 ·(intro w9; go_simp; try with_reducible rfl)
 try simp only [lz1, lz2, lz3, Act.put, lz4, lz5, lz6]
 refine AnyT.nil (by kernel_rfl) ?_
 go_wp2_with fail
 go_ret2
 have n1 := HC.out.size
 have n2 := HW1.out.size
 exact ⟨_, rfl, HP.out.1.low (by omega), (HC.out.trans0 HW1.out).trans0 HP.out.2⟩
end
end Go.Proofs.YtliimeoblffigaaGreat

set_option maxRecDepth 100000
namespace Go.Proofs.YtliimeoblffigaaGreat
open Go.RowKit Go.Maps Go.Sort Go.Lib
set_option linter.unusedVariables false

theorem listPred {bx : Nat} {p : ByteArray} {W : World} (hb : W.cell? ⟨bx, 0, none⟩ = some (.string p)) (x : List UInt8) :
  FnGives Tryz.prog 102 #[.pointer (some ⟨bx, 0, none⟩)] #[encStr x] (.bool (!Lib.hasPrefix x p.data.toList)) W := by
 show Calls Tryz.prog 102 #[.string ⟨x.toArray⟩, .pointer (some ⟨bx, 0, none⟩)] W _
 have hp := Tryz.strings_HasPrefix ⟨x.toArray⟩ p W
 go_enter Tryz.func102, Tryz.ntmps102
 go_wp2_with fail
 refine hp.mono ?_
 rintro e w1 ⟨rfl, hw⟩
 subst w1
 clear hp
 go_wp2_with fail
 go_ret
 exact ⟨rfl, 0, rfl⟩

theorem strKeys_dat (l : FL) : strKeys (datS l) = l.map (·.1) := by
 show (l.map fun p => (klS p.1, (DataW.held p.2.1 : DataW Value))).map (fun p => strOf p.1) = _
 rw [List.map_map]
 exact List.map_congr_left fun p _ => rfl
theorem chg_putRow {w : World} {blk q : Nat} {d : Array (List UInt8)} : Chg (fun k => k = blk) w (putRow encStr (Sort.ahead w q) blk 0 d) := by
 have h := grownBy_sorted (w := w) (g := blk) (n := q) (os := #[]) d
 rw [grow_empty] at h
 exact (Chg.of_grown h).mono fun k _ e => by injection e

theorem deleteNil (fv : Value) (w : World) : Calls Tryz.prog 101 #[.slice none 0 0, fv] w fun e w' => e = .returned (.slice none 0 0) ∧ w' = w := by
 have hi := Tryz.slices_IndexFunc_empty_f142 (α := List UInt8) none 0 fv w
 go_enter Tryz.func101, Tryz.ntmps101
 go_wp2_with fail
 refine hi.mono ?_
 rintro e w1 ⟨rfl, hw⟩
 subst w1
 clear hi
 go_wp2_with fail
 go_ret
 exact ⟨rfl, rfl⟩

set_option maxHeartbeats 4000000 in
theorem vltList {w : World} {T : Nat → Prop} {vb : Nat} {sup : List Nm} {l : FL} (hV : Vlt w T vb sup l) (hsl : sup.length ≤ 1000000) (p : ByteArray) :
  Calls Tryz.prog 67 #[.pointer (some ⟨vb, 0, none⟩), .string p] w fun e w' => ∃ (v : Value) (ss : List (List UInt8)), e = .returned v ∧ ss.Perm (l.map (·.1)) ∧ RdV w' (fun b => w.heap.size ≤ b ∧ b < w'.heap.size) 1 v ((ss.mergeSort (fun x y => decide (x ≤ y))).filter (fun x => Lib.hasPrefix x p.data.toList)).length (((ss.mergeSort (fun x y => decide (x ≤ y))).filter (fun x => Lib.hasPrefix x p.data.toList)).map encStr) ∧ Chg Non w w' := by
 obtain ⟨mv, F, hb, hl, f1, f2, f3, f4⟩ := hV
 have hlen := hl.len
 have k1 : w.cell? ⟨vb, 0, none⟩ = some mv := hb.cell 0
 obtain ⟨r, rfl⟩ := hl.form
 have hbx := (Chg.refl Non w).alloc (.cells #[.string p] 9)
 have k1b := hbx.cell k1 (fun h => h)
 have hbc : (w.alloc (.cells #[.string p] 9)).cell? ⟨w.heap.size, 0, none⟩ = some (.string p) := (Blk.new w 9 #[.string p]).cell 0
 have hlb := hl.chg hbx (fun _ _ h => h) (fun _ _ h => h)
 have hbs : (w.alloc (.cells #[.string p] 9)).heap.size = w.heap.size + 1 := by simp
 clear hb hl f1 f2 f3 f4 k1
 go_enter Tryz.func67, Tryz.ntmps67
 go_upto_region 1 with fail
 generalize w.alloc (.cells #[.string p] 9) = wb at hbx k1b hbc hlb hbs ⊢
 have hkeys := (callsIn_wide (n := 5)).1 (Tryz.maps_Keys_100 r wb)
 have hsort : Calls Tryz.prog 99 #[.func (.func 141) #[] #[.pointer (some ⟨wb.heap.size, 0, none⟩)]] (wb.alloc (.cells #[.map r] 114)) fun e w' => ∃ (v : Value) (ss : List (List UInt8)), e = .returned v ∧ ss.Perm (l.map (·.1)) ∧
   w'.ownsRow (wb.alloc (.cells #[.map r] 114)).heap.size 9 1 v ss.length ((ss.mergeSort (fun x y => decide (x ≤ y))).map encStr) ∧ Below (wb.alloc (.cells #[.map r] 114)).heap.size (wb.alloc (.cells #[.map r] 114)) w' := by
  rcases hlb.map with ⟨e, rfl⟩ | ⟨B, e, hm⟩
  ·injection e with e
   subst e
   refine ((callsIn_wide (n := 5)).1 (Tryz.slices_Sorted_keys_nil_99_100 wb)).mono ?_
   rintro e w' ⟨v, ss, rfl, rfl, h1, _, h2⟩
   exact ⟨v, [], rfl, .refl _, h1, h2⟩
  ·injection e with e
   subst e
   refine ((callsIn_wide (n := 5)).1 (Tryz.slices_Sorted_keys_99_100 B l.length (datS l) heldR wb hm (by rw [dat_size]; unfold maxLen; omega) (by rw [dat_size]; omega))).mono ?_
   rintro e w' ⟨v, ss, rfl, hp, h1, _, h2⟩
   exact ⟨v, ss, rfl, by rw [← strKeys_dat]; exact hp, h1, h2⟩
 have HBS := hide hbs
 clear hlb hlen hbs
 go_upto_region 2 with (first
  | (go_at_call 100; refine hkeys.mono ?_; rintro e w1 ⟨rfl, hw1⟩; subst w1)
  | (go_at_call 99; refine hsort.mono ?_; rintro e w2 ⟨v, ss, rfl, hss, hrow, hbel⟩))
 have hcw2 : Chg Non w w2 := (hbx.alloc _).trans0 (Chg.of_below hbel)
 have hbl : w.heap.size < w2.heap.size := by
  have h1 := hbel.size
  have h2 : (wb.alloc (.cells #[.map r] 114)).heap.size = wb.heap.size + 1 := by simp
  have h3 := HBS.out
  omega
 have hbc2 : w2.cell? ⟨w.heap.size, 0, none⟩ = some (.string p) := (((Chg.refl Non wb).alloc (.cells #[.map r] 114)).trans0 (Chg.of_below hbel)).cell hbc (fun h => h)
 have hrow2 := hrow
 rcases hrow.2 with ⟨rfl, hz⟩ | ⟨gb, cap, cur, rfl, hbase, hgb, r1, r2, r3, r4⟩
 ·-- no name at all
  have hdn := fun fv => deleteNil fv w2
  have hss0 : ss = [] := by
   have := hrow2.1
   exact List.eq_nil_of_length_eq_zero (by omega)
  have HSS := hide (And.intro hss hss0)
  clear hkeys hsort hrow hrow2 hss hss0
  go_wp2_with fail
  refine (hdn _).mono ?_
  rintro e w3 ⟨rfl, hw⟩
  subst w3
  clear hdn
  go_wp2_with fail
  go_ret
  refine ⟨_, ss, rfl, HSS.out.1, ?_, hcw2⟩
  rw [HSS.out.2]
  simp only [List.mergeSort_nil, List.filter_nil, List.length_nil, List.map_nil]
  exact RdV.nil_ _ _ 1
 ·obtain ⟨so, hso⟩ : ∃ so, so = ss.mergeSort (fun x y => decide (x ≤ y)) := ⟨_, rfl⟩
  have hsl2 : so.length = ss.length := by rw [hso, List.length_mergeSort]
  have HSS := hide (And.intro hss hso)
  rw [← hso, ← hsl2] at r4
  rw [← hsl2] at r1
  rw [Nat.mul_one] at r4
  have hH := holds_of_block hgb r4
  have HGB := hide (show gb < w2.heap.size from (Array.getElem?_eq_some_iff.1 hgb).1)
  have hgl : wb.heap.size < gb := by
   have h2 : (wb.alloc (.cells #[.map r] 114)).heap.size = wb.heap.size + 1 := by simp
   omega
  have hgw : w.heap.size < gb := by have h3 := HBS.out; omega
  have hp : PredAt Tryz.prog 102 #[.pointer (some ⟨w.heap.size, 0, none⟩)] encStr (fun x => !Lib.hasPrefix x p.data.toList) w2 := fun W x hb => listPred ((Chg.of_below hb).cell hbc2 (fun h => h)) x
  have hpo : PredOver Tryz.prog 102 #[.pointer (some ⟨w.heap.size, 0, none⟩)] encStr (fun x => !Lib.hasPrefix x p.data.toList) gb 0 so.toArray.size w2 := fun n os dk x _ => listPred (((Chg.of_grown (grownBy_sorted (w := w2) (g := gb) (n := n) (os := os) dk))).cell hbc2 (fun e => by injection e with e; exact Nat.ne_of_lt hgw (show w.heap.size = gb from e))) x
  have hdf := Tryz.slices_DeleteFunc encStr (fun _ => rfl) (fun x => !Lib.hasPrefix x p.data.toList) 102 #[.pointer (some ⟨w.heap.size, 0, none⟩)] (enters_of Tryz.func102 (by kernel_rfl) rfl) [] (fun w => by kernel_rfl) gb 0 cap so.toArray w2 hp hpo hH (by rw [List.size_toArray]; unfold maxLen at r2; omega) (by rw [List.size_toArray]; exact r1)
  rw [List.size_toArray, hsl2] at hdf
  simp only [Bool.not_not] at hdf
  obtain ⟨fl, hfl⟩ : ∃ fl, fl = so.filter (fun x => Lib.hasPrefix x p.data.toList) := ⟨_, rfl⟩
  rw [← hfl] at hdf
  have HFL := hide hfl
  have HH := hide hH
  have HSO := hide hsl2
  clear hkeys hsort hrow hrow2 hp hpo hH hso hss r4 hgb r3 hsl2 hfl
  go_wp2_with fail
  refine hdf.mono ?_
  rintro e w3 ⟨rfl, hq⟩
  have HQ := hide hq
  clear hdf hq
  go_wp2_with fail
  go_ret
  obtain ⟨q, hw3⟩ := HQ.out
  have hfl := HFL.out
  have hfll : fl.length ≤ so.length := by rw [hfl]; exact List.length_filter_le _ so
  have hsz3 : (fl ++ List.replicate (ss.length - fl.length) []).toArray.size = so.toArray.size := by
   have := HSO.out
   simp only [List.size_toArray, List.length_append, List.length_replicate]; omega
  have hso2 := HSS.out.2
  refine ⟨_, ss, rfl, HSS.out.1, ?_, hcw2.trans (by rw [hw3]; exact chg_putRow) fun k hk e => by
   have e : k = gb := e
   omega⟩
  rw [← hso2, ← hfl]
  refine ⟨by rw [List.length_map]; omega, some ⟨gb, 0, none⟩, cap, rfl, by have := HSO.out; omega, by omega, fun _ => ⟨_, rfl, ⟨by show w.heap.size ≤ gb; omega, ?_⟩, fun j u hu => ?_⟩⟩
  ·have h5 : gb < w2.heap.size := HGB.out
   have h6 : w2.heap.size ≤ w3.heap.size := by rw [hw3]; exact chg_putRow.size
   show gb < w3.heap.size
   omega
  ·rw [List.getElem?_map] at hu
   obtain ⟨y, hy, rfl⟩ := Option.map_eq_some_iff.1 hu
   obtain ⟨hj, rfl⟩ := List.getElem?_eq_some_iff.1 hy
   have h1 := cell?_putRow encStr (Sort.ahead w2 q) gb 0 so.toArray _ HH.out hsz3 j (by rw [hsz3, List.size_toArray]; omega)
   rw [Nat.zero_add] at h1
   rw [add_none, Nat.zero_add, hw3, h1]
   congr 2
   rw [getElem!_pos _ j (by rw [hsz3, List.size_toArray]; omega)]
   simp [List.getElem_append_left hj]
end Go.Proofs.YtliimeoblffigaaGreat

set_option maxRecDepth 100000
namespace Go.Proofs.YtliimeoblffigaaGreat
set_option linter.unusedVariables false

/-- one round of the reference's Put: (was it put?, what there is) -/
def rStep (k v : List UInt8) (s : Bool × List KV) (p : KV) : Bool × List KV :=
 let s1 := if 0 ≤ cmpB p.1 k ∧ s.1 = false then (true, s.2 ++ [(k, v)]) else s
 if cmpB p.1 k ≠ 0 then (s1.1, s1.2 ++ [p]) else s1
theorem step_lt {k v : List UInt8} {s : Bool × List KV} {p : KV} (h : cmpB p.1 k < 0) : rStep k v s p = (s.1, s.2 ++ [p]) := by
 have h1 : ¬ 0 ≤ cmpB p.1 k := by omega
 have h2 : cmpB p.1 k ≠ 0 := by omega
 simp [rStep, h1, h2]
theorem step_eqT {k v : List UInt8} {l : List KV} {p : KV} (h : cmpB p.1 k = 0) : rStep k v (true, l) p = (true, l) := by
 simp [rStep, h]
theorem step_eqF {k v : List UInt8} {l : List KV} {p : KV} (h : cmpB p.1 k = 0) : rStep k v (false, l) p = (true, l ++ [(k, v)]) := by
 simp [rStep, h]
theorem step_gtT {k v : List UInt8} {l : List KV} {p : KV} (h : 0 < cmpB p.1 k) : rStep k v (true, l) p = (true, l ++ [p]) := by
 have h2 : cmpB p.1 k ≠ 0 := by omega
 simp [rStep, h2]
theorem step_gtF {k v : List UInt8} {l : List KV} {p : KV} (h : 0 < cmpB p.1 k) : rStep k v (false, l) p = (true, l ++ [(k, v)] ++ [p]) := by
 have h1 : 0 ≤ cmpB p.1 k := by omega
 have h2 : cmpB p.1 k ≠ 0 := by omega
 simp [rStep, h1, h2]
theorem rStep_gone {k v : List UInt8} : ∀ (l acc : List KV), l.foldl (rStep k v) (true, acc) = (true, acc ++ kvDel k l)
 | [], acc => by simp [kvDel]
 | p :: l, acc => by
  rw [List.foldl_cons]
  by_cases h : cmpB p.1 k = 0
  ·rw [show rStep k v (true, acc) p = (true, acc) by simp [rStep, h], rStep_gone l acc]
   simp [kvDel, List.filter_cons, h]
  ·rw [show rStep k v (true, acc) p = (true, acc ++ [p]) by simp [rStep, h], rStep_gone l (acc ++ [p])]
   simp [kvDel, List.filter_cons, h]
theorem rStep_put {k v : List UInt8} : ∀ (l acc : List KV), UpL l → (if (l.foldl (rStep k v) (false, acc)).1 = true then (l.foldl (rStep k v) (false, acc)).2 else (l.foldl (rStep k v) (false, acc)).2 ++ [(k, v)]) = acc ++ kvPut k v l
 | [], acc, _ => by simp [kvPut]
 | p :: l, acc, hu => by
  obtain ⟨h1, h2⟩ := List.pairwise_cons.1 hu
  rw [List.foldl_cons]
  rcases Int.lt_trichotomy (cmpB p.1 k) 0 with h | h | h
  ·rw [step_lt h, rStep_put l (acc ++ [p]) h2, kvPut, if_pos h]
   simp
  ·have hn : kvDel k l = l := kvDel_none fun q hq => by
    have h3 := h1 q hq
    rw [(cmpB_eq_zero _ _).1 h] at h3
    have h4 := cmpB_neg k q.1
    omega
   rw [step_eqF h, rStep_gone, hn, if_pos rfl, kvPut, if_neg (by omega), if_pos h]
   simp
  ·have hk : cmpB k p.1 < 0 := by have := cmpB_neg p.1 k; omega
   have hn : kvDel k l = l := kvDel_none fun q hq => by
    have h3 := cmpB_trans hk (h1 q hq)
    have h4 := cmpB_neg k q.1
    omega
   rw [step_gtF h, rStep_gone, hn, if_pos rfl, kvPut, if_neg (by omega), if_neg (by omega)]
   simp
/-- is a write too large? -/
def bigW (x : WrS) : Bool := decide (64 < x.a.length) || (!x.f && decide (128 < x.b.length))
/-- one write upon pairs -/
def apW (l : List KV) (x : WrS) : List KV := if x.f then kvDel x.a l else kvPut x.a x.b l
def apWs (l : List KV) (ws : List WrS) : List KV := ws.foldl apW l
theorem apWs_snoc (l : List KV) (ws : List WrS) (x : WrS) : apWs l (ws ++ [x]) = apW (apWs l ws) x := by unfold apWs; rw [List.foldl_append]; rfl
theorem apWs_take {l : List KV} {ws : List WrS} {k : Nat} (h : k < ws.length) : apWs l (ws.take (k + 1)) = apW (apWs l (ws.take k)) ws[k] := by
 rw [List.take_succ_eq_append_getElem h, apWs_snoc]
theorem apW_up {l : List KV} (h : UpL l) (x : WrS) : UpL (apW l x) := by
 unfold apW; split
 ·exact h.del _
 ·exact h.put
theorem apWs_up {l : List KV} (h : UpL l) : ∀ ws : List WrS, UpL (apWs l ws) := fun ws => by
 induction ws generalizing l with
 | nil => exact h
 | cons x ws ih => exact ih (apW_up h x)
theorem apW_len (l : List KV) (x : WrS) : (apW l x).length ≤ l.length + 1 := by
 unfold apW; split
 ·exact Nat.le_trans (List.length_filter_le _ _) (by omega)
 ·have gen : ∀ l : List KV, (kvPut x.a x.b l).length ≤ l.length + 1 := by
   intro l
   induction l with
   | nil => simp [kvPut]
   | cons p l ih =>
    unfold kvPut
    split
    ·simp; exact ih
    ·split <;> simp
  exact gen l
theorem apWs_len : ∀ (ws : List WrS) (l : List KV), (apWs l ws).length ≤ l.length + ws.length
 | [], l => by simp [apWs]
 | x :: ws, l => by
  have h1 := apWs_len ws (apW l x)
  have h2 := apW_len l x
  rw [show apWs l (x :: ws) = apWs (apW l x) ws from rfl, List.length_cons]; omega
theorem apW_good {l : List KV} {x : WrS} (h : ∀ p ∈ l, p.1.length ≤ 64 ∧ p.2.length ≤ 128) (hb : bigW x = false) : ∀ p ∈ apW l x, p.1.length ≤ 64 ∧ p.2.length ≤ 128 := by
 unfold bigW at hb
 simp only [Bool.or_eq_false_iff, decide_eq_false_iff_not, Bool.and_eq_false_iff] at hb
 unfold apW; split
 ·exact fun p hp => h p (List.mem_filter.1 hp).1
 ·rename_i hf
  intro p hp
  rcases kvPut_mem hp with rfl | hp
  ·refine ⟨by show x.a.length ≤ 64; omega, ?_⟩
   rcases hb.2 with h2 | h2
   ·simp at h2; exact absurd h2 hf
   ·show x.b.length ≤ 128; omega
  ·exact h p hp
theorem apWs_good {ws : List WrS} : ∀ {l : List KV}, (∀ p ∈ l, p.1.length ≤ 64 ∧ p.2.length ≤ 128) → (∀ x ∈ ws, bigW x = false) → ∀ p ∈ apWs l ws, p.1.length ≤ 64 ∧ p.2.length ≤ 128 := by
 induction ws with
 | nil => exact fun h _ => h
 | cons x ws ih => exact fun h hb => ih (apW_good h (hb x (by simp))) fun y hy => hb y (by simp [hy])
end Go.Proofs.YtliimeoblffigaaGreat

