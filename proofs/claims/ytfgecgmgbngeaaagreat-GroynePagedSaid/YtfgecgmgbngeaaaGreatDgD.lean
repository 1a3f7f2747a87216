/- The walks of drive's deeds. -/
import Derived.Test.YtfgecgmgbngeaaaGreatDgC
import Derived.Test.YtfgecgmgbngeaaaGreatDrvA
set_option linter.unusedSimpArgs false
set_option maxRecDepth 100000
namespace Go.Proofs.YtfgecgmgbngeaaaGreat
open Go.RowKit Go.Maps
set_option linter.unusedVariables false

theorem take_repl (n m : Nat) : (List.replicate m (0 : UInt8)).take n = List.replicate (min n m) 0 := List.take_replicate ..
theorem drop_repl (n m : Nat) : (List.replicate m (0 : UInt8)).drop n = List.replicate (m - n) 0 := List.drop_replicate ..
theorem wr_eq {old d : List UInt8} {a L : Nat} (hL : L = max old.length (a + d.length)) :
    (old ++ List.replicate (L - old.length) 0).take a ++ (d ++ (old ++ List.replicate (L - old.length) 0).drop (a + d.length)) = wrL old a d := by
  rw [List.take_append, List.drop_append, take_repl, drop_repl, wrL, show min (a - old.length) (L - old.length) = a - old.length by omega, show L - old.length - (a + d.length - old.length) = 0 by omega]
  simp
/-- a write as a value -/
def wrV (s : ByteArray) (a : Nat) (d : Value) : Value := .agg #[.string s, .int .i64 (a : Int), d]

set_option maxHeartbeats 1000000 in
theorem dgWrUnits {w : World} {F : Nat → Prop} {dv : Value} {l : List UInt8} {a : Nat} {s : ByteArray} (h : RdB w F dv l) (hl : l.length ≤ 1000000000) :
    Calls Tryz.prog 182 #[wrV s a dv] w fun e w' => e = .returned (.int .i64 ((l.length : Int) + 1)) ∧ Chg Non w w' := by
  obtain ⟨A, c, rfl, hc, hm⟩ := h.shape
  unfold maxLen at hm
  unfold wrV
  have hwr : IntKind.i64.wrap ((l.length : Int) + 1) = (l.length : Int) + 1 := IntWalk.i64_in _ (by omega)
  go_enter Tryz.func182, Tryz.ntmps182
  go_wp2_with fail
  go_ret
  exact ⟨rfl, (Chg.refl Non w).alloc _⟩

set_option maxHeartbeats 2000000 in
theorem dgWrDo {w : World} {sup : List Nm} {F G : Nat → Prop} {B : Nat} {f : Fls} {dv : Value} {data : List UInt8} {a n : Nat} {s : ByteArray} (hs : s.size ≤ 1000) (hsup : s.data.toList ∈ sup) (hm : FsAt w sup F (.map (some B)) f) (hsl : sup.length ≤ 1000000) (hF : ∀ b, F b → b ≠ B) (hd : RdB w G dv data) (hG : ∀ b, G b → b ≠ B)
    (hn : n ≤ data.length) (hsz : a + data.length ≤ 1000000000) (hol : ((f s.data.toList).getD []).length ≤ 1000000000) :
    Calls Tryz.prog 181 #[wrV s a dv, .map (some B), .int .i64 ((n : Int) + 1)] w fun e w' =>
      e = .returned (.tuple #[]) ∧ FsAt w' sup (fun b => F b ∨ (w.heap.size ≤ b ∧ b < w'.heap.size)) (.map (some B)) ((Deed.wr s.data.toList a data).app f (n + 1)) ∧ Chg (fun k => k = B) w w' := by
  obtain ⟨A, c, rfl, hc, hmm⟩ := hd.shape
  unfold maxLen at hmm
  have hso : s.size ≤ maxLen := by unfold maxLen; omega
  obtain ⟨l, hl, rfl⟩ := hm
  have hB0 := hl.lt rfl
  replace hl := hl.fix
  obtain ⟨x, hx, hlk⟩ := hl.look s hso
  obtain ⟨old, hold⟩ : ∃ old, old = (fOf l s.data.toList).getD [] := ⟨_, rfl⟩
  rw [← hold] at hx hol
  have HOLD := hide hold
  obtain ⟨Ao, co, rfl, hco, hmo⟩ := hx.shape
  unfold maxLen at hmo
  have HSUP := hide hsup
  have HSL := hide hsl
  clear hold hsup hsl
  unfold wrV
  go_enter Tryz.func181, Tryz.ntmps181
  go_upto_region 2 with fail
  have hcb := (Chg.refl Non w).alloc (.cells #[.string s, .int .i64 (a : Int), .slice A data.length c] 154)
  have hcell := Blk.new w 154 #[.string s, .int .i64 (a : Int), .slice A data.length c]
  have hbs : (w.alloc (.cells #[.string s, .int .i64 (a : Int), .slice A data.length c] 154)).heap.size = w.heap.size + 1 := by simp
  have hlkb := (hlk _ hcb).1
  generalize w.alloc (.cells #[.string s, .int .i64 (a : Int), .slice A data.length c] 154) = wb at hcb hcell hbs hlkb ⊢
  have hk0 := hcell.cell 0
  have hk1 := hcell.cell 1
  simp at hk0 hk1
  have hlb := hl.chg hcb (fun _ _ h => h) (fun _ _ h => h)
  have hob := hx.c0 hcb
  have hdn := ((hd.front hn).lt).c0 hcb
  have hml : (data.take n).length = n := by rw [List.length_take]; omega
  obtain ⟨L, hL⟩ : ∃ L, L = max old.length (a + n) := ⟨_, rfl⟩
  have hmk : ∀ w, (Instr.makeSlice 30 (.int .i64 (L : Int)) (.int .i64 (L : Int))).run Tryz.prog w = .ok (.slice (some ⟨w.heap.size, 0, none⟩) L L) (w.alloc (.cells (madeCells #[.int .u8 0] L) 5)) := fun w => mk_files w L (by omega)
  have hmx : max (old.length : Int) ((a : Int) + (n : Int)) = (L : Int) := by omega
  have hwr : IntKind.i64.wrap ((a : Int) + (n : Int)) = (a : Int) + (n : Int) := IntWalk.i64_in _ (by omega)
  have hLa : a + n ≤ L := by omega
  have hLo : old.length ≤ L := by omega
  have hLm : L ≤ 2000000000 := by omega
  have HL := hide hL
  clear hL hcell hx hl hd hlk
  go_upto_region 4 with fail
  have hown := own_files wb L (by omega)
  have hcn := (Chg.refl Non wb).alloc (.cells (madeCells #[.int .u8 0] L) 5)
  have hsz2 : (wb.alloc (.cells (madeCells #[.int .u8 0] L) 5)).heap.size = wb.heap.size + 1 := by simp
  generalize wb.alloc (.cells (madeCells #[.int .u8 0] L) 5) = w2 at hown hcn hsz2 ⊢
  have hob2 := hob.c0 hcn
  have hdn2 := hdn.c0 hcn
  have hlb2 := hlb.chg hcn (fun _ _ h => h) (fun _ _ h => h)
  have hc1 := hcn.cell hk1 (fun h => h)
  have hc0 := hcn.cell hk0 (fun h => h)
  rw [hbs] at hown hsz2
  obtain ⟨LA, hLA⟩ : ∃ LA, L = a + LA := ⟨L - a, by omega⟩
  obtain ⟨dp, hdp, hcut⟩ := cut_own (w.heap.size + 1) a LA
  rw [← hLA] at hcut
  have hLA1 : n ≤ LA := by omega
  have HLA := hide hLA
  clear hob hdn hlb hk0 hk1 hlkb hmk hmx hwr hbs hLA
  go_upto_region 5 with (refine copy_B rfl _ _ rfl hown rfl rfl hob2 (k := 0) (by omega) (by omega) (fun _ => rfl) ?_; intro w3 hown3 hc3 hsz3)
  have hBne : B ≠ w.heap.size + 1 := by omega
  have hdn3 := hdn2.chg hc3 fun b hb e => by have := hb.2; omega
  have hlb3 := hlb2.chg hc3 (fun b hb e => by have := hb.2; omega) (fun B' e e2 => by injection e with e; injection e with e; omega)
  have hd1 := hc3.cell hc1 (by simp)
  have hd0 := hc3.cell hc0 (by simp)
  rw [hsz2] at hsz3
  have hl3 : (List.take 0 (List.replicate L (0 : UInt8)) ++ (old ++ List.drop (0 + old.length) (List.replicate L 0))) = old ++ List.replicate (L - old.length) 0 := by
    rw [List.take_zero, List.nil_append, Nat.zero_add, drop_repl]
  rw [hl3] at hown3
  have hL3 : (old ++ List.replicate (L - old.length) (0 : UInt8)).length = L := by rw [List.length_append, List.length_replicate]; omega
  clear hown hob2 hdn2 hlb2 hc1 hc0 hl3
  go_upto_region 6 with (refine copy_B rfl _ _ rfl hown3 rfl rfl hdn3 (k := a) (by rw [hml]; exact hLa) (by rw [hml]; exact hLA1) (fun h => hdp (by rw [hml] at h; omega)) ?_; intro w4 hown4 hc4 hsz4)
  have hlb4 := hlb3.chg hc4 (fun b hb e => by have := hb.2; omega) (fun B' e e2 => by injection e with e; injection e with e; omega)
  have he0 := hc4.cell hd0 (by simp)
  rw [wr_eq (old := old) (d := List.take n data) (a := a) (L := L) (by rw [hml]; exact HL.out)] at hown4
  have hcw : Chg Non w w4 := ((hcb.trans0 hcn).trans hc3 fun b hb e => by omega).trans hc4 fun b hb e => by omega
  have hll : l.length < maxLen := by have := hlb4.len; have := HSL.out; unfold maxLen; omega
  have hmap4 := hlb4.map
  obtain ⟨B', hB', hmm4⟩ : ∃ B', Value.map (some B) = .map (some B') ∧ w4.ownsMap Tryz.prog 9 heldR B' l.length (datS l) := by
    rcases hmap4 with ⟨e, _⟩ | h
    · cases e
    · exact h
  injection hB' with hB'
  injection hB' with hB'
  subst hB'
  have HFL := hide hlb4
  clear hown3 hdn3 hlb3 hd1 hd0 hcut hc3 hc4 hlb4 hmap4 hL3
  go_wp2_with (at_mapUpdate; refine wpList_mapUpdate_own _ rfl _ _ _ 46 rfl 9 30 keyF Tryz.underlying46 heldR B l.length _ rfl hmm4 hll _ _ (klS s.data.toList) rfl rfl (keyOf_s s hso) _ [] rfl ?_; intro w5 hm5 hg5)
  have hc5 : Chg (fun k => k = B) w4 w5 := (Chg.of_grown hg5).mono fun b _ e => by injection e
  have h5 := (HFL.out.mono (F' := fun b => (F b ∨ w.heap.size ≤ b ∧ b < w4.heap.size) ∧ b ≠ B) fun b hb => ⟨.inl hb.1, hF b hb.1⟩).put (fun b hb => hb.2) hc5 HSUP.out (x := .slice (some ⟨w.heap.size + 1, 0, none⟩) L L) (b := wrL old a (data.take n)) (hown4.rd.mono fun b hb => by
    have := hown4.lt b hb
    exact ⟨.inr ⟨by omega, this.2⟩, by omega⟩) hm5
  refine bodyPost_end (results_none rfl _ _ _) rfl ⟨rfl, ⟨_, h5.mono fun b hb => ?_, ?_⟩, (hcw.mono fun _ _ h => h.elim).trans hc5 fun _ _ h => h⟩
  · rcases hb.1 with h | h
    · exact .inl h
    · exact .inr ⟨h.1, Nat.lt_of_lt_of_le h.2 hc5.size⟩
  · rw [fOf_put HFL.out.once]
    show setF (fOf l) s.data.toList (some (wrL ((fOf l s.data.toList).getD []) a (data.take (n + 1 - 1)))) = _
    rw [Nat.add_sub_cancel, ← HOLD.out]

/-- a renaming as a value; a removal as a value -/
def mvV (s t : ByteArray) : Value := .agg #[.string s, .string t]
def rmV (s : ByteArray) : Value := .agg #[.string s]
theorem dgMvUnits (w : World) (s t : ByteArray) : Calls Tryz.prog 187 #[mvV s t] w fun e w' => e = .returned (.int .i64 1) ∧ Chg Non w w' := by
  unfold mvV
  go_enter Tryz.func187, Tryz.ntmps187
  go_wp2_with fail
  go_ret
  exact ⟨rfl, (Chg.refl Non w).alloc _⟩
theorem dgRmUnits (w : World) (s : ByteArray) : Calls Tryz.prog 185 #[rmV s] w fun e w' => e = .returned (.int .i64 1) ∧ Chg Non w w' := by
  unfold rmV
  go_enter Tryz.func185, Tryz.ntmps185
  go_wp2_with fail
  go_ret
  exact ⟨rfl, (Chg.refl Non w).alloc _⟩

set_option maxHeartbeats 1000000 in
theorem dgRmDo {w : World} {sup : List Nm} {F : Nat → Prop} {B : Nat} {f : Fls} {s : ByteArray} {n : Value} (hs : s.size ≤ 1000) (hm : FsAt w sup F (.map (some B)) f) (hF : ∀ b, F b → b ≠ B) (k : Nat) :
    Calls Tryz.prog 184 #[rmV s, .map (some B), n] w fun e w' => e = .returned (.tuple #[]) ∧ FsAt w' sup F (.map (some B)) ((Deed.rm s.data.toList).app f k) ∧ Chg (fun k => k = B) w w' := by
  have hso : s.size ≤ maxLen := by unfold maxLen; omega
  obtain ⟨l, hl, rfl⟩ := hm
  have hB0 := hl.lt rfl
  unfold rmV
  have hcb := (Chg.refl Non w).alloc (.cells #[.string s] 169)
  have hcell := Blk.new w 169 #[.string s]
  have hlb := hl.chg hcb (fun _ _ h => h) (fun _ _ h => h)
  obtain ⟨B', hB', hm1⟩ : ∃ B', Value.map (some B) = .map (some B') ∧ (w.alloc (.cells #[.string s] 169)).ownsMap Tryz.prog 9 heldR B' l.length (datS l) := by
    rcases hlb.map with ⟨e, _⟩ | h
    · cases e
    · exact h
  injection hB' with hB'
  injection hB' with hB'
  subst hB'
  have hk0 : (w.alloc (.cells #[.string s] 169)).cell? ⟨w.heap.size, 0, none⟩ = some (.string s) := hcell.cell 0
  have HFL := hide hlb
  have HON := hide hl.once
  clear hl hlb hcell
  go_enter Tryz.func184, Tryz.ntmps184
  go_upto_region 1 with fail
  generalize World.alloc w (.cells #[.string s] 169) = wb at hcb HFL hm1 hk0 ⊢
  go_wp2_with (at_delete; refine wpList_delete_own _ rfl _ _ 46 9 rfl 30 keyF Tryz.underlying46 heldR B l.length _ rfl hm1 _ (klS s.data.toList) rfl (keyOf_s s hso) ?_; intro w2 hm2 ht2)
  have hc2 : Chg (fun k => k = B) wb w2 := (Chg.of_grown ht2.grown).mono fun b _ e => by injection e
  refine bodyPost_end (results_none rfl _ _ _) rfl ⟨rfl, ⟨_, HFL.out.del hF hc2 hm2, ?_⟩, (hcb.mono fun _ _ h => h.elim).trans hc2 fun _ _ h => h⟩
  rw [fOf_del HON.out]
  rfl

set_option maxHeartbeats 1000000 in
theorem dgMvDo {w : World} {sup : List Nm} {F : Nat → Prop} {B : Nat} {f : Fls} {s t : ByteArray} {n : Value} (hs : s.size ≤ 1000) (ht : t.size ≤ 1000) (htsup : t.data.toList ∈ sup) (hsl : sup.length ≤ 1000000) (hm : FsAt w sup F (.map (some B)) f) (hF : ∀ b, F b → b ≠ B) (k : Nat) :
    Calls Tryz.prog 186 #[mvV s t, .map (some B), n] w fun e w' => e = .returned (.tuple #[]) ∧ FsAt w' sup F (.map (some B)) ((Deed.mv s.data.toList t.data.toList).app f k) ∧ Chg (fun k => k = B) w w' := by
  have hso : s.size ≤ maxLen := by unfold maxLen; omega
  have hto : t.size ≤ maxLen := by unfold maxLen; omega
  obtain ⟨l, hl, rfl⟩ := hm
  have hB0 := hl.lt rfl
  unfold mvV
  have hcb := (Chg.refl Non w).alloc (.cells #[.string s, .string t] 171)
  have hcell := Blk.new w 171 #[.string s, .string t]
  have hlb := hl.chg hcb (fun _ _ h => h) (fun _ _ h => h)
  obtain ⟨B', hB', hm1⟩ : ∃ B', Value.map (some B) = .map (some B') ∧ (w.alloc (.cells #[.string s, .string t] 171)).ownsMap Tryz.prog 9 heldR B' l.length (datS l) := by
    rcases hlb.map with ⟨e, _⟩ | h
    · cases e
    · exact h
  injection hB' with hB'
  injection hB' with hB'
  subst hB'
  have hk0 : (w.alloc (.cells #[.string s, .string t] 171)).cell? ⟨w.heap.size, 0, none⟩ = some (.string s) := hcell.cell 0
  have hk1 : (w.alloc (.cells #[.string s, .string t] 171)).cell? ⟨w.heap.size, 1, none⟩ = some (.string t) := hcell.cell 1
  obtain ⟨x, hx, hlk⟩ := hlb.look s hso
  have hlk1 := (hlk _ (Chg.refl _ _)).1
  have HFL := hide hlb
  have HON := hide hl.once
  have HSUP := hide htsup
  have HSL := hide hsl
  clear hl hlb hcell hlk htsup hsl
  go_enter Tryz.func186, Tryz.ntmps186
  go_upto_region 1 with fail
  generalize World.alloc w (.cells #[.string s, .string t] 171) = wb at hcb HFL hm1 hk0 hk1 hlk1 hx ⊢
  go_upto_region 3 with (at_delete; refine wpList_delete_own _ rfl _ _ 46 9 rfl 30 keyF Tryz.underlying46 heldR B l.length _ rfl hm1 _ (klS s.data.toList) rfl (keyOf_s s hso) ?_; intro w2 hm2 ht2)
  have hc2 : Chg (fun k => k = B) wb w2 := (Chg.of_grown ht2.grown).mono fun b _ e => by injection e
  have hB2 : ∀ t cs, ¬ Blk wb B t cs := fun t cs => ownsMap_cells hm1
  have hd := HFL.out.del hF hc2 hm2
  have hx2 := hx.chg hc2 hF
  have hk2 := hc2.cell hk1 (fun e => by
    have e : w.heap.size = B := e
    omega)
  obtain ⟨B', hB', hm3⟩ : ∃ B', Value.map (some B) = .map (some B') ∧ w2.ownsMap Tryz.prog 9 heldR B' (aDel klS s.data.toList l).length (datS (aDel klS s.data.toList l)) := by
    rcases hd.map with ⟨e, _⟩ | h
    · cases e
    · exact h
  injection hB' with hB'
  injection hB' with hB'
  subst hB'
  have hll : (aDel klS s.data.toList l).length < maxLen := by have := hd.len; have := HSL.out; unfold maxLen; omega
  have HD := hide hd
  clear hd hm1 hm2 ht2 hk0 hk1 hlk1 hx
  go_wp2_with (at_mapUpdate; refine wpList_mapUpdate_own _ rfl _ _ _ 46 rfl 9 30 keyF Tryz.underlying46 heldR B (aDel klS s.data.toList l).length _ rfl hm3 hll _ _ (klS t.data.toList) rfl rfl (keyOf_s t hto) _ [] rfl ?_; intro w5 hm5 hg5)
  have hc5 : Chg (fun k => k = B) w2 w5 := (Chg.of_grown hg5).mono fun b _ e => by injection e
  refine bodyPost_end (results_none rfl _ _ _) rfl ⟨rfl, ⟨_, HD.out.put hF hc5 HSUP.out hx2 hm5, ?_⟩, ((hcb.mono fun _ _ h => h.elim).trans hc2 fun _ _ h => h).trans hc5 fun _ _ h => h⟩
  rw [fOf_put HD.out.once, fOf_del HON.out]
  rfl
end Go.Proofs.YtfgecgmgbngeaaaGreat
