/- The walks of drive's write: units and do. -/
import Derived.Test.YtfgecgmgbngeaaaGreatFMap
import Derived.Test.YtfgecgmgbngeaaaGreatPackA
import Derived.Test.YtfgecgmgbngeaaaGreatSlc
import Derived.Lib.MinMax
import Derived.Laws.CopyOwn
import Derived.Deep.Cut
set_option linter.unusedVariables false
set_option linter.unusedSimpArgs false
set_option maxRecDepth 100000
namespace Go.Proofs.YtfgecgmgbngeaaaGreat
open Go.RowKit Go.Maps

theorem OwnB.row {w : World} {base g n c : Nat} {l : List UInt8} (h : OwnB w base (.slice (some ⟨g, 0, none⟩) n c) l) : ∃ cur : Array Value, w.heap[g]? = some (.cells cur 5 (0, 0)) ∧ base ≤ g ∧ n = l.length ∧ n ≤ c ∧ c ≤ maxLen ∧ cur.size = c ∧ cur.toList.take n = bvs l := by
  rcases h.2 with ⟨e, _⟩ | ⟨b, cap, cur, e, h1, h2, h3, h4, h5, h6⟩
  · cases e
  · injection e with e1 e2 e3
    injection e1 with e1
    injection e1 with e1
    subst e1; subst e2; subst e3
    rw [Nat.mul_one] at h5 h6
    exact ⟨cur, h2, h1, rfl, h3, h4, h5, h6⟩
theorem splice_bytes {cur : List Value} {n k : Nat} {l m : List UInt8} (h : cur.take n = bvs l) (hn : n = l.length) (hk : k + m.length ≤ n) (hc : n ≤ cur.length) : (splice cur k (bvs m)).take n = bvs (l.take k ++ (m ++ l.drop (k + m.length))) := by
  have hm := bvs_length m
  have e : cur.take k = bvs (l.take k) := by
    have h2 := congrArg (List.take k) h
    rw [List.take_take, Nat.min_eq_left (by omega)] at h2
    rw [h2, bvs, bvs, List.map_take]
  have e2 : (cur.drop (k + m.length)).take (n - (k + m.length)) = bvs (l.drop (k + m.length)) := by
    have h2 := congrArg (List.drop (k + m.length)) h
    rw [List.drop_take] at h2
    rw [h2, bvs, bvs, List.map_drop]
  have e3 : (splice cur k (bvs m)).take n = cur.take k ++ (bvs m ++ (cur.drop (k + m.length)).take (n - (k + m.length))) := by
    have hl : (cur.take k ++ bvs m).length = k + m.length := by rw [List.length_append, List.length_take, hm]; omega
    have h3 := List.take_length_add_append (l₁ := cur.take k ++ bvs m) (l₂ := cur.drop (k + m.length)) (n - (k + m.length))
    rw [hl, show k + m.length + (n - (k + m.length)) = n by omega, List.append_assoc, List.append_assoc] at h3
    rw [splice, hm]
    exact h3
  rw [e3, e, e2, bvs_append, bvs_append]
/-- copy of bytes into a row of a block's own, behind its first k -/
theorem copy_B {w : World} {ops : Array Oper} {rest : List Oper} {o : Oper} {a : Act} {Q : Exit → Act → World → Prop} (hgd : o.guard = none) (d s : Operand)
    (ho : o.op = .call { callee := .builtin .copy, args := #[d, s], argTypes := #[30, 30] })
    {base g n c k dLen dCap : Nat} {dp : Option Addr} {l m : List UInt8} {F : Nat → Prop} {y : Value} (hown : OwnB w base (.slice (some ⟨g, 0, none⟩) n c) l)
    (hd : a.eval d = .slice dp dLen dCap) (hy : a.eval s = y) (hr : RdB w F y m) (hk : k + m.length ≤ n) (hml : m.length ≤ dLen) (hpos : 0 < m.length → dp = some ⟨g, k, none⟩)
    (h : ∀ w', OwnB w' base (.slice (some ⟨g, 0, none⟩) n c) (l.take k ++ (m ++ l.drop (k + m.length))) → Chg (fun b => b = g) w w' → w'.heap.size = w.heap.size → wpList Tryz.prog ops Q rest (a.put o.dst (goInt (bvs m).length)) w') : wpList Tryz.prog ops Q (o :: rest) a w := by
  obtain ⟨cur, h1, h2, h3, h4, h5, h6, h7⟩ := hown.row
  obtain ⟨A, c2, rfl, hc2, hm2⟩ := hr.shape
  have hmb := bvs_length m
  by_cases h0 : 0 < m.length
  · obtain ⟨ad, rfl, _, hcs⟩ := RdV.cells hr h0
    have hdp := hpos h0
    subst hdp
    have hcl : cur.toList.length = c := by rw [Array.length_toList]; exact h6
    have hfit : k + (bvs m).length ≤ cur.size := by omega
    refine wpList_copy_own hgd d s 30 30 ho 5 Tryz.underlying30 (by kernel_rfl) g k dLen dCap ad m.length c2 hd hy cur 5 h1 (bvs m) (by rw [hmb]; exact (Nat.min_eq_left hml).symm) hcs hfit (bvs_one m) ?_
    have hsl : (splice cur.toList k (bvs m)).length = c := by rw [length_splice _ _ _ (by rw [hmb, hcl]; omega), hcl]
    have e : (List.take k l ++ (m ++ List.drop (k + m.length) l)).length = n := by rw [List.length_append, List.length_append, List.length_take, List.length_drop]; omega
    have hrow := setRow_heap w g cur (splice cur.toList k (bvs m)).toArray 5 (0, 0) h1
    refine h (w.setRow g (splice cur.toList k (bvs m)).toArray) ⟨?_, .inr ⟨g, c, (splice cur.toList k (bvs m)).toArray, ?_, h2, hrow, by rw [e]; exact h4, h5, by rw [List.size_toArray, hsl, Nat.mul_one], ?_⟩⟩ ⟨rfl, rfl, rfl, by simp [World.setRow], fun b _ hne => setRow_other w g b _ hne⟩ (by simp [World.setRow])
    · rw [bvs_length, Nat.mul_one]
    · rw [e]
    · rw [List.toList_toArray, Nat.mul_one, e]
      exact splice_bytes h7 h3 hk (by omega)
  · have hm0 : m = [] := List.eq_nil_of_length_eq_zero (by omega)
    subst hm0
    refine wpList_copy_nothing hgd d s 30 30 ho 5 Tryz.underlying30 (by kernel_rfl) dp A dLen dCap 0 c2 hd hy (Nat.zero_min _) ?_
    refine h w ?_ (Chg.refl _ _) rfl
    simpa using hown
theorem mk_files (w : World) (n : Nat) (h : n ≤ 100000000000000) : (Instr.makeSlice 30 (.int .i64 (n : Int)) (.int .i64 (n : Int))).run Tryz.prog w = .ok (.slice (some ⟨w.heap.size, 0, none⟩) n n) (w.alloc (.cells (madeCells #[.int .u8 0] n) 5)) := by
  obtain ⟨i, hi, hz, h1, h2⟩ := info_parts info_u8
  have h := run_make (P := Tryz.prog) w 30 5 i _ Tryz.underlying30 hi hz .i64 .i64 n n (by omega) (Int.le_refl _) (by rw [h2]; omega) (by omega)
  rw [h1, Int.toNat_natCast, Nat.mul_one] at h
  exact h
theorem own_files (w : World) (n : Nat) (h : n ≤ 100000000000000) : OwnB (w.alloc (.cells (madeCells #[.int .u8 0] n) 5)) w.heap.size (.slice (some ⟨w.heap.size, 0, none⟩) n n) (List.replicate n 0) := by
  have h1 := World.ownsRow_lit (base := w.heap.size) (e := 5) (size := 1) w (madeCells #[.int .u8 0] n) n (Nat.le_refl _) (by simp only [maxLen]; omega) (by rw [size_madeCells]; omega)
  unfold OwnB
  rw [List.length_replicate]
  have e : (madeCells #[Value.int .u8 0] n).toList = bvs (List.replicate n 0) := by
    rw [toList_madeCells_one]
    simp [bvs, bv]
  rw [e] at h1
  exact h1

/-- 'b[k:]' of a row of a block's own -/
theorem cut_own (g k n : Nat) : ∃ dp : Option Addr, (0 < n → dp = some ⟨g, k, none⟩) ∧ ∀ w' : World, (Instr.slice 30 (.slice (some ⟨g, 0, none⟩) (k + n) (k + n)) (some (.int .i64 (k : Int))) none none).run Tryz.prog w' = .ok (.slice dp n n) w' := by
  refine ⟨if k + n = k then some ⟨g, 0, none⟩ else (some (⟨g, 0, none⟩ : Addr)).map (·.add (k * 1)), fun h => ?_, fun w' => ?_⟩
  · rw [if_neg (by omega), Nat.mul_one, Option.map_some, add_none, Nat.zero_add]
  · rw [run_slice_l (P := Tryz.prog) w' 30 _ (k + n) (k + n) under_elem8 .i64 (k : Int) (by omega) (by omega), size_u8]
    simp only [Result.andThen, sliced, Int.toNat_natCast, Nat.add_sub_cancel_left]
/-- a write of bytes at a place -/
def wV (a : Nat) (d : Value) : Value := .agg #[.string fN, .int .i64 (a : Int), d]

set_option maxHeartbeats 1000000 in
theorem wrUnits {w : World} {F : Nat → Prop} {dv : Value} {l : List UInt8} {a : Nat} (h : RdB w F dv l) (hl : l.length ≤ 1000000000) :
    Calls Tryz.prog 182 #[wV a dv] w fun e w' => e = .returned (.int .i64 ((l.length + 1 : Nat) : Int)) ∧ Chg Non w w' := by
  obtain ⟨A, c, rfl, hc, hm⟩ := h.shape
  unfold maxLen at hm
  unfold wV
  go_enter Tryz.func182, Tryz.ntmps182
  go_wp2_with fail
  go_ret
  exact ⟨ret_int (by omega), (Chg.refl Non w).alloc _⟩

set_option maxHeartbeats 1000000 in
theorem wrDo {w : World} {B : Nat} {o : Option Value} {old data : List UInt8} {F G : Nat → Prop} {dv : Value} {n : Nat} (hm : FMap w B o) (ho : RdB w F (o.getD nilS) old) (hd : RdB w G dv data) (hn : n ≤ data.length) (hsz : old.length + data.length ≤ 1000000000) :
    Calls Tryz.prog 181 #[wV old.length dv, .map (some B), .int .i64 ((n + 1 : Nat) : Int)] w fun e w' =>
      e = .returned (.tuple #[]) ∧ ∃ u, FMap w' B (some u) ∧ RdB w' (fun k => w.heap.size ≤ k) u (old ++ data.take n) ∧ Chg (fun k => k = B) w w' := by
  obtain ⟨A, c, rfl, hc, hmm⟩ := hd.shape
  unfold maxLen at hmm
  have hm0 := hm.lt
  unfold wV
  go_enter Tryz.func181, Tryz.ntmps181
  go_upto_region 2 with fail
  have hcb := (Chg.refl Non w).alloc (.cells #[.string fN, .int .i64 (old.length : Int), .slice A data.length c] 154)
  have hcell := Blk.new w 154 #[.string fN, .int .i64 (old.length : Int), .slice A data.length c]
  have hbs : (w.alloc (.cells #[.string fN, .int .i64 (old.length : Int), .slice A data.length c] 154)).heap.size = w.heap.size + 1 := by simp
  generalize w.alloc (.cells #[.string fN, .int .i64 (old.length : Int), .slice A data.length c] 154) = wb at hcb hcell hbs ⊢
  have hk0 := hcell.cell 0
  have hk1 := hcell.cell 1
  simp at hk0 hk1
  have hmb := hm.chg hcb (fun h => h)
  have hob := ho.c0 hcb
  have hdn := ((hd.front hn).lt).c0 hcb
  have hlk := hmb.look
  obtain ⟨ov, hov⟩ : ∃ ov, ov = o.getD nilS := ⟨_, rfl⟩
  rw [← hov] at hlk hob
  obtain ⟨Ao, co, rfl, hco, hmo⟩ := hob.shape
  unfold maxLen at hmo
  have hml : (data.take n).length = n := by rw [List.length_take]; omega
  have hmk : ∀ w, (Instr.makeSlice 30 (.int .i64 ((old.length : Int) + (n : Int))) (.int .i64 ((old.length : Int) + (n : Int)))).run Tryz.prog w = .ok (.slice (some ⟨w.heap.size, 0, none⟩) (old.length + n) (old.length + n)) (w.alloc (.cells (madeCells #[.int .u8 0] (old.length + n)) 5)) := fun w => by
    have h := mk_files w (old.length + n) (by omega)
    rw [show ((old.length + n : Nat) : Int) = (old.length : Int) + n by omega] at h
    exact h
  have hmx : max (old.length : Int) ((old.length : Int) + (n : Int)) = (old.length : Int) + (n : Int) := by omega
  have hwr : IntKind.i64.wrap ((old.length : Int) + (n : Int)) = (old.length : Int) + (n : Int) := by rw [IntKind.wrap_i64]; omega
  clear hov hcell ho hm hd
  go_upto_region 4 with fail
  have hown := own_files wb (old.length + n) (by omega)
  have hcn := (Chg.refl Non wb).alloc (.cells (madeCells #[.int .u8 0] (old.length + n)) 5)
  have hsz2 : (wb.alloc (.cells (madeCells #[.int .u8 0] (old.length + n)) 5)).heap.size = wb.heap.size + 1 := by simp
  generalize wb.alloc (.cells (madeCells #[.int .u8 0] (old.length + n)) 5) = w2 at hown hcn hsz2 ⊢
  have hob2 := hob.c0 hcn
  have hdn2 := hdn.c0 hcn
  have hmb2 := hmb.chg hcn (fun h => h)
  have hc1 := hcn.cell hk1 (fun h => h)
  have hc0 := hcn.cell hk0 (fun h => h)
  rw [hbs] at hown hsz2
  obtain ⟨dp, hdp, hcut⟩ := cut_own (w.heap.size + 1) old.length n
  clear hob hdn hmb hk0 hk1 hlk hmk hmx hwr hbs
  go_upto_region 5 with (refine copy_B rfl _ _ rfl hown rfl rfl hob2 (k := 0) (by omega) (by omega) (fun _ => rfl) ?_; intro w3 hown3 hc3 hsz3)
  have hBlt := hmb2.lt
  have hBne : B ≠ w.heap.size + 1 := fun e => by
    obtain ⟨cur, h1, _⟩ := hown.row
    exact hmb2.no_cells (t := 5) (cs := cur) (e ▸ h1)
  have hdn3 := hdn2.chg hc3 fun b hb e => by have := hb.2; omega
  have hmb3 := hmb2.chg hc3 hBne
  have hd1 := hc3.cell hc1 (by simp)
  have hd0 := hc3.cell hc0 (by simp)
  rw [hsz2] at hsz3
  clear hown hob2 hdn2 hmb2 hc1 hc0
  go_upto_region 6 with (refine copy_B rfl _ _ rfl hown3 rfl rfl hdn3 (k := old.length) (by rw [hml]; exact Nat.le_refl _) (by rw [hml]; exact Nat.le_refl _) (fun h => hdp (by rw [hml] at h; exact h)) ?_; intro w4 hown4 hc4 hsz4)
  have hmb4 := hmb3.chg hc4 hBne
  have he0 := hc4.cell hd0 (by simp)
  have hl4 : (List.take old.length (List.take 0 (List.replicate (old.length + n) 0) ++ (old ++ List.drop (0 + old.length) (List.replicate (old.length + n) 0))) ++ (List.take n data ++ List.drop (old.length + (List.take n data).length) (List.take 0 (List.replicate (old.length + n) 0) ++ (old ++ List.drop (0 + old.length) (List.replicate (old.length + n) (0 : UInt8)))))) = old ++ List.take n data := by
    rw [List.take_zero, List.nil_append, List.take_left, hml, List.drop_eq_nil_of_le (by rw [List.length_append, List.length_drop, List.length_replicate]; omega), List.append_nil]
  rw [hl4] at hown4
  have hcw : Chg Non w w4 := ((hcb.trans0 hcn).trans hc3 fun b hb e => by omega).trans hc4 fun b hb e => by omega
  have hB0 : B < w.heap.size := hm0
  clear hl4 hown3 hdn3 hmb3 hd1 hd0 hcut hc3 hc4
  go_wp2_with (at_mapUpdate; refine wpList_mapUpdate_own _ rfl _ _ _ 46 rfl 9 30 keyF Tryz.underlying46 heldR B 1 _ rfl hmb4 (by decide) _ _ fL rfl rfl fKey _ [] rfl ?_; intro w5 hm5 hg5)
  have hown5 := hown4.rd.chg (Chg.of_grown hg5) fun b hb e => hBne (by
    simp only [Value.ownBlock, Option.some.injEq] at hb
    injection e with e
    omega)
  refine bodyPost_end (results_none rfl _ _ _) rfl ⟨rfl, _, FMap.put hm5, hown5.mono fun b hb => ?_, hcw.mono (fun _ _ h => h.elim) |>.grown hg5 fun b hb _ => by injection hb with hb; exact hb.symm⟩
  simp only [Value.ownBlock, Option.some.injEq] at hb
  omega
end Go.Proofs.YtfgecgmgbngeaaaGreat
