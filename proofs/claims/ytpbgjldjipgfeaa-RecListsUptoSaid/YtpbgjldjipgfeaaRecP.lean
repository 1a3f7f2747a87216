/- The walks of rec's reader: some, all. -/
import Derived.Test.YtpbgjldjipgfeaaRecO
import Derived.Laws.MakeOwn
import Derived.Deep.RegionLaw
namespace Go.Proofs.Ytpbgjldjipgfeaa
open Go.RowKit
set_option linter.unusedVariables false

theorem info_u64 : (Try.prog.info? 22).map (fun i => (i.zero, i.size, i.bytes)) = some (some (.int .u64 0), 1, 8) := by kernel_rfl
theorem run_mk64 (n : Nat) (h : n ≤ 1000) : ∀ w : World, (Instr.makeSlice 99 (.int .i64 (n : Int)) (.int .i64 (n : Int))).run Try.prog w = .ok (.slice (some ⟨w.heap.size, 0, none⟩) n n) (w.alloc (.cells (madeCells #[.int .u64 0] n) 22)) := fun w => by
  obtain ⟨i, hi, hz, h1, h2⟩ := info_parts info_u64
  have h := run_make (P := Try.prog) w 99 22 i _ Try.underlying99 hi hz .i64 .i64 n n (by omega) (by omega) (by rw [h2]; omega) (by omega)
  rw [h1, Int.toNat_natCast, Nat.mul_one] at h
  exact h
/-- k numbers are there, the others are nought -/
def arrS (ns : List Nat) (k : Nat) : Array Value := ((ns.take k).map uv ++ List.replicate (ns.length - k) (uv 0)).toArray
theorem arrS_zero (ns : List Nat) : madeCells #[.int .u64 0] ns.length = arrS ns 0 := by
  apply Array.toList_inj.1
  rw [toList_madeCells_one]
  simp [arrS, uv]
theorem arrS_succ (ns : List Nat) (k : Nat) (h : k < ns.length) : (arrS ns k).setIfInBounds k (uv ns[k]) = arrS ns (k + 1) := by
  have hl : ((ns.take k).map uv).length = k := by simp; omega
  have h1 : (arrS ns k).setIfInBounds k (uv ns[k]) = (((ns.take k).map uv ++ List.replicate (ns.length - k) (uv 0)).set k (uv ns[k])).toArray := by
    rw [arrS, List.setIfInBounds_toArray]
  have e : ns.length - k = (ns.length - (k + 1)) + 1 := by omega
  rw [h1, arrS, List.set_append_right _ _ (by omega), hl, Nat.sub_self, e, List.replicate_succ, List.set_cons_zero, List.take_succ_eq_append_getElem h, List.map_append, List.append_assoc]
  rfl
theorem arrS_full (ns : List Nat) : arrS ns ns.length = (ns.map uv).toArray := by simp [arrS]
theorem arrS_lt (ns : List Nat) (k i : Nat) (h : i < ns.length) (hk : k ≤ ns.length) : ∃ u, (arrS ns k)[i]? = some u := by
  have : i < (arrS ns k).size := by simp [arrS]; omega
  exact ⟨_, Array.getElem?_eq_getElem this⟩
theorem numsB_split (ns : List Nat) (k : Nat) (h : k < ns.length) : numsB ns = numsB (ns.take k) ++ numB ns[k] ++ numsB (ns.drop (k + 1)) := by
  have e : ns = ns.take k ++ (ns[k] :: ns.drop (k + 1)) := by rw [List.getElem_cons_drop, List.take_append_drop]
  have h2 : numsB ns = numsB (ns.take k ++ (ns[k] :: ns.drop (k + 1))) := congrArg numsB e
  rw [h2]
  simp only [numsB, List.flatMap_append, List.flatMap_cons, List.append_assoc]
theorem numsB_next (ns : List Nat) (k : Nat) (h : k < ns.length) (hu : U64 ns[k]) : takeB (numsB ns) ((numsB (ns.take k)).length : Int) = (ns[k], ((numsB (ns.take (k + 1))).length : Int), 0) := by
  have h1 := takeB_numB hu (numsB (ns.take k)) (numsB (ns.drop (k + 1)))
  rw [← numsB_split ns k h] at h1
  rw [h1, numsB_take ns k h]

set_option maxHeartbeats 4000000 in
set_option maxRecDepth 100000 in
theorem recSome {w : World} {F G : Nat → Prop} {g : Nat} {p : Value} {vs : List Value} {ns : List Nat} (h : RdOk w F g (p :: vs)) (hr : RdB w G p (numsB ns)) (hG : ¬ G g) (hl : vs.length ≤ 1000000000000) (hu : ∀ n ∈ ns, U64 n) (hn : ns.length ≤ 1000) (hFw : ∀ k, F k → k < w.heap.size) :
    Calls Try.prog 52 #[.pointer (some ⟨g, 0, none⟩), .int .i64 (ns.length : Int)] w fun e w' => ∃ a, e = .returned (.slice (some ⟨a, 0, none⟩) ns.length ns.length) ∧ w.heap.size ≤ a ∧ Blk w' a 22 (ns.map uv).toArray ∧ RdOk w' F g vs ∧ Chg (fun k => k = g) w w' := by
  have hmk := run_mk64 ns.length hn
  have hg := h.blk
  have hra := hr.lt
  have hn1 := fun (w' : World) (hc : Chg Non w w') => recNext (h.c0 hc) hr.sl hl
  have HN := hide hn1
  clear hn1
  go_enter Try.func52, Try.ntmps52
  go_upto_region 1 with fail
  go_cut [5, 6, 7] from 13 (fun v5 v6 v7 wx => v5 = p ∧ v6 = .int .i64 0 ∧ ∃ a, v7 = .slice (some ⟨a, 0, none⟩) ns.length ns.length ∧ w.heap.size ≤ a ∧ Blk wx a 22 (arrS ns 0) ∧ RdOk wx F g vs ∧ Chg (fun k => k = g) w wx)
  case first =>
    go_region_law (first
      | (go_simp; go_at_call 36; refine (HN.out _ ((Chg.refl Non w).drew)).mono ?_; rintro e w1 ⟨rfl, hk1, hc1⟩)
      | (go_simp; go_at_call 36; refine (HN.out _ ((Chg.refl Non w).drew.alloc _)).mono ?_; rintro e w1 ⟨rfl, hk1, hc1⟩))
    · (try simp only [List.getElem_toArray, List.getElem_cons_zero, List.getElem_cons_succ, Act.put, List.setIfInBounds_toArray, List.set_cons_zero, List.set_cons_succ])
      have hB := Blk.new w1 22 (madeCells #[.int .u64 0] ns.length)
      have hs := hc1.size
      have hs' : w.heap.size ≤ w1.heap.size := hs
      rw [arrS_zero] at hB ⊢
      have hk2 := hk1.c0 ((Chg.refl Non w1).alloc (.cells (arrS ns 0) 22))
      have hc2 : Chg (fun k => k = g) w (w1.alloc (.cells (arrS ns 0) 22)) := ((Chg.refl (fun k => k = g) w).drew).trans (hc1.alloc _) fun _ _ h => h
      generalize World.alloc _ _ = w2 at hB hk2 hc2 ⊢
      go_wp2_with fail
      go_meet
      exact ⟨rfl, rfl, _, rfl, hs', hB, hk2, hc2⟩
    · (try simp only [List.getElem_toArray, List.getElem_cons_zero, List.getElem_cons_succ, Act.put, List.setIfInBounds_toArray, List.set_cons_zero, List.set_cons_succ])
      have hB := (Blk.new w.drew 22 (madeCells #[.int .u64 0] ns.length)).chg hc1 (fun e => by have : w.drew.heap.size = w.heap.size := rfl; omega)
      rw [arrS_zero] at hB
      have hc2 : Chg (fun k => k = g) w w1 := ((Chg.refl (fun k => k = g) w).drew.alloc _).trans hc1 fun _ _ h => h
      go_wp2_with fail
      go_meet
      exact ⟨rfl, rfl, _, rfl, Nat.le_refl _, hB, hk1, hc2⟩
  case rest =>
    obtain ⟨rfl, rfl, a, rfl, ha, hB, hk, hc⟩ := hcut
    clear HN h hmk
    have hga : a ≠ g := by omega
    have hrp := hra.chg hc fun k (hk : G k ∧ k < w.heap.size) (e : k = g) => hG (e ▸ hk.1)
    obtain ⟨W0, hW0⟩ : ∃ W0 : Nat → Prop, W0 = fun k => k = g := ⟨_, rfl⟩
    have hsw := hc.size
    go_wp2_with fail
    go_loopw [6, 15] (fun av iv wr => ∃ k, k ≤ ns.length ∧ iv = .int .i64 (k : Int) ∧ av = .int .i64 ((numsB (ns.take k)).length : Int) ∧ Blk wr a 22 (arrS ns k) ∧ RdOk wr F g vs ∧ Chg (fun j => j = g ∨ j = a) wc wr) (fun _ iv _ => ns.length - (intOf iv).toNat)
    case atStart => exact ⟨0, Nat.zero_le _, rfl, by simp [numsB], hB, hk, Chg.refl _ _⟩
    case round =>
      clear hB hk
      obtain ⟨k, hk, rfl, rfl, hB, hRd, hcw⟩ := hrel
      have hRd0 := hRd
      obtain ⟨v, hb, hv, hFg⟩ := hRd
      have c1 := hb.cell 1
      simp at c1
      have hrp2 := hrp.chg hcw fun j (hj : G j ∧ j < w.heap.size) e => by
        rcases e with e | e
        · exact hG (e ▸ hj.1)
        · omega
      by_cases h1 : k < ns.length
      · have hnext := numsB_next ns k h1 (hu _ (List.getElem_mem h1))
        have htk := packTake (at_ := ((numsB (ns.take k)).length : Int)) hrp2
        rw [hnext] at htk
        have HS := hide (arrS_succ ns k h1)
        obtain ⟨u0, hu0⟩ := arrS_lt ns k k h1 hk
        have ca := hB.cell k
        rw [hu0] at ca
        have fa := hB.frozen k
        have f1 := hb.frozen 1
        obtain ⟨n, hn0⟩ : ∃ n, n = ns[k] := ⟨_, rfl⟩
        rw [← hn0] at htk HS
        have HT := hide htk
        have hB' := hB.set_ k (uv n)
        rw [HS.out] at hB'
        have hk1 : (k : Int) < (ns.length : Int) := by omega
        have hk0 : (0 : Int) ≤ (k : Int) := by omega
        have x1 : Chg (fun j => j = g ∨ j = a) wr (wr.setCell ⟨a, k, none⟩ (uv n)) := (Chg.refl (fun j => j = g ∨ j = a) wr).setCell (p := ⟨a, k, none⟩) (fun _ => .inr rfl) (uv n)
        have x2 : Chg (fun j => j = g ∨ j = a) wr ((wr.setCell ⟨a, k, none⟩ (uv n)).setCell ⟨g, 1, none⟩ (.int .i64 0)) := x1.setCell (p := ⟨g, 1, none⟩) (fun _ => .inl rfl) (.int .i64 0)
        have b1 := hB'.far (p := ⟨g, 1, none⟩) hga (.int .i64 0)
        have b2 := (hb.far (p := ⟨a, k, none⟩) (fun e => hga e.symm) (uv n)).set_ 1 (.int .i64 0)
        simp only [List.setIfInBounds_toArray, List.set_cons_succ, List.set_cons_zero] at b2
        have HB1 := hide b1
        have HB2 := hide b2
        have HX := hide x2
        have HV := hide hv
        unfold uv at HB1 HB2 HX HS
        clear hB hB' hb hv hRd0 b1 b2 x1 x2 htk hnext hu0 hn0 hrp2 hrp hra
        go_wp2_with fail
        refine HT.out.mono ?_
        rintro e w2 ⟨rfl, rfl⟩
        unfold tk
        go_wp2_with fail
        go_roundw
        case rel => exact ⟨k + 1, by omega, by go_num, rfl, HB1.out, ⟨v, HB2.out, RdV.chg HV.out HX.out fun j hj e => by
          rcases e with e | e
          · exact hFg (e ▸ hj)
          · have := hFw j hj; omega, hFg⟩, hcw.trans HX.out fun _ _ h => h⟩
        case measure => simp [intOf]; omega
      · have hkn : k = ns.length := by omega
        subst hkn
        have hfull : ns.take ns.length = ns := List.take_length
        rw [arrS_full] at hB
        have hlen := fun w' ty => run_len8 hrp2 w' ty
        rw [hfull]
        have hx : decide (((numsB ns).length : Int) < ((numsB ns).length : Int)) = false := decide_eq_false (by omega)
        have hcf : Chg (fun j => j = g) w wr := hc.trans hcw fun j hj e => by
          rcases e with e | e
          · exact e
          · omega
        clear hv hrp2 hrp hra hb
        have hb := hRd0
        have HRd := hide hRd0
        have HB := hide hB
        have HC := hide hcf
        clear hRd0 hB hcf hb hc hcw
        go_wp2_with fail
        go_ret
        exact ⟨a, rfl, ha, HB.out, HRd.out, HC.out⟩

set_option maxHeartbeats 4000000 in
set_option maxRecDepth 100000 in
theorem recSomeE {w : World} {g : Nat} {er : Int} {n : Nat} (h : RdErr w g er) (hn : n ≤ 1000) :
    Calls Try.prog 52 #[.pointer (some ⟨g, 0, none⟩), .int .i64 (n : Int)] w fun e w' => ∃ a, e = .returned (.slice (some ⟨a, 0, none⟩) n n) ∧ w.heap.size ≤ a ∧ Blk w' a 22 (madeCells #[.int .u64 0] n) ∧ Chg Non w w' := by
  have hmk := run_mk64 n hn
  have hn1 := fun (w' : World) (hc : Chg Non w w') => recNextE (h.c0 hc)
  have HN := hide hn1
  clear hn1
  go_enter Try.func52, Try.ntmps52
  go_upto_region 1 with fail
  go_cut [5, 6, 7] from 13 (fun v5 v6 v7 wx => v5 = .slice none 0 0 ∧ v6 = .int .i64 0 ∧ ∃ a, v7 = .slice (some ⟨a, 0, none⟩) n n ∧ w.heap.size ≤ a ∧ Blk wx a 22 (madeCells #[.int .u64 0] n) ∧ Chg Non w wx)
  case first =>
    go_region_law (first
      | (go_simp; go_at_call 36; refine (HN.out _ ((Chg.refl Non w).drew)).mono ?_; rintro e w1 ⟨rfl, rfl⟩)
      | (go_simp; go_at_call 36; refine (HN.out _ ((Chg.refl Non w).drew.alloc _)).mono ?_; rintro e w1 ⟨rfl, rfl⟩))
    all_goals
      (try simp only [List.getElem_toArray, List.getElem_cons_zero, List.getElem_cons_succ, Act.put, List.setIfInBounds_toArray, List.set_cons_zero, List.set_cons_succ])
      have hB := Blk.new w.drew 22 (madeCells #[.int .u64 0] n)
      have hc2 : Chg Non w (w.drew.alloc (.cells (madeCells #[.int .u64 0] n) 22)) := ((Chg.refl Non w).drew).alloc _
      go_wp2_with fail
      go_meet
      exact ⟨rfl, rfl, _, rfl, Nat.le_refl _, hB, hc2⟩
  case rest =>
    obtain ⟨rfl, rfl, a, rfl, ha, hB, hc⟩ := hcut
    have hE := h.c0 hc
    obtain ⟨v, hb, he⟩ := hE
    clear HN h hmk
    have e1 : (er == 0) = false := beq_eq_false_iff_ne.2 he
    go_wp2_with fail
    go_loopw [15] (fun iv wr => ∃ k, k ≤ n ∧ iv = .int .i64 (k : Int) ∧ wr = wc) (fun iv _ => n - (intOf iv).toNat)
    case atStart => exact ⟨0, Nat.zero_le _, rfl, rfl⟩
    case round =>
      obtain ⟨k, hk, rfl, rfl⟩ := hrel
      have c1 := hb.cell 1
      simp at c1
      by_cases h1 : k < n
      · clear hB hb
        go_wp2_with fail
        go_roundw
        case rel => exact ⟨k + 1, by omega, by go_num, trivial⟩
        case measure => simp [intOf]; omega
      · clear hb
        have HB := hide hB
        clear hB
        go_wp2_with fail
        go_ret
        exact ⟨a, rfl, ha, HB.out, hc⟩

theorem numB_pos (n : Nat) : 0 < (numB n).length := by
  by_cases h : n ≤ 247
  · rw [numB_small n h]; simp
  · rw [numB_large n (by omega)]; simp
theorem numsB_app (l m : List Nat) : numsB (l ++ m) = numsB l ++ numsB m := by simp [numsB]
/-! ### numbers appended one by one -/
theorem info_int : (Try.prog.info? 3).map (fun i => (i.zero, i.size, i.bytes)) = some (some (.int .i64 0), 1, 8) := by kernel_rfl
/-- append of one number, that stands in a literal's block -/
theorem append_U1 {w : World} {ops : Array Oper} {rest : List Oper} {o : Oper} {a : Act} {Q : Exit → Act → World → Prop} (hgd : o.guard = none) (s x : Operand)
    (ho : o.op = .call { callee := .builtin .append, args := #[s, x], argTypes := #[99, 99] })
    {base : Nat} {v : Value} {xs : List Value} {n : Nat} (hown : w.ownsRow base 22 1 v n xs) (hv : a.eval s = v)
    {m : Nat} {g : Nat} (hg : Blk w g 22 #[.int .u64 (m : Int)]) (hy : a.eval x = .slice (some ⟨g, 0, none⟩) 1 1)
    (hb : n + 1 ≤ 1000000000000) (hbase : base ≤ w.heap.size)
    (h : ∀ v' w', w'.ownsRow base 22 1 v' (n + 1) (xs ++ [.int .u64 (m : Int)]) → w.grownBy w' v.ownBlock → wpList Try.prog ops Q rest (a.put o.dst v') w') : wpList Try.prog ops Q (o :: rest) a w := by
  obtain ⟨i, hi, hz, h1, h2⟩ := info_parts info_u64
  have hr : RdV w (fun _ => True) 1 (.slice (some ⟨g, 0, none⟩) 1 1) 1 [.int .u64 (m : Int)] := ⟨rfl, _, 1, rfl, Nat.le_refl _, by simp [maxLen], fun _ => ⟨_, rfl, trivial, fun j y hyj => by
    rw [add_none, hg.cell]
    match j, hyj with
    | 0, hyj => simpa using hyj
    | j + 1, hyj => simp at hyj⟩⟩
  refine wpList_append_rd w hgd s x _ ho base 22 i _ 1 8 Try.underlying99 hi hz h1 h2 rfl (by omega) v hv _ _ hown _ _ hy _ _ hr (fun y hy => by simp at hy; subst hy; rfl) (by simp only [maxLen]; omega) (by omega) hbase ?_
  intro v' w' hown' hgr _ _
  exact h v' w' hown' hgr
theorem row_chg {w w' : World} {S : Nat → Prop} {base sz n : Nat} {e : TypeId} {v : Value} {xs : List Value} (h : w.ownsRow base e sz v n xs) (hc : Chg S w w') (hS : ∀ k, v.ownBlock = some k → ¬ S k) : w'.ownsRow base e sz v n xs := by
  refine ⟨h.1, ?_⟩
  rcases h.2 with hn | ⟨g', cap, cur, rfl, hb, hg, rest⟩
  · exact .inl hn
  · exact .inr ⟨g', cap, cur, rfl, hb, hc.heap hg (hS g' rfl), rest⟩

set_option maxHeartbeats 4000000 in
set_option maxRecDepth 100000 in
theorem recAll {w : World} {F G : Nat → Prop} {g : Nat} {p : Value} {vs : List Value} {ns : List Nat} (h : RdOk w F g (p :: vs)) (hr : RdB w G p (numsB ns)) (hG : ¬ G g) (hl : vs.length ≤ 1000000000000) (hu : ∀ n ∈ ns, U64 n) (hn : ns.length ≤ 1000000000) (hFw : ∀ k, F k → k < w.heap.size) :
    Calls Try.prog 57 #[.pointer (some ⟨g, 0, none⟩)] w fun e w' => ∃ u, e = .returned u ∧ RdU w' (fun b => w.heap.size ≤ b) u ns ∧ RdOk w' F g vs ∧ Chg (fun k => k = g) w w' := by
  have hg := h.blk
  have hra := hr.lt
  have hn1 := recNext h hr.sl hl
  have HN := hide hn1
  clear hn1
  go_enter Try.func57, Try.ntmps57
  go_wp2_with fail
  refine HN.out.mono ?_
  rintro e w1 ⟨rfl, hk, hc⟩
  have hrp := hra.chg hc fun k (hk : G k ∧ k < w.heap.size) (e : k = g) => hG (e ▸ hk.1)
  have hsw := hc.size
  clear HN h hr hra
  go_wp2_with fail
  go_loopw [3, 5] (fun ov av wr => ∃ k, k ≤ ns.length ∧ av = .int .i64 ((numsB (ns.take k)).length : Int) ∧ wr.ownsRow w1.heap.size 22 1 ov k ((ns.take k).map uv) ∧ RdOk wr F g vs ∧ Chg (fun j => j = g) w1 wr) (fun _ av _ => (numsB ns).length - (intOf av).toNat)
  case atStart => exact ⟨0, Nat.zero_le _, by simp [numsB], World.ownsRow_nil _ _ _ 1, hk, Chg.refl _ _⟩
  case round =>
    clear hk
    obtain ⟨k, hk, rfl, hO, hRd, hcw⟩ := hrel
    have hRd0 := hRd
    obtain ⟨v, hb, hv, hFg⟩ := hRd
    have c1 := hb.cell 1
    simp at c1
    have hrp2 := hrp.chg hcw fun j (hj : G j ∧ j < w.heap.size) e => hG (e ▸ hj.1)
    have hlen := fun w' ty => run_len8 hrp2 w' ty
    by_cases h1 : k < ns.length
    · have hnext := numsB_next ns k h1 (hu _ (List.getElem_mem h1))
      have htk := packTake (at_ := ((numsB (ns.take k)).length : Int)) hrp2
      rw [hnext] at htk
      have hadv : (numsB (ns.take k)).length < (numsB (ns.take (k + 1))).length := by
        rw [numsB_take ns k h1, List.length_append]
        have := numB_pos ns[k]
        omega
      have hle : (numsB (ns.take (k + 1))).length ≤ (numsB ns).length := by
        have e : numsB ns = numsB (ns.take (k + 1)) ++ numsB (ns.drop (k + 1)) := by
          rw [← numsB_app, List.take_append_drop]
        rw [e, List.length_append]; omega
      have HT2 := hide (show (ns.take (k + 1)).map uv = (ns.take k).map uv ++ [uv ns[k]] from by rw [List.take_succ_eq_append_getElem h1, List.map_append]; rfl)
      have f1 := hb.frozen 1
      have hltn : (numsB (ns.take k)).length < (numsB ns).length := by omega
      obtain ⟨n, hn0⟩ : ∃ n, n = ns[k] := ⟨_, rfl⟩
      rw [← hn0] at htk HT2
      have HT := hide htk
      have HA := hide hadv
      have HE := hide hle
      have hk9 : k + 1 ≤ 1000000000000 := by omega
      have hs9 : w1.heap.size ≤ (wr.alloc (.cells #[.int .u64 (n : Int)] 22)).heap.size := Nat.le_trans hcw.size ((Chg.refl Non wr).alloc _).size
      have hO1 := row_chg hO ((Chg.refl Non wr).alloc (.cells #[.int .u64 (n : Int)] 22)) fun _ _ h => h
      have hbl := Blk.new wr 22 #[.int .u64 (n : Int)]
      have hgw : g < w1.heap.size := by omega
      have hgr : ¬ (some g = u3.ownBlock) := fun e => by have := (World.ownsRow.lt hO g e.symm).1; omega
      have hb1 := hb.al (.cells #[.int .u64 (n : Int)] 22)
      have hv1 := RdV.chg hv ((Chg.refl Non wr).alloc (.cells #[.int .u64 (n : Int)] 22)) fun _ _ h => h
      have hcw1 := hcw.alloc (.cells #[.int .u64 (n : Int)] 22)
      have HV1 := hide hv1
      have HCW := hide hcw1
      clear hnext hn0 hrp2 hv hRd0 htk hadv hle hO hv1 hcw1 hcw
      go_wp2_with (first
        | (go_at_call 64; refine HT.out.mono ?_; rintro e w2 ⟨rfl, rfl⟩; unfold tk)
        | (at_builtin; refine append_U1 rfl _ _ rfl hO1 rfl hbl rfl hk9 hs9 ?_; intro v3 w3 hO3 hg3; have hb3 := hb1.chg (Chg.of_grown hg3) hgr; have f3 := hb3.frozen 1; have c3 : w3.cell? ⟨g, 1, none⟩ = some (.int .i64 0) := hb3.cell 1))
      have hx := (Chg.refl (fun j => j = g) w3).setCell (p := ⟨g, 1, none⟩) (fun _ => rfl) (.int .i64 0)
      have hb4 := hb3.set_ 1 (.int .i64 0)
      simp only [List.setIfInBounds_toArray, List.set_cons_succ, List.set_cons_zero] at hb4
      have hv3 := RdV.chg HV1.out (Chg.of_grown hg3) fun j hj e => by have := (World.ownsRow.lt hO1 j e.symm).1; have := hFw j hj; omega
      have hO4 := row_chg hO3 hx fun j hj e => by have := (World.ownsRow.lt hO3 j hj).1; omega
      have hc4 := (HCW.out.own hg3 (fun j hj => (World.ownsRow.lt hO1 j hj).1)).trans hx fun _ _ h => h
      have hv4 := RdV.chg hv3 hx fun j hj e => hFg (e ▸ hj)
      go_roundw
      case rel => exact ⟨k + 1, by omega, rfl, by rw [HT2.out]; exact hO4, ⟨v, hb4, hv4, hFg⟩, hc4⟩
      case measure => simp only [intOf, Int.toNat_natCast]; have := HA.out; have := HE.out; omega
    · have hkn : k = ns.length := by omega
      subst hkn
      have hfull : ns.take ns.length = ns := List.take_length
      rw [hfull] at hO ⊢
      have HRd := hide hRd0
      have HO := hide hO
      clear hv hrp2 hrp hRd0 hO
      go_wp2_with fail
      go_ret
      refine ⟨_, rfl, ⟨hu, ?_⟩, HRd.out, hc.trans hcw fun _ _ h => h⟩
      exact (RdV.of_own HO.out).mono fun j hj => Nat.le_trans hsw (World.ownsRow.lt HO.out j hj).1
end Go.Proofs.Ytpbgjldjipgfeaa
