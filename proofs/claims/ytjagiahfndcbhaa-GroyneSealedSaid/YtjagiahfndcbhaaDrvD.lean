/- The walks of drive's raw, Write, Append and Flush. -/
import Derived.Test.YtjagiahfndcbhaaDrvC
import Derived.Deep.RegionLaw
import Derived.Deep.CutRange
import Derived.Deep.RegionLawGrows
namespace Go.Proofs.Ytjagiahfndcbhaa
open Go.RowKit Go.Maps

theorem Drv.seen {w : World} {base g : Nat} {F : Nat → Prop} {sv qv : Value} {so : Option (List UInt8)} {q : List (List UInt8)} (h : Drv w base g F sv (.map none) qv so none q) (hB : base ≤ w.heap.size) :
    Drv ((w.setCell ⟨g, 1, none⟩ (.map (some w.heap.size))).alloc (.map #[] 0)) base g F sv (.map (some w.heap.size)) qv so none q ∧ Chg (fun k => k = g) w ((w.setCell ⟨g, 1, none⟩ (.map (some w.heap.size))).alloc (.map #[] 0)) := by
  have hb := (h.blk.set_ 1 (.map (some w.heap.size))).al (.map #[] 0)
  simp at hb
  have hc : Chg (fun k => k = g) w ((w.setCell ⟨g, 1, none⟩ (.map (some w.heap.size))).alloc (.map #[] 0)) := (Chg.setCell (p := ⟨g, 1, none⟩) (Chg.refl (fun k => k = g) w) (fun _ => rfl) _).alloc _
  have hm := FMap.new (w.setCell ⟨g, 1, none⟩ (.map (some w.heap.size)))
  rw [show (w.setCell ⟨g, 1, none⟩ (.map (some w.heap.size))).heap.size = w.heap.size by simp] at hm
  have hgB : ∀ v u, v = Value.map (some u) → FS w base F v so → ¬ u = g := fun v u e hf e2 => by
    subst e2
    obtain ⟨x, hx⟩ := hf.map e
    exact hx.no_cells h.blk
  refine ⟨⟨hb, h.le, h.s.chg hc (fun b hb => (h.f b hb).2.2) (fun u e => hgB _ u e h.s), .inr ⟨w.heap.size, none, rfl, hB, hm, .inl ⟨rfl, rfl⟩⟩, h.qu.chg hc (fun b hb => (h.f b hb).2.2), h.c, fun u e e2 => ?_, fun b hb => ⟨(h.f b hb).1, Nat.lt_of_lt_of_le (h.f b hb).2.1 hc.size, (h.f b hb).2.2⟩⟩, hc⟩
  injection e2 with e2; injection e2 with e2
  subst e2
  have := (h.s.lt e).2
  omega

theorem info_deed : (Try.prog.info? 61).map (fun i => (i.zero, i.size, i.bytes)) = some (some .nilIface, 1, 16) := by kernel_rfl
theorem under_deeds : Try.prog.underlying 45 = some (.slice (Try.prog.elem 45)) := by kernel_rfl
theorem size_deed (w : World) : (sizeOf (Try.prog.elem 45)).run Try.prog w = .ok 1 w := by kernel_rfl
/-- 'queue[:len:len]' -/
theorem queue_cut {w : World} {F : Nat → Prop} {Q : Option Addr} {n c : Nat} {xs : List Value} (h : RdV w F 1 (.slice Q n c) n xs) (hc : n ≤ c) :
    ∃ ao : Option Addr, (ao = none → n = 0 ∧ n = 0) ∧ (∀ b, ao = some b → ∀ j u, xs[j]? = some u → w.cell? (b.add j) = some u) ∧
      ∀ w' : World, (Instr.slice 45 (.slice Q n c) none (some (.int .i64 (n : Int))) (some (.int .i64 (n : Int)))).run Try.prog w' = .ok (.slice ao n n) w' := by
  refine ⟨if n = 0 then Q else Q.map (·.add (0 * 1)), fun e => ?_, fun b e j u hj => ?_, fun w' => ?_⟩
  · by_cases h0 : n = 0
    · exact ⟨h0, h0⟩
    · rw [if_neg h0] at e
      obtain ⟨ad, hA, _, _⟩ := RdV.cells h (by omega)
      rw [hA] at e
      cases e
  · by_cases h0 : n = 0
    · have hl := h.1
      rw [h0] at hl
      have : xs = [] := List.eq_nil_of_length_eq_zero (by omega)
      rw [this] at hj
      simp at hj
    · rw [if_neg h0] at e
      obtain ⟨ad, hA, _, hcs⟩ := RdV.cells h (by omega)
      rw [hA, Option.map_some] at e
      injection e with e
      rw [← e, add_of_add]
      simpa using hcs j u hj
  · rw [run_slice_hm (P := Try.prog) w' 45 Q n c under_deeds .i64 .i64 (n : Int) (n : Int) (by omega) (by omega) (by omega), size_deed]
    simp only [Result.andThen, sliced, Int.toNat_natCast, Nat.sub_zero]
theorem step_Q {ops : Array Oper} {o : Oper} {a : Act} {w w0 : World} {K : Act → World → Prop} {Q : Exit → Act → World → Prop} {E : Prop} (hgd : o.guard = none) (s x : Operand)
    (ho : o.op = Op.call { callee := Callee.builtin Builtin.append, args := #[s, x], argTypes := #[45, 45] })
    {ao : Option Addr} {n g1 : Nat} {xs : List Value} {v : Value} (hs : a.eval s = .slice ao n n) (hao : ao = none → n = 0 ∧ n = 0) (hcs : ∀ b, ao = some b → ∀ j u, xs[j]? = some u → w0.cell? (b.add j) = some u) (hc : Chg Non w0 w) (hl : xs.length = n * 1)
    (hx : a.eval x = .slice (some ⟨g1, 0, none⟩) 1 1) (hb : Blk w g1 61 #[v]) (hv : v.oneCell' = true) (hn : n ≤ 1000)
    (h : ∀ v' w', w'.ownsRow w.heap.size 61 1 v' (n + 1) (xs ++ [v]) → w.grownBy w' none → K (a.put o.dst v') w') :
    if Region.wanted o (yielded ops a.tmps) = true then Oper.wp Try.prog o a w K Q else E := by
  obtain ⟨i0, hi, hz0, hz1, hz2⟩ := info_parts info_deed
  refine step_append_grows hgd s x 45 ho 61 i0 _ 1 16 Try.underlying45 hi hz0 hz1 hz2 rfl (by decide) ao n n xs hs hao hl (fun b hb j u hj => hc.cell (hcs b hb j u hj) (fun h => h)) ⟨g1, 0, none⟩ 1 1 [v] hx rfl (fun j u hj => ?_) (fun u hu => ?_) (by omega) (by simp only [maxLen]; omega) (by omega) h
  · rw [add_none, Nat.zero_add, hb.cell]
    simpa using hj
  · simp only [List.mem_singleton] at hu
    subst hu
    exact hv
theorem chg_grown0 {w0 w w' : World} (hc : Chg Non w0 w) (hg : w.grownBy w' none) : Chg Non w0 w' := hc.grown hg fun b hb _ => by cases hb
theorem Drv.enq {w1 w2 w3 : World} {base g B b3 : Nat} {F G : Nat → Prop} {sv qv dv v' u2 : Value} {u : Option Value} {so no : Option (List UInt8)} {q : List (List UInt8)} {s old : List UInt8} {xs : List Value}
    (hD : Drv w1 base g F sv (.map (some B)) qv so no q) (hm : FMap w1 B u) (hd : RdB w1 G dv s) (hG : ∀ b, G b → base ≤ b ∧ b ≠ g ∧ b ≠ B) (hbw : base ≤ w1.heap.size) (hm2 : FMap w2 B (some u2)) (hr2 : RdB w2 (fun k => w1.heap.size ≤ k) u2 (old ++ s)) (hc2 : Chg (fun k => k = B) w1 w2)
    (hx1 : xs.length = q.length) (hx3 : ∀ (i : Nat) (x : Value) (l : List UInt8), xs[i]? = some x → q[i]? = some l → ∃ d, x = wI ((so.getD []).length + (q.take i).flatten.length) d ∧ RdB w1 (fun b => F b ∧ b ≠ B) d l)
    (h3 : Chg Non w2 w3) (hown : w3.ownsRow b3 61 1 v' (q.length + 1) (xs ++ [wI old.length dv])) (hb3 : w2.heap.size ≤ b3) (hold : old = no.getD []) :
    ∃ F', Drv (w3.setCell ⟨g, 2, none⟩ v') base g F' sv (.map (some B)) v' so (some (old ++ s)) (q ++ [s]) ∧ Chg (fun k => k = g ∨ k = B) w1 (w3.setCell ⟨g, 2, none⟩ v') ∧ ∀ b, F' b → F b ∨ G b ∨ w1.heap.size ≤ b := by
  subst hold
  have hgB : g ≠ B := fun e => by
    have := hD.blk
    rw [e] at this
    exact hm.no_cells this
  have hlt := World.ownsRow.lt hown
  have h4 : Chg (fun k => k = g) w3 (w3.setCell ⟨g, 2, none⟩ v') := Chg.setCell (p := ⟨g, 2, none⟩) (Chg.refl (fun k => k = g) w3) (fun _ => rfl) _
  have h23 : Chg (fun k => k = B) w1 w3 := hc2.trans0 h3
  have hgl := hD.blk.lt
  have s2 := hc2.size
  have s3 := h3.size
  have s4 := h4.size
  have h14 : Chg (fun k => k = g ∨ k = B) w1 (w3.setCell ⟨g, 2, none⟩ v') := (h23.mono fun _ _ e => .inr e).trans h4 fun b _ e => .inl e
  have hblk := ((hD.blk.chg h23 hgB).set_ 2 v')
  simp at hblk
  have mv : ∀ {H : Nat → Prop} {x : Value} {l : List UInt8}, (∀ b, H b → b ≠ g ∧ b ≠ B) → RdB w1 H x l → RdB (w3.setCell ⟨g, 2, none⟩ v') H x l := fun hH hr => hr.chg h14 fun b hb e => by
    rcases e with e | e
    · exact (hH b hb).1 e
    · exact (hH b hb).2 e
  refine ⟨fun b => (F b ∨ G b ∨ w1.heap.size ≤ b) ∧ b < (w3.setCell ⟨g, 2, none⟩ v').heap.size ∧ b ≠ g, ⟨hblk, hD.le, ?_, ?_, ?_, ?_, hD.sep, fun b hb => ⟨?_, hb.2.1, hb.2.2⟩⟩, h14, fun b hb => hb.1⟩
  · refine ((hD.s.noMap hm).chg h14 (fun b hb e => ?_) (fun B' e e2 => ?_)).mono fun b hb => ⟨.inl hb.1, Nat.lt_of_lt_of_le (hD.f b hb.1).2.1 h14.size, (hD.f b hb.1).2.2⟩
    · rcases e with e | e
      · exact (hD.f b hb.1).2.2 e
      · exact hb.2 e
    · rcases e2 with e2 | e2
      · subst e2
        obtain ⟨u', hu'⟩ := hD.s.map e
        exact hu'.no_cells hD.blk
      · subst e2
        exact hD.sep _ e rfl
  · have hm4 := (hm2.chg h3 (fun h => h)).chg h4 (fun e => hgB e.symm)
    refine .inr ⟨B, some u2, rfl, (hD.n.lt rfl).1, hm4, .inr ⟨u2, _, rfl, rfl, ?_⟩⟩
    have hr3 := (hr2.lt).c0 h3
    refine (hr3.chg h4 fun b hb e => ?_).mono fun b hb => ⟨.inr (.inr hb.1), by omega, fun e => by omega⟩
    omega
  · refine ⟨xs ++ [wI (no.getD []).length dv], by simp [hx1], ?_, fun i x l hx hl => ?_⟩
    · rw [List.length_append, List.length_singleton]
      refine ((RdV.of_own hown).chg h4 fun b hb e => ?_).mono fun b hb => ?_
      · have := (hlt b hb).1
        omega
      · have := hlt b hb
        exact ⟨.inr (.inr (by omega)), by omega, by omega⟩
    · by_cases hi : i < q.length
      · rw [List.getElem?_append_left (by omega)] at hx
        rw [List.getElem?_append_left hi] at hl
        obtain ⟨d, e, hd'⟩ := hx3 i x l hx hl
        refine ⟨d, by rw [e, List.take_append_of_le_length (by omega)], (mv (fun b hb => ⟨(hD.f b hb.1).2.2, hb.2⟩) hd').mono fun b hb => ⟨.inl hb.1, Nat.lt_of_lt_of_le (hD.f b hb.1).2.1 h14.size, (hD.f b hb.1).2.2⟩⟩
      · rw [List.getElem?_append_right (by omega)] at hx hl
        have h0 : i = q.length := by
          have := (List.getElem?_eq_some_iff.1 hl).1
          simp at this
          omega
        subst h0
        rw [hx1, Nat.sub_self] at hx
        rw [Nat.sub_self] at hl
        simp only [List.getElem?_cons_zero, Option.some.injEq] at hx hl
        subst hx; subst hl
        refine ⟨dv, ?_, (mv (fun b hb => ⟨(hG b hb.1).2.1, (hG b hb.1).2.2⟩) hd.lt).mono fun b hb => ⟨.inr (.inl hb.1), by omega, (hG b hb.1).2.1⟩⟩
        rw [List.take_left, hD.c, List.length_append]
  · rw [hD.c, Option.getD_some, List.flatten_append, List.append_assoc]
    simp
  · rcases hb.1 with h | h | h
    · exact (hD.f b h).1
    · exact (hG b h).1
    · omega
theorem wrDo2 {w : World} {B : Nat} {o : Option Value} {old data : List UInt8} {F G : Nat → Prop} {dv : Value} (hm : FMap w B o) (ho : RdB w F (o.getD nilS) old) (hd : RdB w G dv data) (hsz : old.length + data.length ≤ 1000000000) :
    Calls Try.prog 60 #[wV old.length dv, .map (some B), .int .i64 ((data.length : Int) + 1)] w fun e w' =>
      e = .returned (.tuple #[]) ∧ ∃ u, FMap w' B (some u) ∧ RdB w' (fun k => w.heap.size ≤ k) u (old ++ data) ∧ Chg (fun k => k = B) w w' := by
  have h := wrDo hm ho hd (Nat.le_refl _) hsz
  rw [List.take_of_length_le (Nat.le_refl _)] at h
  exact h
theorem methUnits (p : Int) (dv : Value) (w : World) : (method 209 82 (.agg #[.string fN, .int .i64 p, dv]) "groyne/drive.units").run Try.prog w = .ok (61, .agg #[.string fN, .int .i64 p, dv]) w := by kernel_rfl
theorem aheadDo (p : Int) (dv : Value) (w : World) : (nilAhead 209 82 (.agg #[.string fN, .int .i64 p, dv]) "groyne/drive.do").run Try.prog w = .ok (some false) w := by kernel_rfl
theorem methDo (p : Int) (dv : Value) (w : World) : (method 209 82 (.agg #[.string fN, .int .i64 p, dv]) "groyne/drive.do").run Try.prog w = .ok (60, .agg #[.string fN, .int .i64 p, dv]) w := by kernel_rfl

set_option maxHeartbeats 10000000 in
theorem drvRaw {w : World} {base g : Nat} {F G : Nat → Prop} {sv nv qv dv : Value} {so no : Option (List UInt8)} {q : List (List UInt8)} {s : List UInt8} (h : Drv w base g F sv nv qv so no q) (hd : RdB w G dv s) (hG : ∀ b, G b → base ≤ b ∧ b < w.heap.size ∧ b ≠ g)
    (hsz : (no.getD []).length + s.length ≤ 1000000000) (hq : q.length ≤ 1000) (hbw : base ≤ w.heap.size) :
    Calls Try.prog 34 #[.pointer (some ⟨g, 0, none⟩), wI (no.getD []).length dv, .int .i64 0] w fun e w' => e = .returned (.int .i64 0) ∧ ∃ F' nv' qv', Drv w' base g F' sv nv' qv' so (some (no.getD [] ++ s)) (q ++ [s]) ∧ Chg (fun k => k = g ∨ nv = .map (some k)) w w' ∧
      (∀ b, F' b → F b ∨ G b ∨ w.heap.size ≤ b) ∧ ∀ B, nv' = .map (some B) → nv = .map (some B) ∨ w.heap.size ≤ B := by
  have hmay := drvMay h.blk
  have k1 := h.blk.cell 1
  have f1 := h.blk.frozen 1
  have hgl := h.blk.lt
  simp at k1
  have hq1 := nilm_eq
  have hmm := @run_makeMap Try.prog
  obtain ⟨r, rfl⟩ : ∃ r, nv = .map r := by
    rcases h.n with ⟨e, _⟩ | ⟨B, u, e, _⟩
    · exact ⟨_, e⟩
    · exact ⟨_, e⟩
  unfold wI wV
  go_enter Try.func34, Try.ntmps34
  go_wp2_with fail
  refine hmay.mono ?_
  rintro e wx ⟨rfl, hx⟩
  subst wx
  clear hmay
  go_upto_if 24 with fail
  go_cut [7] from 25 (fun v7 wx => v7 = .bool true ∧ ∃ B, Drv wx base g F sv (.map (some B)) qv so no q ∧ (Value.map r = .map (some B) ∨ w.heap.size ≤ B) ∧ Chg (fun k => k = g ∨ Value.map r = .map (some k)) w wx)
  case first =>
    cases r with
    | none =>
      obtain rfl : no = none := by
        rcases h.n with ⟨_, e⟩ | ⟨B, u, e, _⟩
        · exact e
        · cases e
      have hal := (Chg.refl Non w).alloc (.map #[] 0)
      have k1a := hal.cell k1 (fun h => h)
      have f1a := (h.blk.al (.map #[] 0)).frozen 1
      go_wp2_with fail
      go_meet
      case rel =>
        obtain ⟨hD, hc⟩ := h.seen hbw
        exact ⟨rfl, w.heap.size, hD, .inr (Nat.le_refl _), hc.mono fun _ _ e => .inl e⟩
    | some B =>
      go_wp2_with fail
      go_meet
      case rel => exact ⟨rfl, B, h, .inl rfl, Chg.refl _ _⟩
  case rest =>
    obtain ⟨rfl, B, hD, hB, hcw⟩ := hcut
    obtain ⟨w1, rfl⟩ : ∃ w', w' = wc := ⟨_, rfl⟩
    have hd2 : RdB w (fun b => G b ∧ Value.map r ≠ .map (some b)) dv s := by
      cases r with
      | none => exact hd.mono fun b hb => ⟨hb, by simp⟩
      | some B0 =>
        obtain ⟨u, hu⟩ := h.n.map rfl
        exact (hd.noMap hu).mono fun b hb => ⟨hb.1, by simp; exact fun e => hb.2 e.symm⟩
    have hd3 := hd2.chg hcw fun b hb e => by
      rcases e with e | e
      · exact (hG b hb.1).2.2 e
      · exact hb.2 e
    obtain ⟨u, hm, hx⟩ : ∃ u, FMap w1 B u ∧ RdB w1 F (u.getD nilS) (no.getD []) := by
      obtain ⟨x, hx, ⟨e, _⟩ | ⟨B', u, e, hm, hu⟩⟩ := hD.n.read
      · cases e
      · injection e with e; injection e with e
        subst e
        exact ⟨u, hm, by rw [hu]; exact hx⟩
    obtain ⟨old, hold⟩ : ∃ old, old = no.getD [] := ⟨_, rfl⟩
    rw [← hold] at hx hsz ⊢
    have HO := hide hold
    have j1 := hD.blk.cell 1
    simp at j1
    clear h hd hd2 k1 f1 hq1 hmm hold
    have hmu := methUnits
    have hmd := methDo
    have had := aheadDo
    go_upto_region 5 with fail
    go_cut [7] from 29 (fun v7 wx => v7 = .bool true ∧ ∃ u2, FMap wx B (some u2) ∧ RdB wx (fun k => w1.heap.size ≤ k) u2 (old ++ s) ∧ Chg (fun k => k = B) w1 wx)
    case first =>
      go_region_law (first
        | (go_simp; go_at_call 61; refine (wrUnits (a := old.length) (hd3.c0 (by first | exact (Chg.refl Non w1).drew | exact ((Chg.refl Non w1).drew).alloc _)) (by omega)).mono ?_; rintro e wd ⟨rfl, hcu⟩; have j2 := hcu.cell j1 (fun h => h); have hcd := ((Chg.refl Non w1).drew).trans0 hcu)
        | (go_simp; go_at_call 60; refine (wrDo2 (hm.chg hcd (fun h => h)) (hx.c0 hcd) (hd3.c0 hcd) hsz).mono ?_; rintro e we ⟨rfl, u2, hm2, hr2, hc2⟩))
      all_goals
        go_wp2_with fail
        go_meet
        exact ⟨rfl, u2, hm2, hr2.mono fun b hb => Nat.le_trans hcd.size hb, (hcd.mono (fun _ _ h => h.elim)).trans hc2 fun _ _ h => h⟩
    case rest =>
      obtain ⟨rfl, u2, hm2, hr2, hc2⟩ := hcut
      obtain ⟨w2, rfl⟩ : ∃ w', w' = wc := ⟨_, rfl⟩
      obtain ⟨xs, hx1, hx2, hx3⟩ := hD.qu.noMap hm
      obtain ⟨Q, cq, rfl, hcq, hmq⟩ := hx2.shape
      unfold maxLen at hmq
      have hgB : g ≠ B := fun e => by
        have := hD.blk
        rw [e] at this
        exact hm.no_cells this
      have hblk2 := hD.blk.chg hc2 hgB
      have hx22 := hx2.chg hc2 fun b hb => hb.2
      obtain ⟨ao, hao, hcs, hqc⟩ := queue_cut hx22 hcq
      have k2 := hblk2.cell 2
      simp at k2
      have HX3 := hide hx3
      have hx1' : xs.length = q.length * 1 := by omega
      have hone : (wI old.length dv).oneCell' = true := rfl
      have k2a := ((Chg.refl Non w2).alloc (.cells #[.iface 82 (.agg #[.string fN, .int .i64 (old.length : Int), dv])] 61)).cell k2 (fun h => h)
      clear hmu hmd had hx hx2 hx22 hx3 j1
      have hG3 : ∀ b, (G b ∧ Value.map r ≠ Value.map (some b)) → base ≤ b ∧ b ≠ g ∧ b ≠ B := fun b hb => ⟨(hG b hb.1).1, (hG b hb.1).2.2, fun e => by
        subst e
        rcases hB with h | h
        · exact hb.2 h
        · have := (hG b hb.1).2.1
          omega⟩
      have hw1 : w.heap.size ≤ w1.heap.size := hcw.size
      have HO2 := HO
      go_upto_region 6 with fail
      go_cut [7] from 40 (fun v7 wx => v7 = .bool true ∧ ∃ F' v', Drv wx base g F' sv (.map (some B)) v' so (some (old ++ s)) (q ++ [s]) ∧ Chg (fun k => k = g ∨ k = B) w1 wx ∧ ∀ b, F' b → F b ∨ G b ∨ w1.heap.size ≤ b)
      case rest =>
        obtain ⟨rfl, F', v', hDn, hcn, hFn⟩ := hcut
        go_wp2_with fail
        go_ret
        rw [← HO2.out]
        refine ⟨rfl, F', _, v', hDn, (hcw.trans hcn fun b hb e => ?_), fun b hb => ?_, fun B' e => ?_⟩
        · rcases e with e | e
          · exact .inl e
          · subst e
            rcases hB with h | h
            · exact .inr h
            · omega
        · rcases hFn b hb with h | h | h
          · exact .inl h
          · exact .inr (.inl h)
          · exact .inr (.inr (by omega))
        · injection e with e; injection e with e
          subst e
          exact hB
      case first =>
      go_region_law (refine step_Q rfl _ _ rfl rfl hao hcs ((Chg.refl Non w2).alloc _).drew hx1' rfl (Blk.new w2 _ _) hone hq ?_; intro v' w3 hown hgr; obtain ⟨A3, c3, rfl, hc3, hm3⟩ := (RdV.of_own hown).shape; have h23 := chg_grown0 ((Chg.refl Non w2).alloc _).drew hgr; have hb3 := hblk2.chg h23 (fun h => h); have k3 := hb3.cell 2; have f3 := hb3.frozen 2; simp at k3)
      all_goals
        go_wp2_with fail
        go_meet
        obtain ⟨F', hDn, hcn, hFn⟩ := hD.enq hm hd3 hG3 (by omega) hm2 hr2 hc2 hx1 HX3.out h23 hown (by simp) HO.out
        exact ⟨rfl, F', _, hDn, hcn, fun b hb => by
          rcases hFn b hb with h | h | h
          · exact .inl h
          · exact .inr (.inl h.1)
          · exact .inr (.inr h)⟩
end Go.Proofs.Ytjagiahfndcbhaa
