/- The walks of gate's end, Fail, Results and Tick. -/
import Derived.Test.YtlcnlcjfnpicgaaGate
import Derived.Deep.RegionHeld3
namespace Go.Proofs.Ytlcnlcjfnpicgaa
open Go.RowKit Go.Maps

theorem info_res : (Try.prog.info? 87).map (fun i => (i.zero, i.size, i.bytes)) = some (some (.agg #[.int .u64 0, .string ⟨#[]⟩, .int .i64 0]), 3, 32) := by kernel_rfl
def resC (x : Nat × ByteArray × Int) : List Value := [.int .u64 (x.1 : Int), .string x.2.1, .int .i64 x.2.2]
theorem rcs_snoc (r : List (Nat × ByteArray × Int)) (x : Nat × ByteArray × Int) : rcs (r ++ [x]) = rcs r ++ resC x := by simp [rcs, resC]
/-- append of one result, in a region that draws its order -/
theorem step_res {w : World} {ops : Array Oper} {o : Oper} {a : Act} {K : Act → World → Prop} {Q : Exit → Act → World → Prop} {E : Prop} (hgd : o.guard = none) (s x : Operand)
    (ho : o.op = .call { callee := .builtin .append, args := #[s, x], argTypes := #[43, 43] })
    {base : Nat} {v : Value} {r : List (Nat × ByteArray × Int)} (hown : w.ownsRow base 87 3 v r.length (rcs r)) (hv : a.eval s = v)
    {gl : Nat} {t : TypeId} {y : Nat × ByteArray × Int} (hl : Blk w gl t #[.int .u64 (y.1 : Int), .string y.2.1, .int .i64 y.2.2]) (hy : a.eval x = .slice (some ⟨gl, 0, none⟩) 1 1)
    (hb : r.length ≤ 1000000) (hbase : base ≤ w.heap.size)
    (h : ∀ v' w', w'.ownsRow base 87 3 v' (r ++ [y]).length (rcs (r ++ [y])) → w.grownBy w' v.ownBlock → (v'.ownBlock = v.ownBlock ∨ v'.ownBlock = some w.heap.size) → K (a.put o.dst v') w') :
    if Region.wanted o (yielded ops a.tmps) = true then Oper.wp Try.prog o a w K Q else E := by
  have hw : Region.wanted o (yielded ops a.tmps) = true := by simp [Region.wanted, hgd]
  rw [if_pos hw]
  subst hv
  obtain ⟨i, hi, hz, h1, h2⟩ := info_parts info_res
  have hr : RdV w (fun _ => True) 3 (.slice (some ⟨gl, 0, none⟩) 1 1) 1 (resC y) := ⟨rfl, _, 1, rfl, Nat.le_refl _, by simp [maxLen], fun _ => ⟨_, rfl, trivial, fun j u hu => by
    rw [add_none, hl.cell, Nat.zero_add]
    match j, hu with
    | 0, hu => simpa [resC] using hu
    | 1, hu => simpa [resC] using hu
    | 2, hu => simpa [resC] using hu
    | j + 3, hu => simp [resC] at hu⟩⟩
  refine wp_append_rd w s x _ ho base 87 i _ 3 32 Try.underlying43 hi hz h1 h2 rfl (by omega) r.length (rcs r) hown _ 1 (resC y) (hy ▸ hr) (fun u hu => by
    simp only [resC, List.mem_cons, List.not_mem_nil, or_false] at hu
    rcases hu with rfl | rfl | rfl <;> rfl) (by simp only [maxLen]; omega) (by omega) hbase ?_
  intro v' w' hown' hg _ hat
  refine h v' w' ?_ hg hat
  rw [List.length_append, rcs_snoc]
  exact hown'

theorem row_slc {w : World} {base sz n : Nat} {e : TypeId} {v : Value} {xs : List Value} (h : w.ownsRow base e sz v n xs) : ∃ A m c, v = .slice A m c := by
  rcases h.2 with ⟨rfl, _⟩ | ⟨g, cap, cur, rfl, _⟩
  · exact ⟨_, _, _, rfl⟩
  · exact ⟨_, _, _, rfl⟩
/-- the gate's cells behind an append onto its results -/
theorem gate_grown {w w1 w2 : World} {base g : Nat} {mp rv : Value} {s : GSt} (h : GateAt w base g mp rv s) (hc : Chg Non w w1) (hg : w1.grownBy w2 rv.ownBlock) : Blk w2 g 63 (gcells s mp rv) :=
  (h.blk.c0 hc).chg (Chg.of_grown hg) fun e => h.ne e.symm
theorem gate_cells {w2 : World} {g : Nat} {mp rv : Value} {s : GSt} (h : Blk w2 g 63 (gcells s mp rv)) :
    w2.cell? ⟨g, 18, none⟩ = some rv ∧ w2.frozen? ⟨g, 18, none⟩ = false ∧ w2.cell? ⟨g, 2, none⟩ = some (.bool s.shut) ∧ w2.frozen? ⟨g, 2, none⟩ = false :=
  ⟨by rw [h.cell]; rfl, h.frozen _, by rw [h.cell]; rfl, h.frozen _⟩
theorem gset_end (s : GSt) (mp rv v2 : Value) (r : List (Nat × ByteArray × Int)) : ((gcells s mp rv).setIfInBounds 18 v2).setIfInBounds 2 (.bool false) = gcells { s with shut := false, res := r } mp v2 := by
  simp only [gcells, List.setIfInBounds_toArray, List.set_cons_succ, List.set_cons_zero]
/-- the gate behind its end -/
theorem gate_ended {w w1 w2 : World} {base g : Nat} {mp rv v2 : Value} {s : GSt} {r : List (Nat × ByteArray × Int)} (h : GateAt w base g mp rv s) (hc : Chg Non w w1) (hg : w1.grownBy w2 rv.ownBlock) (hown : w2.ownsRow base 87 3 v2 r.length (rcs r))
    (hat : v2.ownBlock = rv.ownBlock ∨ v2.ownBlock = some w1.heap.size) :
    GateAt ((w2.setCell ⟨g, 18, none⟩ v2).setCell ⟨g, 2, none⟩ (.bool false)) base g mp v2 { s with shut := false, res := r } ∧ Stp w ((w2.setCell ⟨g, 18, none⟩ v2).setCell ⟨g, 2, none⟩ (.bool false)) g mp rv mp v2 := by
  have hb := gate_grown h hc hg
  have hb2 := (hb.set_ 18 v2).set_ 2 (.bool false)
  rw [gset_end s mp rv v2 r] at hb2
  have hlt := World.ownsRow.lt h.own
  have z1 := hc.size
  have z2 := hg.size
  have hgl := h.blk.lt
  have hne2 : v2.ownBlock ≠ some g := fun e => by
    rcases hat with e' | e'
    · exact h.ne (e' ▸ e)
    · rw [e'] at e; injection e with e; omega
  have k3 : Chg (fun k => k = g) w2 ((w2.setCell ⟨g, 18, none⟩ v2).setCell ⟨g, 2, none⟩ (.bool false)) :=
    ((Chg.refl (fun k => k = g) w2).setCell (p := ⟨g, 18, none⟩) (fun _ => rfl) _).setCell (p := ⟨g, 2, none⟩) (fun _ => rfl) _
  refine ⟨⟨h.le, hb2, ?_, hne2, ?_, h.len, h.n20⟩, ?_⟩
  · refine ⟨hown.1, ?_⟩
    rcases hown.2 with hn | ⟨b, cap, cur, rfl, hbb, hgg, rest⟩
    · exact .inl hn
    · exact .inr ⟨b, cap, cur, rfl, hbb, k3.heap hgg (fun e => hne2 (by rw [← e]; rfl)), rest⟩
  · rcases h.map with hm | ⟨B, e, hB, hBg, hr, hm⟩
    · exact .inl ⟨hm.1, rfl⟩
    · have hBl := hm.lt
      refine .inr ⟨B, e, hB, hBg, fun e' => ?_, ((hm.chg hc fun h => h).chg (Chg.of_grown hg) fun e' => hr e'.symm).chg k3 hBg⟩
      rcases hat with e2 | e2
      · exact hr (e2 ▸ e')
      · rw [e2] at e'; injection e' with e'; omega
  · refine ⟨((hc.mono (S' := GW g mp rv) fun _ _ h => h.elim).grown hg fun k hk _ => .inr (.inr hk)).trans k3 fun k _ e => .inl e, ?_⟩
    rintro k (h1 | h1 | h1)
    · exact .inl (.inl h1)
    · exact .inl (.inr (.inl h1))
    · rcases hat with e2 | e2
      · exact .inl (.inr (.inr (e2 ▸ h1)))
      · rw [e2] at h1; injection h1 with h1; exact .inr (by omega)

set_option maxHeartbeats 2000000 in
set_option maxRecDepth 100000 in
theorem gateEnd {w : World} {base g : Nat} {mp rv : Value} {s : GSt} {e0 : Int} (h : GateAt w base g mp rv s) (hl : s.res.length ≤ 1000000) :
    Calls Try.prog 27 #[.pointer (some ⟨g, 0, none⟩), .int .i64 e0] w fun e w' => e = .returned (.tuple #[]) ∧
      ∃ rv', GateAt w' base g mp rv' { s with shut := false, res := s.res ++ [(s.id, s.name, e0)] } ∧ Stp w w' g mp rv mp rv' := by
  have HH := hide h
  have c12 : w.drew.cell? ⟨g, 12, none⟩ = some (.int .u64 (s.id : Int)) := by
    have := h.blk.cell 12
    exact this
  have c13 : w.drew.cell? ⟨g, 13, none⟩ = some (.string s.name) := h.blk.cell 13
  have c18 : w.drew.cell? ⟨g, 18, none⟩ = some rv := h.blk.cell 18
  have hg0 : GateAt w.drew base g mp rv s := h.c0 ((Chg.refl Non w).drew)
  have ka := (Chg.refl Non w.drew).alloc (.cells #[.int .u64 (s.id : Int), .string s.name, .int .i64 e0] 87)
  have hown := (hg0.c0 ka).own
  have hlit := Blk.new w.drew 87 #[.int .u64 (s.id : Int), .string s.name, .int .i64 e0]
  have hbase : base ≤ (w.drew.alloc (.cells #[.int .u64 (s.id : Int), .string s.name, .int .i64 e0] 87)).heap.size := by
    have h1 := h.blk.lt
    have h2 := h.le
    have h3 := ka.size
    have h4 : w.drew.heap.size = w.heap.size := rfl
    omega
  have hc0 : Chg Non w (w.drew.alloc (.cells #[.int .u64 (s.id : Int), .string s.name, .int .i64 e0] 87)) := ((Chg.refl Non w).drew).alloc _
  have c18a : (w.alloc (.cells #[.int .u64 (s.id : Int), .string s.name, .int .i64 e0] 87)).cell? ⟨g, 18, none⟩ = some rv := by
    have := (h.blk.al (.cells #[.int .u64 (s.id : Int), .string s.name, .int .i64 e0] 87)).cell 18
    exact this
  clear h hg0 ka
  go_enter Try.func27, Try.ntmps27
  go_upto_region 0 with fail
  go_region_law (first
    | (refine step_res (y := (s.id, s.name, e0)) rfl _ _ rfl hown rfl hlit rfl hl hbase ?_; intro v2 w2 hown2 hg2 hat2; obtain ⟨A2, n2, c2, hv2⟩ := row_slc hown2; subst hv2; obtain ⟨x1, x2, x3, x4⟩ := gate_cells (gate_grown HH.out hc0 hg2)))
  all_goals
    obtain ⟨r1, r2⟩ := gate_ended HH.out hc0 hg2 hown2 hat2
    go_wp2_with fail
    exact bodyPost_end (results_none rfl _ _ _) rfl ⟨rfl, _, r1, r2⟩

set_option maxHeartbeats 1000000 in
set_option maxRecDepth 100000 in
theorem gateFailOpen {w : World} {base g : Nat} {mp rv : Value} {s : GSt} (h : GateAt w base g mp rv s) (hs : s.shut = false) :
    Calls Try.prog 25 #[.pointer (some ⟨g, 0, none⟩)] w fun e w' => e = .returned (.tuple #[]) ∧ w' = w := by
  have c2 : w.cell? ⟨g, 2, none⟩ = some (.bool s.shut) := by rw [h.blk.cell]; rfl
  rw [hs] at c2
  clear h hs
  go_enter Try.func25, Try.ntmps25
  go_wp2_with fail
  exact bodyPost_end (results_none rfl _ _ _) rfl ⟨rfl, rfl⟩
set_option maxHeartbeats 1000000 in
set_option maxRecDepth 100000 in
theorem gateFail {w : World} {base g : Nat} {mp rv : Value} {s : GSt} (h : GateAt w base g mp rv s) (hl : s.res.length ≤ 1000000) (hs : s.shut = true) :
    Calls Try.prog 25 #[.pointer (some ⟨g, 0, none⟩)] w fun e w' => e = .returned (.tuple #[]) ∧
      ∃ rv', GateAt w' base g mp rv' { s with shut := false, res := s.res ++ [(s.id, s.name, 17)] } ∧ Stp w w' g mp rv mp rv' := by
  have c2 : w.cell? ⟨g, 2, none⟩ = some (.bool s.shut) := by rw [h.blk.cell]; rfl
  have hend := gateEnd (e0 := 17) h hl
  rw [hs] at c2
  clear h hs
  go_enter Try.func25, Try.ntmps25
  go_wp2_with fail
  refine hend.mono ?_
  rintro e w' ⟨rfl, rv', h', k⟩
  go_wp2_with fail
  exact bodyPost_end (results_none rfl _ _ _) rfl ⟨rfl, rv', h', k⟩

set_option maxHeartbeats 1000000 in
set_option maxRecDepth 100000 in
theorem gateResults {w : World} {base g : Nat} {mp rv : Value} {s : GSt} (h : GateAt w base g mp rv s) :
    Calls Try.prog 16 #[.pointer (some ⟨g, 0, none⟩)] w fun e w' => e = .returned rv ∧
      RdV w' (fun k => rv.ownBlock = some k) 3 rv s.res.length (rcs s.res) ∧ GateAt w' base g mp (.slice none 0 0) { s with res := [] } ∧ Stp w w' g mp rv mp (.slice none 0 0) := by
  have c18 : w.cell? ⟨g, 18, none⟩ = some rv := by rw [h.blk.cell]; rfl
  have f18 := h.blk.frozen 18
  obtain ⟨A, m, c, rfl⟩ := row_slc h.own
  have HH := hide h
  clear h
  go_enter Try.func16, Try.ntmps16
  go_wp2_with fail
  go_ret
  have h := HH.out
  have k : Chg (fun k => k = g) w (w.setCell ⟨g, 18, none⟩ (.slice none 0 0)) := (Chg.refl (fun k => k = g) w).setCell (p := ⟨g, 18, none⟩) (fun _ => rfl) _
  refine ⟨rfl, (RdV.of_own h.own).chg k (fun j hj e => h.ne (e ▸ hj)), ⟨h.le, h.blk.set_ 18 _, World.ownsRow_nil _ _ _ _, by simp [Value.ownBlock], ?_, h.len, h.n20⟩, k.mono fun _ _ h => .inl h, ?_⟩
  · rcases h.map with hm | ⟨B, e, hB, hBg, hr, hm⟩
    · exact .inl hm
    · exact .inr ⟨B, e, hB, hBg, by simp [Value.ownBlock], hm.chg k hBg⟩
  · rintro k (h1 | h1 | h1)
    · exact .inl (.inl h1)
    · exact .inl (.inr (.inl h1))
    · simp [Value.ownBlock] at h1
end Go.Proofs.Ytlcnlcjfnpicgaa
