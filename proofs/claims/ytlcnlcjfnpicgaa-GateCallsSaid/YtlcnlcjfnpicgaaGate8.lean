/- The walk of gate's Barrier. -/
import Derived.Test.YtlcnlcjfnpicgaaGate7
import Derived.Test.YtlcnlcjfnpicgaaGateR
namespace Go.Proofs.Ytlcnlcjfnpicgaa
open Go.RowKit Go.Maps

theorem blk3 {w : World} {g : Nat} {t : TypeId} {a0 a1 a2 : Value} (h : Blk w g t #[a0, a1, a2]) :
    w.cell? ⟨g, 0, none⟩ = some a0 ∧ w.cell? ⟨g, 1, none⟩ = some a1 ∧ w.cell? ⟨g, 2, none⟩ = some a2 := ⟨h.cell 0, h.cell 1, h.cell 2⟩
theorem frz3 {w : World} {g : Nat} {t : TypeId} {cs : Array Value} (h : Blk w g t cs) :
    w.frozen? ⟨g, 0, none⟩ = false ∧ w.frozen? ⟨g, 1, none⟩ = false ∧ w.frozen? ⟨g, 2, none⟩ = false := ⟨h.frozen 0, h.frozen 1, h.frozen 2⟩
theorem put3 {w : World} {g : Nat} {t : TypeId} {b0 b1 b2 : Value} (h : Blk w g t #[b0, b1, b2]) (a0 a1 a2 : Value) :
    Blk (((w.setCell ⟨g, 0, none⟩ a0).setCell ⟨g, 1, none⟩ a1).setCell ⟨g, 2, none⟩ a2) g t #[a0, a1, a2] ∧
    Chg (fun k => k = g) w (((w.setCell ⟨g, 0, none⟩ a0).setCell ⟨g, 1, none⟩ a1).setCell ⟨g, 2, none⟩ a2) := by
  refine ⟨?_, ?_⟩
  · have hx := ((h.set_ 0 a0).set_ 1 a1).set_ 2 a2
    simp only [List.setIfInBounds_toArray, List.set_cons_succ, List.set_cons_zero] at hx
    exact hx
  · exact ((((Chg.refl (fun k => k = g) w).setCell (p := ⟨g, 0, none⟩) (fun _ => rfl) a0).setCell (p := ⟨g, 1, none⟩) (fun _ => rfl) a1).setCell (p := ⟨g, 2, none⟩) (fun _ => rfl) a2)
theorem set3_2 {w : World} {g : Nat} {t : TypeId} {a0 a1 a2 : Value} (h : Blk w g t #[a0, a1, a2]) (v : Value) :
    Blk (w.setCell ⟨g, 2, none⟩ v) g t #[a0, a1, v] := by
  have hx := h.set_ 2 v
  simp only [List.setIfInBounds_toArray, List.set_cons_succ, List.set_cons_zero] at hx
  exact hx
theorem info_u64 : (Try.prog.info? 26).map (fun i => (i.zero, i.size, i.bytes)) = some (some (.int .u64 0), 1, 8) := by kernel_rfl
theorem step_u64 {w : World} {ops : Array Oper} {o : Oper} {a : Act} {K : Act → World → Prop} {Q : Exit → Act → World → Prop} {E : Prop} (hgd : o.guard = none) (s x : Operand)
    (ho : o.op = .call { callee := .builtin .append, args := #[s, x], argTypes := #[81, 81] })
    {base : Nat} {v : Value} {r : List Nat} (hown : w.ownsRow base 26 1 v r.length (r.map uv)) (hv : a.eval s = v)
    {gl : Nat} {t : TypeId} {y : Nat} (hl : Blk w gl t #[.int .u64 (y : Int)]) (hy : a.eval x = .slice (some ⟨gl, 0, none⟩) 1 1)
    (hb : r.length ≤ 1000000) (hbase : base ≤ w.heap.size)
    (h : ∀ v' w', w'.ownsRow base 26 1 v' (r ++ [y]).length ((r ++ [y]).map uv) → w.grownBy w' v.ownBlock → (v'.ownBlock = v.ownBlock ∨ v'.ownBlock = some w.heap.size) → K (a.put o.dst v') w') :
    if Region.wanted o (yielded ops a.tmps) = true then Oper.wp Try.prog o a w K Q else E := by
  have hw : Region.wanted o (yielded ops a.tmps) = true := by simp [Region.wanted, hgd]
  rw [if_pos hw]
  subst hv
  obtain ⟨i, hi, hz, h1, h2⟩ := info_parts info_u64
  have hr : RdV w (fun _ => True) 1 (.slice (some ⟨gl, 0, none⟩) 1 1) 1 [uv y] := ⟨rfl, _, 1, rfl, Nat.le_refl _, by simp [maxLen], fun _ => ⟨_, rfl, trivial, fun j u hu => by
    rw [add_none, hl.cell, Nat.zero_add]
    match j, hu with
    | 0, hu => simpa [uv] using hu
    | j + 1, hu => simp at hu⟩⟩
  refine wp_append_rd w s x _ ho base 26 i _ 1 8 Try.underlying81 hi hz h1 h2 rfl (by omega) r.length (r.map uv) hown _ 1 [uv y] (hy ▸ hr) (fun u hu => by
    simp only [List.mem_cons, List.not_mem_nil, or_false] at hu
    subst hu; rfl) (by simp only [maxLen]; omega) (by omega) hbase ?_
  intro v' w' hown' hg _ hat
  refine h v' w' ?_ hg hat
  rw [List.length_append, List.map_append]
  exact hown'

theorem ownsRow_low8 {w : World} {base b' sz n : Nat} {e : TypeId} {v : Value} {xs : List Value} (h : w.ownsRow base e sz v n xs) (hb : b' ≤ base) : w.ownsRow b' e sz v n xs := by
  refine ⟨h.1, ?_⟩
  rcases h.2 with hn' | ⟨b, cap, cur, rfl, hbb, rest⟩
  · exact .inl hn'
  · exact .inr ⟨b, cap, cur, rfl, by omega, rest⟩
/-- the marks' places, of the first k -/
def atsS (s : GSt) (k : Nat) : List Nat := (List.range k).map (mv s.ms)
theorem atsS_succ (s : GSt) (k : Nat) : atsS s (k + 1) = atsS s k ++ [mv s.ms k] := by simp [atsS, List.range_succ]
theorem atsS_len (s : GSt) (k : Nat) : (atsS s k).length = k := by simp [atsS]

set_option maxHeartbeats 4000000 in
set_option maxRecDepth 100000 in
theorem gateBarrierNo {w : World} {base g : Nat} {mp rv : Value} {s : GSt} (h : GateAt w base g mp rv s) (hw : wantsS s ≠ 2) :
    Calls Try.prog 28 #[.pointer (some ⟨g, 0, none⟩)] w fun e w' => e = .returned (.tuple #[.agg #[.int .u64 0, .string ⟨#[]⟩, .slice none 0 0], .bool false]) ∧ Chg Non w w' := by
  have k3 := (Chg.refl Non w).alloc (.cells #[.int .u64 0, .string ⟨#[]⟩, .slice none 0 0] 83)
  have y2 := Blk.new w 83 #[.int .u64 0, .string ⟨#[]⟩, .slice none 0 0]
  have hwants := gateWants (h.c0 k3)
  have K3 := hide k3
  have Y2 := hide y2
  have hbn : (wantsS s != 2) = true := by simpa using hw
  clear h k3 y2
  go_enter Try.func28, Try.ntmps28
  go_wp2_with fail
  refine hwants.mono ?_
  rintro e w1 ⟨rfl, hq⟩
  have k1 := K3.out.quiet hq
  have y2 := Y2.out.c0 ((Chg.refl Non _).quiet hq)
  generalize wantsS s = ws at hw hbn
  clear hwants hq K3 Y2 hw
  obtain ⟨hB9, hC9⟩ := put3 y2 (.int .u64 0) (.string ⟨#[]⟩) (.slice none 0 0)
  obtain ⟨c0, c1, c2⟩ := blk3 y2
  obtain ⟨f0, f1, f2⟩ := frz3 y2
  have K1 := hide k1
  clear k1 y2
  go_wp2_with fail
  generalize World.setCell _ _ _ = w9 at hB9 hC9 ⊢
  clear c0 c1 c2 f0 f1 f2
  obtain ⟨a0, a1, a2⟩ := blk3 hB9
  refine bodyPost_ret (v := .tuple #[.agg #[.int .u64 0, .string ⟨#[]⟩, .slice none 0 0], .bool false]) (by simp [results, Try.results28, go_sem, a0, a1, a2]) rfl ⟨rfl, ?_⟩
  exact K1.out.trans hC9 fun k hk e => by omega

set_option maxHeartbeats 4000000 in
set_option maxRecDepth 100000 in
theorem gateBarrierYes {w : World} {base g : Nat} {mp rv : Value} {s : GSt} (h : GateAt w base g mp rv s) (hw : wantsS s = 2) :
    Calls Try.prog 28 #[.pointer (some ⟨g, 0, none⟩)] w fun e w' => ∃ v, e = .returned (.tuple #[.agg #[.int .u64 (s.id : Int), .string s.name, v], .bool true]) ∧
      w'.ownsRow w.heap.size 26 1 v (s.n + 1) ((atsS s s.n ++ [s.at_]).map uv) ∧ Chg Non w w' := by
  have k3 := (Chg.refl Non w).alloc (.cells #[.int .u64 0, .string ⟨#[]⟩, .slice none 0 0] 83)
  have y2 := Blk.new w 83 #[.int .u64 0, .string ⟨#[]⟩, .slice none 0 0]
  have hwants := gateWants (h.c0 k3)
  rw [hw] at hwants
  have hmp : ∃ B, mp = .map (some B) := by
    rcases h.map with ⟨_, hn⟩ | ⟨B, e, _⟩
    · rw [wantsS, if_pos hn] at hw; cases hw
    · exact ⟨B, e⟩
  obtain ⟨B, rfl⟩ := hmp
  have hn20 := h.n20
  have K3 := hide k3
  have Y2 := hide y2
  have HG0 := hide (h.c0 k3)
  have Z0 := hide (show w.heap.size < _ from y2.lt)
  clear h k3 y2 hw
  go_enter Try.func28, Try.ntmps28
  go_wp2_with fail
  refine hwants.mono ?_
  rintro e w1 ⟨rfl, hq⟩
  have hq0 := (Chg.refl Non _).quiet hq
  have K1 := hide (K3.out.quiet hq)
  have y2 := Y2.out.c0 hq0
  have hg1 := HG0.out.c0 hq0
  clear hwants hq hq0 K3 Y2 HG0
  have c12 : w1.drew.cell? ⟨g, 12, none⟩ = some (.int .u64 (s.id : Int)) := hg1.blk.cell 12
  have c13 : w1.drew.cell? ⟨g, 13, none⟩ = some (.string s.name) := hg1.blk.cell 13
  have hb := hg1.blk.al (.cells #[.int .u64 (s.id : Int), .string s.name, .slice none 0 0] 83)
  have c0 : (w1.alloc (.cells #[.int .u64 (s.id : Int), .string s.name, .slice none 0 0] 83)).cell? ⟨g, 0, none⟩ = some (.int .i64 (s.n : Int)) := hb.cell 0
  have hbz := hg1.blk.al (.cells #[.int .u64 0, .string ⟨#[]⟩, .slice none 0 0] 83)
  have c12z : (w1.alloc (.cells #[.int .u64 0, .string ⟨#[]⟩, .slice none 0 0] 83)).cell? ⟨g, 12, none⟩ = some (.int .u64 (s.id : Int)) := hbz.cell 12
  have c13z : (w1.alloc (.cells #[.int .u64 0, .string ⟨#[]⟩, .slice none 0 0] 83)).cell? ⟨g, 13, none⟩ = some (.string s.name) := hbz.cell 13
  clear hb hbz
  have KB := hide (((Chg.refl Non w1).alloc (.cells #[.int .u64 (s.id : Int), .string s.name, .slice none 0 0] 83)).drew)
  have HG := hide hg1
  have Y2 := hide y2
  have Y4 := hide ((Blk.new w1 83 #[.int .u64 (s.id : Int), .string s.name, .slice none 0 0]).c0 ((Chg.refl Non _).drew))
  have Z1 := hide y2.lt
  clear hg1 y2
  go_wp2_with fail
  go_region
  go_wp2_with fail
  generalize (World.alloc _ _).drew = W0 at KB Y4 ⊢
  clear c12 c13 c0 c12z c13z
  go_loopw [25] (fun iv wr => ∃ (k : Nat) (v : Value), iv = .int .i64 (k : Int) ∧ k ≤ s.n ∧ Blk wr w1.heap.size 83 #[.int .u64 (s.id : Int), .string s.name, v] ∧ wr.ownsRow (w1.heap.size + 1) 26 1 v (atsS s k).length ((atsS s k).map uv) ∧ Chg Non w1 wr) (fun iv _ => s.n - (intOf iv).toNat)
  case atStart => exact ⟨0, _, rfl, Nat.zero_le _, Y4.out, World.ownsRow_nil _ _ _ _, KB.out⟩
  case round =>
    obtain ⟨k, v, rfl, hk, hB, hO, hc1⟩ := hrel
    obtain ⟨A, m, c, rfl⟩ := row_slc hO
    have h := HG.out.c0 hc1
    by_cases h1 : k < s.n
    · have hd1 : decide ((k : Int) < (s.n : Int)) = true := decide_eq_true (by omega)
      have c16 : wr.cell? ⟨g, 16, none⟩ = some (.map (some B)) := by rw [h.blk.cell]; rfl
      have c16d : wr.drew.cell? ⟨g, 16, none⟩ = some (.map (some B)) := c16
      have hlk := (h.c0 ((Chg.refl Non wr).drew)).gm.look0 (i := k) (by rw [h.len]; exact h1) (by omega)
      have x2 : wr.cell? ⟨w1.heap.size, 2, none⟩ = some (.slice A m c) := hB.cell 2
      have x2d : wr.drew.cell? ⟨w1.heap.size, 2, none⟩ = some (.slice A m c) := hB.cell 2
      have hz := atsS_len s k
      have hz2 : (atsS s k).length ≤ 1000000 := by omega
      obtain ⟨y, hy⟩ : ∃ y, y = mv s.ms k := ⟨_, rfl⟩
      rw [← hy] at hlk
      have ka := ((Chg.refl Non wr).drew).alloc (.cells #[.int .u64 (y : Int)] 26)
      have hblk := Blk.new wr.drew 26 #[.int .u64 (y : Int)]
      have hOA := ownsRow_chg hO ka fun _ _ h => h
      have x2a : (wr.alloc (.cells #[.int .u64 (y : Int)] 26)).cell? ⟨w1.heap.size, 2, none⟩ = some (.slice A m c) := (hB.al _).cell 2
      have c1a := hc1.trans0 ka
      have hrl := World.ownsRow.lt hOA
      have hBA := hide (hB.c0 ka)
      have hsz : w1.heap.size + 1 ≤ (wr.drew.alloc (.cells #[.int .u64 (y : Int)] 26)).heap.size := by have := hB.lt; simp; omega
      have HY := hide hy
      have HK := hide h1
      clear hO h hB hc1 ka hz hy
      go_wp2_with fail
      go_region_law (first
        | (refine step_u64 rfl _ _ rfl hOA rfl hblk rfl hz2 hsz ?_; intro v5 w5 hO5 hg5 hat5; obtain ⟨A5, m5, c5', hv5⟩ := row_slc hO5; subst hv5; have hB5 := hBA.out.chg (Chg.of_grown hg5) (fun e => absurd (hrl _ e.symm).1 (Nat.not_succ_le_self _)); have x5 := hB5.cell 2; have f5 := hB5.frozen 2; simp at x5))
      all_goals
        have e5 : atsS s k ++ [y] = atsS s (k + 1) := by rw [atsS_succ, HY.out]
        rw [e5] at hO5
        have c5 := (c1a.grown hg5 fun j hj hlt => by have := (hrl j hj).1; omega)
        have kS := c5.trans ((Chg.refl (fun j => j = w1.heap.size) w5).setCell (p := ⟨w1.heap.size, 2, none⟩) (fun _ => rfl) (.slice A5 m5 c5')) fun j hj e => by omega
        have oS := ownsRow_chg hO5 ((Chg.refl (fun j => j = w1.heap.size) w5).setCell (p := ⟨w1.heap.size, 2, none⟩) (fun _ => rfl) (.slice A5 m5 c5')) fun j hj e => by have := (World.ownsRow.lt hO5 j hj).1; omega
        have bS := set3_2 hB5 (.slice A5 m5 c5')
        clear hOA hblk c1a hrl x2 x2d x2a c16 c16d hlk hg5 hat5 e5 hBA hsz hz2 hO5 c5 hB5 x5 f5
        go_wp2_with fail
        go_wp2_with fail
        go_round
        case rel => first | exact ⟨k + 1, _, by go_num, by have := HK.out; omega, bS, oS, kS⟩ | ((repeat apply Exists.intro); exact ⟨⟨k + 1, _, by go_num, by have := HK.out; omega, bS, oS, kS⟩, rfl⟩)
        case measure => have := HK.out; simp [intOf]; omega
    · obtain rfl : k = s.n := by omega
      have hd1 : decide ((s.n : Int) < (s.n : Int)) = false := decide_eq_false (by omega)
      have c15 : wr.cell? ⟨g, 15, none⟩ = some (.int .u64 (s.at_ : Int)) := by rw [h.blk.cell]; rfl
      have c15d : wr.drew.cell? ⟨g, 15, none⟩ = some (.int .u64 (s.at_ : Int)) := c15
      have x2 : wr.cell? ⟨w1.heap.size, 2, none⟩ = some (.slice A m c) := hB.cell 2
      have x2d : wr.drew.cell? ⟨w1.heap.size, 2, none⟩ = some (.slice A m c) := hB.cell 2
      have hz := atsS_len s s.n
      have hz2 : (atsS s s.n).length ≤ 1000000 := by omega
      have ka := ((Chg.refl Non wr).drew).alloc (.cells #[.int .u64 (s.at_ : Int)] 26)
      have hblk := Blk.new wr.drew 26 #[.int .u64 (s.at_ : Int)]
      have hOA := ownsRow_chg hO ka fun _ _ h => h
      have x2a : (wr.alloc (.cells #[.int .u64 (s.at_ : Int)] 26)).cell? ⟨w1.heap.size, 2, none⟩ = some (.slice A m c) := (hB.al _).cell 2
      have c1a := hc1.trans0 ka
      have hrl := World.ownsRow.lt hOA
      have hBA := hide (hB.c0 ka)
      have hsz : w1.heap.size + 1 ≤ (wr.drew.alloc (.cells #[.int .u64 (s.at_ : Int)] 26)).heap.size := by have := hB.lt; simp; omega
      clear hO h hB hc1 ka hz
      go_upto_region 9 with fail
      go_region_law (first
        | (refine step_u64 rfl _ _ rfl hOA rfl hblk rfl hz2 hsz ?_; intro v5 w5 hO5 hg5 hat5; obtain ⟨A5, m5, c5', hv5⟩ := row_slc hO5; subst hv5; have hB5 := hBA.out.chg (Chg.of_grown hg5) (fun e => absurd (hrl _ e.symm).1 (Nat.not_succ_le_self _)); have x5 := hB5.cell 2; have f5 := hB5.frozen 2; simp at x5))
      all_goals
        have e5 : (atsS s s.n ++ [s.at_]).length = s.n + 1 := by rw [List.length_append, atsS_len]; rfl
        rw [e5] at hO5
        have c5 := (c1a.grown hg5 fun j hj hlt => by have := (hrl j hj).1; omega)
        have kS := c5.trans ((Chg.refl (fun j => j = w1.heap.size) w5).setCell (p := ⟨w1.heap.size, 2, none⟩) (fun _ => rfl) (.slice A5 m5 c5')) fun j hj e => by omega
        have oS := ownsRow_chg hO5 ((Chg.refl (fun j => j = w1.heap.size) w5).setCell (p := ⟨w1.heap.size, 2, none⟩) (fun _ => rfl) (.slice A5 m5 c5')) fun j hj e => by have := (World.ownsRow.lt hO5 j hj).1; omega
        have bS := set3_2 hB5 (.slice A5 m5 c5')
        have yS := Y2.out.c0 kS
        have KS := hide (K1.out.trans0 kS)
        have OS := hide oS
        have BS := hide bS
        have YS := hide yS
        clear hOA hblk c1a hrl x2 x2d x2a c15 c15d hg5 hat5 e5 hBA hsz hz2 hO5 c5 hB5 x5 f5 kS oS bS yS
        go_upto_region 10 with fail
        generalize World.setCell _ _ _ = w6 at KS OS BS YS ⊢
        obtain ⟨a0, a1, a2⟩ := blk3 BS.out
        obtain ⟨c0, c1, c2⟩ := blk3 YS.out
        obtain ⟨f0, f1, f2⟩ := frz3 YS.out
        obtain ⟨hB9, hC9⟩ := put3 YS.out (.int .u64 (s.id : Int)) (.string s.name) (.slice A5 m5 c5')
        go_wp2_with fail
        generalize World.setCell _ _ _ = w9 at hB9 hC9 ⊢
        clear a0 a1 a2 c0 c1 c2 f0 f1 f2
        obtain ⟨a0, a1, a2⟩ := blk3 hB9
        refine bodyPost_ret (v := .tuple #[.agg #[.int .u64 (s.id : Int), .string s.name, .slice A5 m5 c5'], .bool true]) (by simp [results, Try.results28, go_sem, a0, a1, a2]) rfl ⟨_, rfl, ?_, ?_⟩
        · exact ownsRow_low8 (ownsRow_chg OS.out hC9 fun j hj e => by have := (World.ownsRow.lt OS.out j hj).1; have := Z1.out; omega) (by have := Z1.out; omega)
        · exact KS.out.trans hC9 fun k hk e => by omega
end Go.Proofs.Ytlcnlcjfnpicgaa
