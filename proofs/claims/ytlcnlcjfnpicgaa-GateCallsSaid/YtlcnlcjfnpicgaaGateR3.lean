/- The walk of groyneref20's End. -/
import Derived.Test.YtlcnlcjfnpicgaaGateR4
namespace Go.Proofs.Ytlcnlcjfnpicgaa
open Go.RowKit Go.Maps

/-- append of results in a region that draws its order -/
theorem step_rres {w : World} {ops : Array Oper} {o : Oper} {a : Act} {K : Act → World → Prop} {Q : Exit → Act → World → Prop} {E : Prop} (hgd : o.guard = none) (s x : Operand)
    (ho : o.op = .call { callee := .builtin .append, args := #[s, x], argTypes := #[28, 28] })
    {base : Nat} {v : Value} {r r2 : List (Nat × ByteArray × Int)} (hown : w.ownsRow base 89 3 v r.length (rcs r)) (hv : a.eval s = v)
    {u : Value} {F : Nat → Prop} (hr : RdV w F 3 u r2.length (rcs r2)) (hy : a.eval x = u)
    (hb : r.length + r2.length ≤ 1000000) (hbase : base ≤ w.heap.size)
    (h : ∀ v' w', w'.ownsRow base 89 3 v' (r ++ r2).length (rcs (r ++ r2)) → w.grownBy w' v.ownBlock → (v'.ownBlock = v.ownBlock ∨ v'.ownBlock = some w.heap.size) → K (a.put o.dst v') w') :
    if Region.wanted o (yielded ops a.tmps) = true then Oper.wp Try.prog o a w K Q else E := by
  have hw : Region.wanted o (yielded ops a.tmps) = true := by simp [Region.wanted, hgd]
  rw [if_pos hw]
  subst hv
  obtain ⟨i, hi, hz, h1, h2⟩ := info_parts info_rres
  refine wp_append_rd w s x _ ho base 89 i _ 3 32 Try.underlying28 hi hz h1 h2 rfl (by omega) r.length (rcs r) hown F r2.length (rcs r2) (hy ▸ hr) (fun u hu => by
    rw [rcs, List.mem_flatMap] at hu
    obtain ⟨y, _, hu⟩ := hu
    simp only [List.mem_cons, List.not_mem_nil, or_false] at hu
    rcases hu with rfl | rfl | rfl <;> rfl) (by simp only [maxLen]; omega) (by omega) hbase ?_
  intro v' w' hown' hg _ hat
  refine h v' w' ?_ hg hat
  rw [List.length_append, show rcs (r ++ r2) = rcs r ++ rcs r2 from by simp [rcs]]
  exact hown'
theorem rlit0 (w : World) : (w.alloc (.cells #[] 89)).ownsRow w.heap.size 89 3 (.slice (some ⟨w.heap.size, 0, none⟩) 0 0) (([] : List (Nat × ByteArray × Int))).length (rcs []) :=
  World.ownsRow_lit (size := 3) w #[] 0 (Nat.le_refl _) (by simp [maxLen]) rfl

theorem rlit1 {w : World} {g : Nat} {t : TypeId} (id : Nat) (name : ByteArray) (e0 : Int) (h : Blk w g t #[.int .u64 (id : Int), .string name, .int .i64 e0]) :
    RdV w (fun _ => True) 3 (.slice (some ⟨g, 0, none⟩) 1 1) ([(id, name, e0)] : List (Nat × ByteArray × Int)).length (rcs [(id, name, e0)]) :=
  ⟨rfl, _, 1, rfl, Nat.le_refl _, by simp [maxLen], fun _ => ⟨_, rfl, trivial, fun j u hu => by
    rw [add_none, h.cell, Nat.zero_add]
    match j, hu with
    | 0, hu => simpa [rcs] using hu
    | 1, hu => simpa [rcs] using hu
    | 2, hu => simpa [rcs] using hu
    | j + 3, hu => simp [rcs] at hu⟩⟩
theorem chg_g {a w : World} (h : Chg Non a w) (g i : Nat) (v : Value) : Chg (fun k => k = g) a (w.setCell ⟨g, i, none⟩ v) :=
  (h.mono fun _ _ h => h.elim).trans ((Chg.refl (fun k => k = g) w).setCell (p := ⟨g, i, none⟩) (fun _ => rfl) v) fun _ _ h => h
theorem ownsRow_low {w : World} {base b' sz n : Nat} {e : TypeId} {v : Value} {xs : List Value} (h : w.ownsRow base e sz v n xs) (hb : b' ≤ base) : w.ownsRow b' e sz v n xs := by
  refine ⟨h.1, ?_⟩
  rcases h.2 with hn' | ⟨b, cap, cur, rfl, hbb, rest⟩
  · exact .inl hn'
  · exact .inr ⟨b, cap, cur, rfl, by omega, rest⟩
theorem two34 {w : World} {g : Nat} {t : TypeId} {a0 a1 a2 a3 a4 a5 a6 a7 a8 : Value} (h : Blk w g t #[a0, a1, a2, a3, a4, a5, a6, a7, a8]) : w.cell? ⟨g, 3, none⟩ = some a3 ∧ w.cell? ⟨g, 4, none⟩ = some a4 := ⟨h.cell 3, h.cell 4⟩
theorem rset8 {w : World} {g : Nat} {t : TypeId} {a0 a1 a2 a3 a4 a5 a6 a7 a8 b : Value} (h : Blk w g t (#[a0, a1, a2, a3, a4, a5, a6, a7, a8].setIfInBounds 8 b)) : Blk w g t #[a0, a1, a2, a3, a4, a5, a6, a7, b] := by
  simp only [List.setIfInBounds_toArray, List.set_cons_succ, List.set_cons_zero] at h
  exact h
theorem fresh_g {w : World} {base sz n g : Nat} {e : TypeId} {v : Value} {xs : List Value} (h : w.ownsRow base e sz v n xs) (hg : g < base) : ∀ k, v.ownBlock = some k → ¬ (fun j => j = g) k := fun k hk e => by
  have := (World.ownsRow.lt h k hk).1
  have e : k = g := e
  omega
theorem fresh_ne {w : World} {base sz n : Nat} {e : TypeId} {v : Value} {xs : List Value} (h : w.ownsRow base e sz v n xs) {S : Nat → Prop} {w0 : World} (hb : base = w0.heap.size) : ∀ k, v.ownBlock = some k → k < w0.heap.size → S k := fun k hk hlt => by
  have := (World.ownsRow.lt h k hk).1; omega
set_option maxHeartbeats 2000000 in
set_option maxRecDepth 100000 in
theorem refEndShut {w : World} {F : Nat → Prop} {v mw rw : Value} {s : GSt} {e0 : Int} (h : RefAt w F v mw rw s) (hs : s.shut = true) (hl : s.res.length ≤ 100000) :
    Calls Try.prog 26 #[v, .int .i64 e0] w fun e w' => ∃ v' rw', e = .returned v' ∧ RefAt w' (fun k => F k ∨ w.heap.size ≤ k) v' mw rw' { s with shut := false, res := s.res ++ [(s.id, s.name, e0)] } ∧ Chg Non w w' := by
  have h0 := h.lt
  obtain ⟨rfl, hm, hr, hln, h20⟩ := h
  obtain ⟨A, c, rfl, hc, hmx⟩ := hm.shape
  obtain ⟨B, d, rfl, hd, hmd⟩ := hr.shape
  have kk := (Chg.refl Non w).alloc (.cells (rcells s (.slice A s.n c) (.slice B s.res.length d)) 30)
  have hb := Blk.new w 30 (rcells s (.slice A s.n c) (.slice B s.res.length d))
  have kk2 := kk.alloc (.cells #[.int .i64 0, .bool false, .bool false, .int .u64 0, .string ⟨#[]⟩, .int .u64 0, .int .i64 0, .slice none 0 0, .slice none 0 0] 30)
  have hb2 := hb.al (.cells #[.int .i64 0, .bool false, .bool false, .int .u64 0, .string ⟨#[]⟩, .int .u64 0, .int .i64 0, .slice none 0 0, .slice none 0 0] 30)
  have hb3 := Blk.new (w.alloc (.cells (rcells s (.slice A s.n c) (.slice B s.res.length d)) 30)) 30 #[.int .i64 0, .bool false, .bool false, .int .u64 0, .string ⟨#[]⟩, .int .u64 0, .int .i64 0, .slice none 0 0, .slice none 0 0]
  have hsz : (w.alloc (.cells (rcells s (.slice A s.n c) (.slice B s.res.length d)) 30)).heap.size = w.heap.size + 1 := by simp
  rw [hsz] at hb3
  unfold rcells at *
  rw [hs] at *
  have H0 := hide h0
  have HRR := hide (hr.chg kk2 fun _ _ h => h)
  clear hb hm hr hln h20 hs h0 hc hmx hd hmd hsz kk
  generalize hWW : (w.alloc _).alloc _ = WW at kk2 hb2 hb3 HRR
  have c1 := hb2.cell 1
  simp at c1
  go_enter Try.func26, Try.ntmps26
  go_upto_region 2 with fail
  clear hWW c1
  generalize hG2 : w.heap.size = G2 at hb2 hb3 ⊢
  have HG2 := hide hG2
  clear hG2
  have KK2 := hide kk2
  have HG2W := hide (show G2 < WW.drew.heap.size from hb2.lt)
  have HB2 := hide hb2
  have HB3 := hide hb3
  -- the literals: the empty one first
  have oE1 := rlit0 WW.drew
  have kE1 := ((Chg.refl Non WW).drew).alloc (.cells #[] 89)
  have rE1 := HRR.out.chg kE1 fun _ _ h => h
  obtain ⟨a0, a1, a2, a3, a4, a5, a6, a7, a8⟩ := blk9 (hb2.al (.cells #[] 89))
  have oE1L := World.ownsRow.alloc oE1 (.cells #[.int .u64 (s.id : Int), .string s.name, .int .i64 e0] 89)
  have kE1L := kE1.alloc (.cells #[.int .u64 (s.id : Int), .string s.name, .int .i64 e0] 89)
  have rE1L := HRR.out.chg kE1L fun _ _ h => h
  have bE1L := Blk.new (WW.drew.alloc (.cells #[] 89)) 89 #[.int .u64 (s.id : Int), .string s.name, .int .i64 e0]
  obtain ⟨d0, d1, d2, d3, d4, d5, d6, d7, d8⟩ := blk9 ((hb2.al (.cells #[] 89)).al (.cells #[.int .u64 (s.id : Int), .string s.name, .int .i64 e0] 89))
  rw [show (WW.drew.alloc (.cells #[] 89)).heap.size = WW.heap.size + 1 from by simp] at bE1L
  -- the one of the new result first
  have kL := ((Chg.refl Non WW).drew).alloc (.cells #[.int .u64 (s.id : Int), .string s.name, .int .i64 e0] 89)
  have bL := Blk.new WW.drew 89 #[.int .u64 (s.id : Int), .string s.name, .int .i64 e0]
  obtain ⟨e0', e1', e2', e3', e4', e5', e6', e7', e8'⟩ := blk9 (hb2.al (.cells #[.int .u64 (s.id : Int), .string s.name, .int .i64 e0] 89))
  have oLE := rlit0 (WW.drew.alloc (.cells #[.int .u64 (s.id : Int), .string s.name, .int .i64 e0] 89))
  rw [show (WW.drew.alloc (.cells #[.int .u64 (s.id : Int), .string s.name, .int .i64 e0] 89)).heap.size = WW.heap.size + 1 from by simp] at oLE
  have kLE := kL.alloc (.cells #[] 89)
  have bLE := bL.al (.cells #[] 89)
  have rLE := HRR.out.chg kLE fun _ _ h => h
  obtain ⟨g0, g1, g2, g3, g4, g5, g6, g7, g8⟩ := blk9 ((hb2.al (.cells #[.int .u64 (s.id : Int), .string s.name, .int .i64 e0] 89)).al (.cells #[] 89))
  obtain ⟨c0, c1, c2, c3, c4, c5, c6, c7, c8⟩ := blk9 hb2
  have hl0 : ([] : List (Nat × ByteArray × Int)).length + s.res.length ≤ 1000000 := by simp; omega
  have hl1 : ([] ++ s.res : List (Nat × ByteArray × Int)).length + ([(s.id, s.name, e0)] : List (Nat × ByteArray × Int)).length ≤ 1000000 := by simp; omega
  have sE1 : WW.drew.heap.size ≤ (WW.drew.alloc (.cells #[] 89)).heap.size := by simp
  have sE1L : WW.drew.heap.size ≤ ((WW.drew.alloc (.cells #[] 89)).alloc (.cells #[.int .u64 (s.id : Int), .string s.name, .int .i64 e0] 89)).heap.size := by simp; omega
  have sLE : WW.heap.size + 1 ≤ ((WW.drew.alloc (.cells #[.int .u64 (s.id : Int), .string s.name, .int .i64 e0] 89)).alloc (.cells #[] 89)).heap.size := by simp
  have sLE0 : WW.drew.heap.size ≤ WW.heap.size + 1 := by simp
  clear kk2 hb2 hb3
  have nE1L : ∀ k, (Value.slice (some ⟨WW.drew.heap.size, 0, none⟩) 0 0).ownBlock = some k → k ≠ WW.heap.size + 1 := fun k hk e => by
    simp [Value.ownBlock] at hk; omega
  have nLE : ∀ k, (Value.slice (some ⟨WW.heap.size + 1, 0, none⟩) 0 0).ownBlock = some k → k ≠ WW.drew.heap.size := fun k hk e => by
    simp [Value.ownBlock] at hk e; omega
  have LTS := hide (show s.res.length ≤ 100000 from hl)
  go_cut [2] from 7 (fun v wx => v = .pointer (some ⟨G2, 0, none⟩) ∧ ∃ (A2 : Option Addr) (n2 k2 : Nat), Blk wx G2 30 #[.int .i64 s.p, .bool true, .bool s.cut, .int .u64 (s.id : Int), .string s.name, .int .u64 (s.at_ : Int), .int .i64 s.age, .slice A s.n c, .slice A2 n2 k2] ∧ wx.ownsRow WW.drew.heap.size 89 3 (.slice A2 n2 k2) (([] ++ s.res) ++ [(s.id, s.name, e0)]).length (rcs (([] ++ s.res) ++ [(s.id, s.name, e0)])) ∧ Chg (fun k => k = G2) WW wx)
  case first =>
    go_region_law (first
      | (refine step_rres rfl _ _ rfl hownP rfl hlitP rfl hl1 hszP ?_; intro v2 w2 hown2 hg2 hat2; have kF := kP.grown hg2 (fresh_ne hownP rfl); have yF := HB2.out.c0 kF; obtain ⟨y0, y1, y2, y3, y4, y5, y6, y7, y8⟩ := blk9 yF; obtain ⟨z0, z1, z2, z3, z4, z5, z6, z7, z8⟩ := frz9 yF; obtain ⟨A2, n2, k2, e2⟩ := row_slc hown2; subst e2)
      | (refine step_rres rfl _ _ rfl oE1 rfl rE1 rfl hl0 sE1 ?_; intro v1 w1 hown1 hg1 hat1; have kA := kE1.grown hg1 (fresh_ne oE1 rfl); obtain ⟨y0, y1, y2, y3, y4, y5, y6, y7, y8⟩ := blk9 (HB2.out.c0 kA); have hownP := World.ownsRow.alloc hown1 (.cells #[.int .u64 (s.id : Int), .string s.name, .int .i64 e0] 89); have kP := kA.alloc (.cells #[.int .u64 (s.id : Int), .string s.name, .int .i64 e0] 89); have hlitP := rlit1 s.id s.name e0 (Blk.new w1 89 #[.int .u64 (s.id : Int), .string s.name, .int .i64 e0]); have hszP := kP.size)
      | (refine step_rres rfl _ _ rfl oE1L rfl rE1L rfl hl0 sE1L ?_; intro v1 w1 hown1 hg1 hat1; have kA := kE1L.grown hg1 (fresh_ne oE1L rfl); have kP := kA; have hownP := hown1; have hlitP := rlit1 s.id s.name e0 (bE1L.chg (Chg.of_grown hg1) (fun e => nE1L _ e.symm rfl)); have hszP := kP.size)
      | (refine step_rres rfl _ _ rfl oLE rfl rLE rfl hl0 sLE ?_; intro v1 w1 hown1 hg1 hat1; have hownQ := ownsRow_low hown1 sLE0; have kA := kLE.grown hg1 (fresh_ne (ownsRow_low oLE sLE0) rfl); have kP := kA; have hownP := hownQ; have hlitP := rlit1 s.id s.name e0 (bLE.chg (Chg.of_grown hg1) (fun e => nLE _ e.symm rfl)); have hszP := kP.size))
    all_goals
      go_wp2_with fail
      go_meet
      case rel => exact ⟨rfl, _, _, _, rset8 (yF.set_ 8 _), ownsRow_chg hown2 ((Chg.refl (fun j => j = G2) w2).setCell (p := ⟨G2, 8, none⟩) (fun _ => rfl) _) (fresh_g hown2 HG2W.out), chg_g kF G2 8 _⟩
  case rest =>
    obtain ⟨rfl, A2, n2, k2, hB, hO, hC⟩ := hcut
    clear oE1 kE1 rE1 a0 a1 a2 a3 a4 a5 a6 a7 a8 oE1L kE1L rE1L bE1L d0 d1 d2 d3 d4 d5 d6 d7 d8 kL bL e0' e1' e2' e3' e4' e5' e6' e7' e8' oLE kLE bLE rLE g0 g1 g2 g3 g4 g5 g6 g7 g8 c0 c1 c2 c3 c4 c5 c6 c7 c8 nE1L nLE hl0 hl1 sE1 sE1L sLE sLE0
    have hB3 := HB3.out.chg hC (by omega)
    have c1 := hB.cell 1
    simp at c1
    have f1 := hB.frozen 1
    have y3 := hB.set_ 1 (.bool false)
    simp only [List.setIfInBounds_toArray, List.set_cons_succ, List.set_cons_zero] at y3
    have y6 := hB3.far (p := ⟨G2, 1, none⟩) (by simp) (.bool false)
    have kc := (Chg.refl (fun j => j = G2) wc).setCell (p := ⟨G2, 1, none⟩) (fun _ => rfl) (.bool false)
    have Y3 := hide y3
    have Y6 := hide y6
    have KC := hide kc
    have HC := hide hC
    have HO := hide hO
    have HB3L := hide HB3.out.lt
    clear y3 y6 kc hC hO hB hB3
    go_upto_region 4 with fail
    generalize World.setCell _ _ _ = w5 at Y3 Y6 KC ⊢
    clear c1 f1
    obtain ⟨a0, a1, a2, a3, a4, a5, a6, a7, a8⟩ := blk9 Y3.out
    obtain ⟨c0, c1, c2, c3, c4, c5, c6, c7, c8⟩ := blk9 Y6.out
    obtain ⟨f0, f1, f2, f3, f4, f5, f6, f7, f8⟩ := frz9 Y6.out
    obtain ⟨hB9, hC9⟩ := put9 Y6.out (.int .i64 s.p) (.bool false) (.bool s.cut) (.int .u64 (s.id : Int)) (.string s.name) (.int .u64 (s.at_ : Int)) (.int .i64 s.age) (.slice A s.n c) (.slice A2 n2 k2)
    go_wp2_with fail
    generalize World.setCell _ _ _ = w9 at hB9 hC9 ⊢
    clear a0 a1 a2 a3 a4 a5 a6 a7 a8 c0 c1 c2 c3 c4 c5 c6 c7 c8 f0 f1 f2 f3 f4 f5 f6 f7 f8
    obtain ⟨a0, a1, a2, a3, a4, a5, a6, a7, a8⟩ := blk9 hB9
    refine bodyPost_ret (v := .agg #[.int .i64 s.p, .bool false, .bool s.cut, .int .u64 (s.id : Int), .string s.name, .int .u64 (s.at_ : Int), .int .i64 s.age, .slice A s.n c, .slice A2 n2 k2]) (by simp [results, Try.results26, go_sem, a0, a1, a2, a3, a4, a5, a6, a7, a8]) rfl ?_
    have g2 := HG2.out
    have z3 := HB3L.out
    have hq := (((H0.out.c0 KK2.out).chg HC.out fun k hk e => by have := hk.2; omega).chg KC.out fun k hk e => by have := hk.2; omega).chg hC9 fun k hk e => by have := hk.2; omega
    have hr := RdV.of_own HO.out
    obtain ⟨_, _, e2, _, _⟩ := hr.shape
    injection e2 with _ e2 _
    have e3 : ([] ++ s.res) ++ [(s.id, s.name, e0)] = s.res ++ [(s.id, s.name, e0)] := by simp
    have hlt := World.ownsRow.lt HO.out
    have hr2 := (hr.chg KC.out fun k hk e => by have := (hlt k hk).1; have h1 : WW.drew.heap.size = WW.heap.size := rfl; omega).chg hC9 fun k hk e => by have := (hlt k hk).1; have h1 : WW.drew.heap.size = WW.heap.size := rfl; omega
    rw [e3] at hr2 e2
    subst e2
    exact ⟨_, _, rfl, ⟨rfl, hq.m.mono fun k hk => .inl hk.1, hr2.mono fun k hk => .inr (by have := (hlt k hk).1; have h1 : WW.drew.heap.size = WW.heap.size := rfl; omega), hq.len, hq.n20⟩, ((KK2.out.trans HC.out fun k hk e => by omega).trans KC.out fun k hk e => by omega).trans hC9 fun k hk e => by omega⟩
end Go.Proofs.Ytlcnlcjfnpicgaa
