/- The walk of groyneref20's Answer where it takes a mark. -/
import Derived.Test.YtlcnlcjfnpicgaaGateR4
namespace Go.Proofs.Ytlcnlcjfnpicgaa
open Go.RowKit Go.Maps

theorem mks_len (l : List (Option Nat)) : (mks l).length = l.length * 2 := by
  induction l with
  | nil => rfl
  | cons x r ih => rw [show mks (x :: r) = mkC x ++ mks r from by simp [mks], List.length_append, ih]; simp [mkC]; omega
theorem mks_set : ∀ (l : List (Option Nat)) (k a : Nat), mks (l.set k (some a)) = ((mks l).set (k * 2) (.bool true)).set (k * 2 + 1) (.int .u64 (a : Int))
  | [], k, a => by simp [mks]
  | x :: r, 0, a => by simp [mks, mkC]
  | x :: r, k + 1, a => by
    have e : (k + 1) * 2 = k * 2 + 2 := by omega
    rw [List.set_cons_succ, e, show mks (x :: r.set k (some a)) = mkC x ++ mks (r.set k (some a)) from by simp [mks], show mks (x :: r) = mkC x ++ mks r from by simp [mks], mks_set r k a]
    simp [mkC]
theorem mks_one (l : List (Option Nat)) : ∀ u ∈ mks l, u.oneCell' = true := by
  intro u hu
  rw [mks, List.mem_flatMap] at hu
  obtain ⟨y, _, hu⟩ := hu
  simp only [mkC, List.mem_cons, List.not_mem_nil, or_false] at hu
  rcases hu with rfl | rfl <;> rfl
/-- append of marks -/
theorem append_marks {w : World} {ops : Array Oper} {rest : List Oper} {o : Oper} {a : Act} {Q : Exit → Act → World → Prop} (hgd : o.guard = none) (s x : Operand)
    (ho : o.op = .call { callee := .builtin .append, args := #[s, x], argTypes := #[27, 27] })
    {base : Nat} {v : Value} {l m : List (Option Nat)} (hown : w.ownsRow base 65 2 v l.length (mks l)) (hv : a.eval s = v)
    {F : Nat → Prop} {u : Value} (hr : RdV w F 2 u m.length (mks m)) (hy : a.eval x = u)
    (hb : l.length + m.length ≤ 1000000) (hbase : base ≤ w.heap.size)
    (h : ∀ v' w', w'.ownsRow base 65 2 v' (l ++ m).length (mks (l ++ m)) → w.grownBy w' v.ownBlock → (v'.ownBlock = v.ownBlock ∨ v'.ownBlock = some w.heap.size) → wpList Try.prog ops Q rest (a.put o.dst v') w') : wpList Try.prog ops Q (o :: rest) a w := by
  obtain ⟨i, hi, hz, h1, h2⟩ := info_parts info_mark
  refine wpList_append_rd w hgd s x _ ho base 65 i _ 2 16 Try.underlying27 hi hz h1 h2 rfl (by omega) v hv l.length (mks l) hown _ _ hy m.length (mks m) hr (mks_one m) (by simp only [maxLen]; omega) (by omega) hbase ?_
  intro v' w' hown' hg _ hat
  refine h v' w' ?_ hg hat
  rw [List.length_append, show mks (l ++ m) = mks l ++ mks m from by simp [mks]]
  exact hown'
theorem mlit0 (w : World) : (w.alloc (.cells #[] 65)).ownsRow w.heap.size 65 2 (.slice (some ⟨w.heap.size, 0, none⟩) 0 0) (([] : List (Option Nat))).length (mks []) :=
  World.ownsRow_lit (size := 2) w #[] 0 (Nat.le_refl _) (by simp [maxLen]) rfl

set_option maxHeartbeats 4000000 in
set_option maxRecDepth 100000 in
theorem refAnswerYes {w : World} {F : Nat → Prop} {v mw rw : Value} {s : GSt} (k : Nat) (a : Nat) (h : RefAt w F v mw rw s) (hs : s.shut = true) (hcu : s.cut = true) (hk : k < s.n) (hmh : mh s.ms k = false) :
    Calls Try.prog 23 #[v, .int .i64 (k : Int), .int .i64 6, .int .u64 (s.id : Int), .int .i64 0, .int .u64 (a : Int)] w fun e w' => ∃ v' mw', e = .returned v' ∧
      RefAt w' (fun k => F k ∨ w.heap.size ≤ k) v' mw' rw { s with ms := s.ms.set k (some a) } ∧ Chg Non w w' := by
  obtain ⟨rfl, hm, hr, hln, h20⟩ := h
  obtain ⟨A, c, rfl, hc, hmx⟩ := hm.shape
  obtain ⟨B, d, rfl, hd, hmd⟩ := hr.shape
  have HR := hide (hr.lt (by omega))
  have HV := hide (show s.shut = true ∧ s.cut = true from ⟨hs, hcu⟩)
  have HL := hide hln
  have hln0 := hide hln
  have HU0 := hide (show (mks s.ms)[k * 2]? = some (.bool false) by rw [(mks_get s.ms k (by rw [hln]; exact hk)).1, hmh])
  have HU1 := hide ((mks_get s.ms k (by rw [hln]; exact hk)).2)
  have H20 := hide h20
  obtain ⟨b3, b6, k3⟩ := box9 w (rcells s (.slice A s.n c) (.slice B s.res.length d))
  have hM2 := hm.chg k3 fun _ _ h => h
  unfold rcells z9 at *
  rw [hs, hcu] at *
  obtain ⟨ad, u, rfl, _, hu, hcell⟩ := hM2.at_ (i := 0) hk (by omega)
  rw [Nat.add_zero] at hu hcell
  rw [(mks_get s.ms k (by rw [hln]; exact hk)).1, hmh] at hu
  injection hu with hu
  subst hu
  have d1 : decide ((k : Int) < 0) = false := decide_eq_false (by omega)
  have d2 : decide ((s.n : Int) ≤ (k : Int)) = false := decide_eq_false (by omega)
  have d3 : decide (s.n ≤ k) = false := decide_eq_false (by omega)
  generalize hWW : (w.alloc _).alloc _ = WW at b3 b6 k3 hM2 hcell
  obtain ⟨a0, a1, a2, a3, a4, a5, a6, a7, a8⟩ := blk9 b3
  have hME : RdV (WW.alloc (.cells #[] 65)) F 2 (.slice (some ad) s.n c) s.ms.length (mks s.ms) := by
    rw [hln]
    exact hM2.chg ((Chg.refl Non WW).alloc _) fun _ _ h => h
  have oE := mlit0 WW
  have hlb : ([] : List (Option Nat)).length + s.ms.length ≤ 1000000 := by rw [hln]; simp; omega
  have a7E : (WW.alloc (.cells #[] 65)).cell? ⟨w.heap.size, 7, none⟩ = some (.slice (some ad) s.n c) := (b3.al _).cell 7
  have hsE : WW.heap.size ≤ (WW.alloc (.cells #[] 65)).heap.size := by simp
  have K3 := hide k3
  have B3 := hide b3
  have B6 := hide b6
  have HK := hide hk
  clear hm hr hln h20 hc hmx hd hmd b3 b6 k3 hk hmh hs hcu
  go_enter Try.func23, Try.ntmps23
  go_upto_region 4 with (at_builtin; refine append_marks rfl _ _ rfl oE rfl hME rfl hlb hsE ?_; intro v1 w1 hown1 hg1 hat1)
  clear hWW
  have kA := ((Chg.refl Non WW).alloc (.cells #[] 65)).grown hg1 fun j hj hlt => by
    have := (World.ownsRow.lt oE j hj).1; omega
  rw [List.nil_append, hln0.out] at hown1
  obtain ⟨g, cap, rfl, hgb, hgl⟩ := World.ownsRow.form hown1 (by have := HK.out; omega)
  have hcap : s.n ≤ cap ∧ cap ≤ maxLen := by
    obtain ⟨_, _, e, h1, h2⟩ := (RdV.of_own hown1).shape
    injection e with _ _ e
    subst e
    exact ⟨h1, h2⟩
  have hlenm : (mks s.ms).length = s.n * 2 := by rw [mks_len, hln0.out]
  have hkk := HK.out
  have e0 : w1.cell? ⟨g, k * 2, none⟩ = some (.bool false) := by
    rw [World.ownsRow.cellAt hown1 (k * 2) (by omega)]; exact HU0.out
  have e1 : w1.cell? ⟨g, k * 2 + 1, none⟩ = some (.int .u64 (mv s.ms k : Int)) := by
    rw [World.ownsRow.cellAt hown1 (k * 2 + 1) (by omega)]; exact HU1.out
  have e2 := World.ownsRow.frozenAt hown1 (k * 2)
  have e3 := World.ownsRow.frozenAt hown1 (k * 2 + 1)
  have o2 := (World.ownsRow.stored (World.ownsRow.stored hown1 (k * 2) (.bool true)).1 (k * 2 + 1) (.int .u64 (a : Int))).1
  rw [← mks_set] at o2
  have y3 := ((B3.out.c0 kA).far (p := ⟨g, k * 2, none⟩) (by have := B6.out.lt; simp; omega) (.bool true)).far (p := ⟨g, k * 2 + 1, none⟩) (by have := B6.out.lt; simp; omega) (.int .u64 (a : Int))
  have y6 := ((B6.out.c0 kA).far (p := ⟨g, k * 2, none⟩) (by have := B6.out.lt; simp; omega) (.bool true)).far (p := ⟨g, k * 2 + 1, none⟩) (by have := B6.out.lt; simp; omega) (.int .u64 (a : Int))
  have kB := (((K3.out.trans0 kA).mono (S' := fun j => j = g) fun _ _ h => h.elim).setCell (p := ⟨g, k * 2, none⟩) (fun _ => rfl) (.bool true)).setCell (p := ⟨g, k * 2 + 1, none⟩) (fun _ => rfl) (.int .u64 (a : Int))
  have z6 := B6.out.lt
  have kC : Chg Non w _ := kB.mono (S' := Non) fun j h1 h2 => by have := K3.out.size; omega
  have O2 := hide o2
  have Y3 := hide y3
  have Y6 := hide y6
  have KC := hide kC
  have HG := hide hgb
  have Z6 := hide z6
  have hcap1 := hcap.1
  have hcap2 := hcap.2
  unfold maxLen at hcap2
  clear kA hown1 hg1 hat1 hgb hgl hcap hlenm hkk o2 y3 y6 kB kC z6 oE hME hM2 hlb a7E hsE d1 d2 d3 hcell a0 a1 a2 a3 a4 a5 a6 a7 a8
  go_upto_region 5 with fail
  generalize (w1.setCell ⟨g, k * 2, none⟩ (.bool true)).setCell ⟨g, k * 2 + 1, none⟩ (.int .u64 (a : Int)) = w5 at O2 Y3 Y6 KC ⊢
  clear e0 e1 e2 e3
  have c7 := Y3.out.cell 7
  simp at c7
  have f7 := Y3.out.frozen 7
  have y3 := Y3.out.set_ 7 (.slice (some ⟨g, 0, none⟩) s.n cap)
  rw [rset7] at y3
  have y6 := Y6.out.far (p := ⟨w.heap.size, 7, none⟩) (by simp) (.slice (some ⟨g, 0, none⟩) s.n cap)
  have kD := (Chg.refl (fun j => j = w.heap.size) w5).setCell (p := ⟨w.heap.size, 7, none⟩) (fun _ => rfl) (.slice (some ⟨g, 0, none⟩) s.n cap)
  have Y7 := hide y3
  have Y8 := hide y6
  have KD := hide kD
  clear y3 y6 kD
  go_upto_region 6 with fail
  generalize w5.setCell ⟨w.heap.size, 7, none⟩ (.slice (some ⟨g, 0, none⟩) s.n cap) = w6 at Y7 Y8 KD ⊢
  clear c7 f7
  obtain ⟨a0, a1, a2, a3, a4, a5, a6, a7, a8⟩ := blk9 Y7.out
  obtain ⟨c0, c1, c2, c3, c4, c5, c6, c7, c8⟩ := blk9 Y8.out
  obtain ⟨f0, f1, f2, f3, f4, f5, f6, f7, f8⟩ := frz9 Y8.out
  have hp9 := put9 Y8.out (.int .i64 s.p) (.bool true) (.bool true) (.int .u64 (s.id : Int)) (.string s.name) (.int .u64 (s.at_ : Int)) (.int .i64 s.age) (.slice (some ⟨g, 0, none⟩) s.n cap) (.slice B s.res.length d)
  obtain ⟨hB9, hC9⟩ := hp9
  go_wp2_with fail
  generalize World.setCell _ _ _ = w9 at hB9 hC9 ⊢
  clear a0 a1 a2 a3 a4 a5 a6 a7 a8 c0 c1 c2 c3 c4 c5 c6 c7 c8 f0 f1 f2 f3 f4 f5 f6 f7 f8
  obtain ⟨a0, a1, a2, a3, a4, a5, a6, a7, a8⟩ := blk9 hB9
  refine bodyPost_ret (v := .agg #[.int .i64 s.p, .bool true, .bool true, .int .u64 (s.id : Int), .string s.name, .int .u64 (s.at_ : Int), .int .i64 s.age, .slice (some ⟨g, 0, none⟩) s.n cap, .slice B s.res.length d]) (by simp [results, Try.results23, go_sem, a0, a1, a2, a3, a4, a5, a6, a7, a8]) rfl ⟨_, rfl, ⟨.slice (some ⟨g, 0, none⟩) s.n cap, rfl, ?_, ?_, (List.length_set ..).trans HL.out, H20.out⟩, ?_⟩
  · have h1 := ((RdV.of_own O2.out).chg KD.out fun j hj e => by
      simp [Value.ownBlock] at hj; have := HG.out; have := Z6.out; omega).chg hC9 fun j hj e => by
      simp [Value.ownBlock] at hj; have := HG.out; have := Z6.out; omega
    exact h1.mono fun j hj => .inr (by simp [Value.ownBlock] at hj; have := HG.out; have := Z6.out; omega)
  · have h1 := ((HR.out.chg KC.out fun _ _ h => h).chg KD.out fun j hj e => by have := hj.2; omega).chg hC9 fun j hj e => by have := hj.2; omega
    exact h1.mono fun j hj => .inl hj.1
  · exact (KC.out.trans KD.out fun j h1 h2 => by omega).trans hC9 fun j h1 h2 => by omega
/-- Answer, whatever it is -/
theorem refAnswer {w : World} {F : Nat → Prop} {v mw rw : Value} {s : GSt} (i kind : Int) (id : Nat) (err : Int) (a : Nat) (h : RefAt w F v mw rw s) :
    Calls Try.prog 23 #[v, .int .i64 i, .int .i64 kind, .int .u64 (id : Int), .int .i64 err, .int .u64 (a : Int)] w fun e w' => ∃ v' mw', e = .returned v' ∧
      RefAt w' (fun k => F k ∨ w.heap.size ≤ k) v' mw' rw (answerS s i kind id err a) ∧ Chg Non w w' := by
  by_cases hk : knownS s i kind id err ∧ mh s.ms i.toNat = false
  · have e : answerS s i kind id err a = { s with ms := s.ms.set i.toNat (some a) } := by rw [answerS, if_pos hk]
    rw [e]
    obtain ⟨⟨hs, hc, h0, hi, rfl, rfl, rfl⟩, hm⟩ := hk
    obtain ⟨k, rfl⟩ := Int.eq_ofNat_of_zero_le h0
    exact refAnswerYes k a h hs hc (by omega) hm
  · have e : answerS s i kind id err a = s := by rw [answerS, if_neg hk]
    rw [e]
    refine (refAnswerNo i kind id err a h hk).mono ?_
    rintro e w' ⟨rfl, c⟩
    exact ⟨v, mw, rfl, (h.c0 c).mono fun k hk => .inl hk, c⟩
end Go.Proofs.Ytlcnlcjfnpicgaa
