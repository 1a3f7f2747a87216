/- groyneref20's gate in memory, and the walks of its functions New, all, Wants. -/
import Derived.Test.YtlcnlcjfnpicgaaGate5
namespace Go.Proofs.Ytlcnlcjfnpicgaa
open Go.RowKit Go.Maps

def mkC (o : Option Nat) : List Value := [.bool o.isSome, .int .u64 (o.getD 0 : Int)]
def mks (l : List (Option Nat)) : List Value := l.flatMap mkC
theorem mks_snoc (l : List (Option Nat)) (x : Option Nat) : mks (l ++ [x]) = mks l ++ mkC x := by simp [mks]
theorem mks_get (l : List (Option Nat)) (k : Nat) (hk : k < l.length) : (mks l)[k * 2]? = some (.bool (mh l k)) ∧ (mks l)[k * 2 + 1]? = some (.int .u64 (mv l k : Int)) := by
  induction l generalizing k with
  | nil => simp at hk
  | cons x r ih =>
    have e : mks (x :: r) = mkC x ++ mks r := by simp [mks]
    cases k with
    | zero => rw [e]; simp [mkC, mh, mv]
    | succ k =>
      have h := ih k (by simpa using hk)
      have e1 : (k + 1) * 2 = k * 2 + 2 := by omega
      rw [e, e1]
      simp only [mkC, List.cons_append, List.nil_append, List.getElem?_cons_succ]
      refine ⟨?_, ?_⟩
      · rw [h.1]; simp [mh]
      · rw [h.2]; simp [mv]
def rcells (s : GSt) (mw rw : Value) : Array Value := #[.int .i64 s.p, .bool s.shut, .bool s.cut, .int .u64 (s.id : Int), .string s.name, .int .u64 (s.at_ : Int), .int .i64 s.age, mw, rw]
/-- the value v is the document's gate in the state s; its slices lie in blocks of F -/
structure RefAt (w : World) (F : Nat → Prop) (v mw rw : Value) (s : GSt) : Prop where
  v : v = .agg (rcells s mw rw)
  m : RdV w F 2 mw s.n (mks s.ms)
  r : RdV w F 3 rw s.res.length (rcs s.res)
  len : s.ms.length = s.n
  n20 : s.n ≤ 20
theorem RefAt.mono {w : World} {F F' : Nat → Prop} {v mw rw : Value} {s : GSt} (h : RefAt w F v mw rw s) (hF : ∀ k, F k → F' k) : RefAt w F' v mw rw s := ⟨h.v, h.m.mono hF, h.r.mono hF, h.len, h.n20⟩
theorem RefAt.chg {w w' : World} {F S : Nat → Prop} {v mw rw : Value} {s : GSt} (h : RefAt w F v mw rw s) (hc : Chg S w w') (hF : ∀ k, F k → ¬ S k) : RefAt w' F v mw rw s := ⟨h.v, h.m.chg hc hF, h.r.chg hc hF, h.len, h.n20⟩
theorem RefAt.c0 {w w' : World} {F : Nat → Prop} {v mw rw : Value} {s : GSt} (h : RefAt w F v mw rw s) (hc : Chg Non w w') : RefAt w' F v mw rw s := h.chg hc fun _ _ h => h
theorem RefAt.lt {w : World} {F : Nat → Prop} {v mw rw : Value} {s : GSt} (h : RefAt w F v mw rw s) : RefAt w (fun k => F k ∧ k < w.heap.size) v mw rw s := ⟨h.v, h.m.lt (by omega), h.r.lt (by omega), h.len, h.n20⟩

theorem info_mark : (Try.prog.info? 65).map (fun i => (i.zero, i.size, i.bytes)) = some (some (.agg #[.bool false, .int .u64 0]), 2, 16) := by kernel_rfl
theorem info_rres : (Try.prog.info? 89).map (fun i => (i.zero, i.size, i.bytes)) = some (some (.agg #[.int .u64 0, .string ⟨#[]⟩, .int .i64 0]), 3, 32) := by kernel_rfl
/-- append of one mark -/
theorem append_mark {w : World} {ops : Array Oper} {rest : List Oper} {o : Oper} {a : Act} {Q : Exit → Act → World → Prop} (hgd : o.guard = none) (s x : Operand)
    (ho : o.op = .call { callee := .builtin .append, args := #[s, x], argTypes := #[27, 27] })
    {base : Nat} {v : Value} {l : List (Option Nat)} (hown : w.ownsRow base 65 2 v l.length (mks l)) (hv : a.eval s = v)
    {gl : Nat} {t : TypeId} (hl : Blk w gl t #[.bool false, .int .u64 0]) (hy : a.eval x = .slice (some ⟨gl, 0, none⟩) 1 1)
    (hb : l.length ≤ 1000000) (hbase : base ≤ w.heap.size)
    (h : ∀ v' w', w'.ownsRow base 65 2 v' (l ++ [none]).length (mks (l ++ [none])) → w.grownBy w' v.ownBlock → (v'.ownBlock = v.ownBlock ∨ v'.ownBlock = some w.heap.size) → wpList Try.prog ops Q rest (a.put o.dst v') w') : wpList Try.prog ops Q (o :: rest) a w := by
  obtain ⟨i, hi, hz, h1, h2⟩ := info_parts info_mark
  have hr : RdV w (fun _ => True) 2 (.slice (some ⟨gl, 0, none⟩) 1 1) 1 (mkC none) := ⟨rfl, _, 1, rfl, Nat.le_refl _, by simp [maxLen], fun _ => ⟨_, rfl, trivial, fun j u hu => by
    rw [add_none, hl.cell, Nat.zero_add]
    match j, hu with
    | 0, hu => simpa [mkC] using hu
    | 1, hu => simpa [mkC] using hu
    | j + 2, hu => simp [mkC] at hu⟩⟩
  refine wpList_append_rd w hgd s x _ ho base 65 i _ 2 16 Try.underlying27 hi hz h1 h2 rfl (by omega) v hv l.length (mks l) hown _ _ hy 1 (mkC none) hr (fun u hu => by
    simp only [mkC, List.mem_cons, List.not_mem_nil, or_false] at hu
    rcases hu with rfl | rfl <;> rfl) (by simp only [maxLen]; omega) (by omega) hbase ?_
  intro v' w' hown' hg _ hat
  refine h v' w' ?_ hg hat
  rw [List.length_append, mks_snoc]
  exact hown'

theorem rset7 (p a1 a2 a3 a4 a5 a6 a7 a8 b : Value) : (#[p, a1, a2, a3, a4, a5, a6, a7, a8].setIfInBounds 7 b) = #[p, a1, a2, a3, a4, a5, a6, b, a8] := by
  simp only [List.setIfInBounds_toArray, List.set_cons_succ, List.set_cons_zero]
theorem blk9 {w : World} {g : Nat} {t : TypeId} {a0 a1 a2 a3 a4 a5 a6 a7 a8 : Value} (h : Blk w g t #[a0, a1, a2, a3, a4, a5, a6, a7, a8]) :
    w.cell? ⟨g, 0, none⟩ = some a0 ∧ w.cell? ⟨g, 1, none⟩ = some a1 ∧ w.cell? ⟨g, 2, none⟩ = some a2 ∧ w.cell? ⟨g, 3, none⟩ = some a3 ∧ w.cell? ⟨g, 4, none⟩ = some a4 ∧ w.cell? ⟨g, 5, none⟩ = some a5 ∧ w.cell? ⟨g, 6, none⟩ = some a6 ∧ w.cell? ⟨g, 7, none⟩ = some a7 ∧ w.cell? ⟨g, 8, none⟩ = some a8 :=
  ⟨h.cell 0, h.cell 1, h.cell 2, h.cell 3, h.cell 4, h.cell 5, h.cell 6, h.cell 7, h.cell 8⟩
theorem frz9 {w : World} {g : Nat} {t : TypeId} {cs : Array Value} (h : Blk w g t cs) :
    w.frozen? ⟨g, 0, none⟩ = false ∧ w.frozen? ⟨g, 1, none⟩ = false ∧ w.frozen? ⟨g, 2, none⟩ = false ∧ w.frozen? ⟨g, 3, none⟩ = false ∧ w.frozen? ⟨g, 4, none⟩ = false ∧ w.frozen? ⟨g, 5, none⟩ = false ∧ w.frozen? ⟨g, 6, none⟩ = false ∧ w.frozen? ⟨g, 7, none⟩ = false ∧ w.frozen? ⟨g, 8, none⟩ = false :=
  ⟨h.frozen 0, h.frozen 1, h.frozen 2, h.frozen 3, h.frozen 4, h.frozen 5, h.frozen 6, h.frozen 7, h.frozen 8⟩
theorem put9 {w : World} {g : Nat} {t : TypeId} {b0 b1 b2 b3 b4 b5 b6 b7 b8 : Value} (h : Blk w g t #[b0, b1, b2, b3, b4, b5, b6, b7, b8]) (a0 a1 a2 a3 a4 a5 a6 a7 a8 : Value) :
    Blk (((((((((w.setCell ⟨g, 0, none⟩ a0).setCell ⟨g, 1, none⟩ a1).setCell ⟨g, 2, none⟩ a2).setCell ⟨g, 3, none⟩ a3).setCell ⟨g, 4, none⟩ a4).setCell ⟨g, 5, none⟩ a5).setCell ⟨g, 6, none⟩ a6).setCell ⟨g, 7, none⟩ a7).setCell ⟨g, 8, none⟩ a8) g t #[a0, a1, a2, a3, a4, a5, a6, a7, a8] ∧
    Chg (fun k => k = g) w (((((((((w.setCell ⟨g, 0, none⟩ a0).setCell ⟨g, 1, none⟩ a1).setCell ⟨g, 2, none⟩ a2).setCell ⟨g, 3, none⟩ a3).setCell ⟨g, 4, none⟩ a4).setCell ⟨g, 5, none⟩ a5).setCell ⟨g, 6, none⟩ a6).setCell ⟨g, 7, none⟩ a7).setCell ⟨g, 8, none⟩ a8) := by
  refine ⟨?_, ?_⟩
  · have hx := ((((((((h.set_ 0 a0).set_ 1 a1).set_ 2 a2).set_ 3 a3).set_ 4 a4).set_ 5 a5).set_ 6 a6).set_ 7 a7).set_ 8 a8
    simp only [List.setIfInBounds_toArray, List.set_cons_succ, List.set_cons_zero] at hx
    exact hx
  · exact (((((((((Chg.refl (fun k => k = g) w).setCell (p := ⟨g, 0, none⟩) (fun _ => rfl) a0).setCell (p := ⟨g, 1, none⟩) (fun _ => rfl) a1).setCell (p := ⟨g, 2, none⟩) (fun _ => rfl) a2).setCell (p := ⟨g, 3, none⟩) (fun _ => rfl) a3).setCell (p := ⟨g, 4, none⟩) (fun _ => rfl) a4).setCell (p := ⟨g, 5, none⟩) (fun _ => rfl) a5).setCell (p := ⟨g, 6, none⟩) (fun _ => rfl) a6).setCell (p := ⟨g, 7, none⟩) (fun _ => rfl) a7).setCell (p := ⟨g, 8, none⟩) (fun _ => rfl) a8
theorem blk_grown {w w1 : World} {g : Nat} {t : TypeId} {cs : Array Value} {o : Obj} {r : Option Nat} (h : Blk w g t cs) (hg : (w.alloc o).grownBy w1 r) (hn : ∀ k, r = some k → k ≠ g) : Blk w1 g t cs :=
  (h.al o).chg (Chg.of_grown hg) fun e => hn g e.symm rfl
theorem ownsRow_chg {w w' : World} {S : Nat → Prop} {base sz n : Nat} {e : TypeId} {v : Value} {xs : List Value} (h : w.ownsRow base e sz v n xs) (hc : Chg S w w') (hn : ∀ k, v.ownBlock = some k → ¬ S k) : w'.ownsRow base e sz v n xs := by
  refine ⟨h.1, ?_⟩
  rcases h.2 with hn' | ⟨b, cap, cur, rfl, hbb, hgg, rest⟩
  · exact .inl hn'
  · exact .inr ⟨b, cap, cur, rfl, hbb, hc.heap hgg (hn b rfl), rest⟩
set_option maxHeartbeats 2000000 in
set_option maxRecDepth 100000 in
theorem refNew (w : World) (n p : Int) (hn : n ≤ 20) :
    Calls Try.prog 7 #[.int .i64 n, .int .i64 p] w fun e w' => ∃ v mw, e = .returned v ∧ RefAt w' (fun k => w.heap.size ≤ k) v mw (.slice none 0 0) (newS n.toNat (max 1 p)) ∧ Chg Non w w' := by
  obtain ⟨N, hN⟩ : ∃ N, N = n.toNat := ⟨_, rfl⟩
  rw [← hN]
  obtain ⟨P, hP⟩ : ∃ P, P = max 1 p := ⟨_, rfl⟩
  rw [← hP]
  have HNN := hide hN
  have HP1 := fun h : p < 1 => hide (show 1 = P by omega)
  have HP2 := fun h : 1 ≤ p => hide (show p = P by omega)
  clear hN hP
  go_enter Try.func7, Try.ntmps7
  go_upto_if 8 with fail
  generalize hW0 : World.alloc _ _ = W0
  go_cut [1] from 9 (fun v wx => wx = W0 ∧ v = .int .i64 P)
  case first =>
    by_cases h4 : p < 1
    · have HP := HP1 h4
      go_wp2_with fail
      go_meet
      case rel => exact ⟨rfl, by rw [← HP.out]⟩
    · have HP := HP2 (by omega)
      go_wp2_with fail
      go_meet
      case rel => exact ⟨rfl, by rw [← HP.out]⟩
  case rest =>
    obtain ⟨rfl, rfl⟩ := hcut
    have hb4 : Blk wc w.heap.size 30 #[.int .i64 0, .bool false, .bool false, .int .u64 0, .string ⟨#[]⟩, .int .u64 0, .int .i64 0, .slice none 0 0, .slice none 0 0] := hW0 ▸ Blk.new w _ _
    have k4 : Chg Non w wc := hW0 ▸ (Chg.refl Non w).alloc _
    have hsz : w.heap.size < wc.heap.size := hb4.lt
    clear hW0 HP1 HP2
    obtain ⟨G4, hG4⟩ : ∃ G4, G4 = w.heap.size := ⟨_, rfl⟩
    rw [← hG4] at hb4 hsz ⊢
    have HG4 := hide hG4
    have K4 := hide k4
    have HSZ := hide hsz
    clear k4 hG4 hsz
    have hb5 := Blk.new wc 30 #[.int .i64 P, .bool false, .bool false, .int .u64 0, .string ⟨#[]⟩, .int .u64 0, .int .i64 0, .slice none 0 0, .slice none 0 0]
    have k5 := (Chg.refl Non wc).alloc (.cells #[.int .i64 P, .bool false, .bool false, .int .u64 0, .string ⟨#[]⟩, .int .u64 0, .int .i64 0, .slice none 0 0, .slice none 0 0] 30)
    have hb45 := hb4.c0 k5
    go_wp2_with fail
    go_loopw [6] (fun iv wr => ∃ (k : Nat) (mw : Value), iv = .int .i64 (k : Int) ∧ k ≤ N ∧ Blk wr G4 30 #[.int .i64 0, .bool false, .bool false, .int .u64 0, .string ⟨#[]⟩, .int .u64 0, .int .i64 0, .slice none 0 0, .slice none 0 0] ∧ Blk wr wc.heap.size 30 #[.int .i64 P, .bool false, .bool false, .int .u64 0, .string ⟨#[]⟩, .int .u64 0, .int .i64 0, mw, .slice none 0 0] ∧ wr.ownsRow (wc.heap.size + 1) 65 2 mw (List.replicate k none).length (mks (List.replicate k none)) ∧ Chg Non wc wr) (fun iv _ => N - (intOf iv).toNat)
    case atStart => exact ⟨0, .slice none 0 0, rfl, Nat.zero_le _, hb45, hb5, World.ownsRow_nil _ _ _ _, k5⟩
    case round =>
      obtain ⟨k, mw, rfl, hk, x4, x5, hO, hcw⟩ := hrel
      by_cases h1 : k < N
      · have hd1 : decide ((k : Int) < n) = true := decide_eq_true (by have := HNN.out; omega)
        have hk20 : k ≤ 20 := by have := HNN.out; omega
        have f7 := x5.frozen 7
        have c7 := x5.cell 7
        simp at c7
        have z5 := x5.lt
        have hl := Blk.new wr 65 #[.bool false, .int .u64 0]
        have hO2 := World.ownsRow.alloc hO (.cells #[.bool false, .int .u64 0] 65)
        have hle : (List.replicate k (none : Option Nat)).length ≤ 1000000 := by rw [List.length_replicate]; have := HNN.out; omega
        have z6 : wc.heap.size + 1 ≤ (wr.alloc (.cells #[.bool false, .int .u64 0] 65)).heap.size := by
          have := (x5.al (.cells #[.bool false, .int .u64 0] 65)).lt
          exact this
        have hlt := World.ownsRow.lt hO
        have hne5 : ∀ j, mw.ownBlock = some j → j ≠ wc.heap.size := fun j hj => by have := (hlt j hj).1; omega
        have hne4 : ∀ j, mw.ownBlock = some j → j ≠ G4 := fun j hj => by have := (hlt j hj).1; have := HSZ.out; omega
        have HLT := hide (show ∀ j, mw.ownBlock = some j → wc.heap.size ≤ j from fun j hj => by have := (hlt j hj).1; omega)
        clear hlt z5
        go_wp2_with (at_builtin; refine append_mark rfl _ _ rfl hO2 rfl hl rfl hle z6 ?_; intro v1 w1 hown1 hg1 hat1; have y5 := blk_grown x5 hg1 hne5; have f7 := y5.frozen 7; have c7 : w1.cell? ⟨wc.heap.size, 7, none⟩ = some mw := y5.cell 7; obtain ⟨A1, n1, k1, e1⟩ := row_slc hown1; subst e1)
        have y4 := blk_grown x4 hg1 hne4
        have z1 := hown1
        go_round
        case rel =>
          refine ⟨k + 1, _, by go_num, by omega, y4.far (p := ⟨wc.heap.size, 7, none⟩) (by have := HSZ.out; simp; omega) _, by have := y5.set_ 7 (.slice A1 n1 k1); rw [rset7] at this; exact this, ?_, ?_⟩
          · have e1 : List.replicate k (none : Option Nat) ++ [none] = List.replicate (k + 1) none := by rw [List.replicate_succ']
            rw [e1] at hown1
            exact ownsRow_chg hown1 ((Chg.refl (fun j => j = wc.heap.size) w1).setCell (p := ⟨wc.heap.size, 7, none⟩) (fun _ => rfl) _) fun j hj e => by
              rcases hat1 with e2 | e2
              · exact hne5 j (e2 ▸ hj) e
              · rw [e2] at hj; injection hj with hj; omega
          · have k1 := ((hcw.mono (S' := fun j => wc.heap.size ≤ j) fun _ _ h => h.elim).alloc (.cells #[.bool false, .int .u64 0] 65)).grown hg1 fun j hj _ => HLT.out j hj
            exact (k1.setCell (p := ⟨wc.heap.size, 7, none⟩) (fun _ => Nat.le_refl _) _).mono fun j h1 h2 => by omega
        case measure => simp [intOf]; omega
      · have hd1 : decide ((k : Int) < n) = false := decide_eq_false (by have := HNN.out; omega)
        obtain rfl : k = N := by omega
        obtain ⟨a0, a1, a2, a3, a4, a5, a6, a7, a8⟩ := blk9 x5
        obtain ⟨b0, b1, b2, b3, b4, b5, b6, b7, b8⟩ := blk9 x4
        obtain ⟨f0, f1, f2, f3, f4, f5, f6, f7, f8⟩ := frz9 x4
        obtain ⟨A1, n1, k1, e1⟩ := row_slc hO
        subst e1
        have hp9 := put9 x4 (.int .i64 P) (.bool false) (.bool false) (.int .u64 0) (.string ⟨#[]⟩) (.int .u64 0) (.int .i64 0) (.slice A1 n1 k1) (.slice none 0 0)
        go_wp2_with fail
        obtain ⟨hB9, hC9⟩ := hp9
        generalize World.setCell _ _ _ = w9 at hB9 hC9 ⊢
        clear a0 a1 a2 a3 a4 a5 a6 a7 a8 b0 b1 b2 b3 b4 b5 b6 b7 b8 f0 f1 f2 f3 f4 f5 f6 f7 f8
        obtain ⟨a0, a1, a2, a3, a4, a5, a6, a7, a8⟩ := blk9 hB9
        refine bodyPost_ret (v := .agg #[.int .i64 P, .bool false, .bool false, .int .u64 0, .string ⟨#[]⟩, .int .u64 0, .int .i64 0, .slice A1 n1 k1, .slice none 0 0]) (by simp [results, Try.results7, go_sem, a0, a1, a2, a3, a4, a5, a6, a7, a8]) rfl ?_
        refine ⟨_, .slice A1 n1 k1, rfl, ⟨rfl, ?_, RdV.nil_ _ _ _, by simp [newS], by have := HNN.out; simp only [newS]; omega⟩, ?_⟩
        · have h1 := (RdV.of_own hO).chg hC9 fun j hj e => by have := (World.ownsRow.lt hO j hj).1; have := HSZ.out; omega
          have e1 : (newS k P).n = (List.replicate k (none : Option Nat)).length := by simp [newS]
          rw [e1]
          exact h1.mono fun j hj => by have := (World.ownsRow.lt hO j hj).1; have := HSZ.out; have := HG4.out; omega
        · exact (K4.out.trans0 hcw).trans hC9 fun j h1 h2 => by have := HG4.out; omega
end Go.Proofs.Ytlcnlcjfnpicgaa
