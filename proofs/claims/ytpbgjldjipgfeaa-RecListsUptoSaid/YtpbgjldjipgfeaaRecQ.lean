/- The walks of rec's closures that take triples, and what a record under way is in memory. -/
import Derived.Test.YtpbgjldjipgfeaaRecP
import Derived.Test.YtpbgjldjipgfeaaRecN
import Derived.StillTailTactics
namespace Go.Proofs.Ytpbgjldjipgfeaa
open Go.RowKit
set_option linter.unusedVariables false

/-- the cells of a list of writes -/
def flW (xs : List (Value × Value)) (l : List WrS) : List Value := (xs.zip l).flatMap fun p => [p.1.1, p.1.2, .bool p.2.f]
theorem flW_snoc (xs : List (Value × Value)) (l : List WrS) (x : Value × Value) (y : WrS) (h : xs.length = l.length) : flW (xs ++ [x]) (l ++ [y]) = flW xs l ++ [x.1, x.2, .bool y.f] := by
  rw [flW, List.zip_append h, List.flatMap_append]; rfl
theorem flW_len (xs : List (Value × Value)) (l : List WrS) (h : xs.length = l.length) : (flW xs l).length = l.length * 3 := by
  rw [flW]
  have : ∀ m : List ((Value × Value) × WrS), (m.flatMap fun p => [p.1.1, p.1.2, Value.bool p.2.f]).length = m.length * 3 := by
    intro m
    induction m with
    | nil => rfl
    | cons a m ih => simp only [List.flatMap_cons, List.length_append, List.length_cons, List.length_nil, ih]; omega
  rw [this, List.length_zip, h, Nat.min_self]

theorem info_W1 : (Try.prog.info? 49).map (fun i => (i.zero, i.size, i.bytes)) = some (some (.agg #[.slice none 0 0, .slice none 0 0, .bool false]), 3, 56) := by kernel_rfl
/-- append of one element of three cells, that stands in a literal's block -/
theorem append_W1 {w : World} {ops : Array Oper} {rest : List Oper} {o : Oper} {a : Act} {Q : Exit → Act → World → Prop} (hgd : o.guard = none) (s x : Operand)
    (ho : o.op = .call { callee := .builtin .append, args := #[s, x], argTypes := #[25, 25] })
    {base : Nat} {v : Value} {xs : List Value} {n : Nat} (hown : w.ownsRow base 49 3 v n xs) (hv : a.eval s = v)
    {A B : Option Addr} {an ac bn bc : Nat} {f : Bool} {g : Nat} (hg : Blk w g 49 #[.slice A an ac, .slice B bn bc, .bool f]) (hy : a.eval x = .slice (some ⟨g, 0, none⟩) 1 1)
    (hb : n + 1 ≤ 1000000000000) (hbase : base ≤ w.heap.size)
    (h : ∀ v' w', w'.ownsRow base 49 3 v' (n + 1) (xs ++ [.slice A an ac, .slice B bn bc, .bool f]) → w.grownBy w' v.ownBlock → (v'.ownBlock = v.ownBlock ∨ v'.ownBlock = some w.heap.size) → wpList Try.prog ops Q rest (a.put o.dst v') w') : wpList Try.prog ops Q (o :: rest) a w := by
  obtain ⟨i, hi, hz, h1, h2⟩ := info_parts info_W1
  have hr : RdV w (fun _ => True) 3 (.slice (some ⟨g, 0, none⟩) 1 1) 1 [.slice A an ac, .slice B bn bc, .bool f] := ⟨rfl, _, 1, rfl, Nat.le_refl _, by simp [maxLen], fun _ => ⟨_, rfl, trivial, fun j y hyj => by
    rw [add_none, hg.cell]
    match j, hyj with
    | 0, hyj => simpa using hyj
    | 1, hyj => simpa using hyj
    | 2, hyj => simpa using hyj
    | j + 3, hyj => simp at hyj⟩⟩
  refine wpList_append_rd w hgd s x _ ho base 49 i _ 3 56 Try.underlying25 hi hz h1 h2 rfl (by omega) v hv _ _ hown _ _ hy _ _ hr (fun y hy => by simp at hy; rcases hy with rfl | rfl | rfl <;> rfl) (by simp only [maxLen]; omega) (by omega) hbase ?_
  intro v' w' hown' hgr _ hat
  exact h v' w' hown' hgr hat
/-- the same in a region that draws its order -/
theorem step_W1 {w : World} {ops : Array Oper} {o : Oper} {a : Act} {K : Act → World → Prop} {Q : Exit → Act → World → Prop} {E : Prop} (hgd : o.guard = none) (s x : Operand)
    (ho : o.op = .call { callee := .builtin .append, args := #[s, x], argTypes := #[25, 25] })
    {base : Nat} {v : Value} {xs : List Value} {n : Nat} (hown : w.ownsRow base 49 3 v n xs) (hv : a.eval s = v)
    {A B : Option Addr} {an ac bn bc : Nat} {f : Bool} {g : Nat} (hg : Blk w g 49 #[.slice A an ac, .slice B bn bc, .bool f]) (hy : a.eval x = .slice (some ⟨g, 0, none⟩) 1 1)
    (hb : n + 1 ≤ 1000000000000) (hbase : base ≤ w.heap.size)
    (h : ∀ v' w', w'.ownsRow base 49 3 v' (n + 1) (xs ++ [.slice A an ac, .slice B bn bc, .bool f]) → w.grownBy w' v.ownBlock → (v'.ownBlock = v.ownBlock ∨ v'.ownBlock = some w.heap.size) → K (a.put o.dst v') w') :
    if Region.wanted o (yielded ops a.tmps) = true then Oper.wp Try.prog o a w K Q else E := by
  have hw : Region.wanted o (yielded ops a.tmps) = true := by simp [Region.wanted, hgd]
  rw [if_pos hw]
  obtain ⟨i, hi, hz, h1, h2⟩ := info_parts info_W1
  have hr : RdV w (fun _ => True) 3 (.slice (some ⟨g, 0, none⟩) 1 1) 1 [.slice A an ac, .slice B bn bc, .bool f] := ⟨rfl, _, 1, rfl, Nat.le_refl _, by simp [maxLen], fun _ => ⟨_, rfl, trivial, fun j y hyj => by
    rw [add_none, hg.cell]
    match j, hyj with
    | 0, hyj => simpa using hyj
    | 1, hyj => simpa using hyj
    | 2, hyj => simpa using hyj
    | j + 3, hyj => simp at hyj⟩⟩
  subst hv
  rw [← hy] at hr
  refine wp_append_rd w s x _ ho base 49 i _ 3 56 Try.underlying25 hi hz h1 h2 rfl (by omega) _ _ hown _ _ _ hr (fun y hy => by simp at hy; rcases hy with rfl | rfl | rfl <;> rfl) (by simp only [maxLen]; omega) (by omega) hbase ?_
  intro v' w' hown' hgr _ hat
  exact h v' w' hown' hgr hat

set_option maxHeartbeats 4000000 in
set_option maxRecDepth 100000 in
theorem recTakeW {w : World} {t o base n : Nat} {c0 c1 c2 c3 c4 c5 c6 c7 c8 c9 c10 a b : Value} {xs : List Value} {f : Bool} {ty : TypeId} (ht : Blk w t ty #[.pointer (some ⟨o, 0, none⟩)])
    (ho : Blk w o 32 #[c0, c1, c2, c3, c4, c5, c6, c7, c8, c9, c10]) (hown : w.ownsRow base 49 3 c4 n xs) (ha : ∃ A n c, a = .slice A n c) (hb : ∃ A n c, b = .slice A n c) (hn : n ≤ 1000000000) (hbase : base ≤ w.heap.size) (hob : o < base) (HT : ¬ (some t = c4.ownBlock)) :
    Calls Try.prog 54 #[.bool f, a, b, .pointer (some ⟨t, 0, none⟩)] w fun e w' => e = .returned (.tuple #[]) ∧ ∃ v', Blk w' o 32 #[c0, c1, c2, c3, v', c5, c6, c7, c8, c9, c10] ∧ w'.ownsRow base 49 3 v' (n + 1) (xs ++ [a, b, .bool f]) ∧ Chg (fun k => k = o ∨ some k = c4.ownBlock) w w' ∧ (v'.ownBlock = c4.ownBlock ∨ ∀ k, v'.ownBlock = some k → w.heap.size ≤ k) := by
  obtain ⟨A, an, ac, rfl⟩ := ha
  obtain ⟨B, bn, bc, rfl⟩ := hb
  have d0 := ht.cell 0
  have d1 := ho.cell 4
  have f1 := ho.frozen 4
  simp at d0 d1
  have HO := hide ho
  have HW := hide hown
  clear ho hown
  go_enter Try.func54, Try.ntmps54
  go_wp2_with fail
  have hk1 := (Chg.refl Non w).drew.alloc (.cells #[.slice A an ac, .slice B bn bc, .bool f] 49)
  have a0 : (w.alloc (.cells #[.slice A an ac, .slice B bn bc, .bool f] 49)).cell? ⟨t, 0, none⟩ = some (.pointer (some ⟨o, 0, none⟩)) := cell_al d0
  have a1 : (w.alloc (.cells #[.slice A an ac, .slice B bn bc, .bool f] 49)).cell? ⟨o, 4, none⟩ = some c4 := cell_al d1
  have HO1 := hide (HO.out.c0 hk1)
  have hown1 := row_chg HW.out hk1 fun _ _ h => h
  have hbl := Blk.new w.drew 49 #[.slice A an ac, .slice B bn bc, .bool f]
  have hs1 : base ≤ (w.drew.alloc (.cells #[.slice A an ac, .slice B bn bc, .bool f] 49)).heap.size := Nat.le_trans hbase hk1.size
  have hn9 : n + 1 ≤ 1000000000000 := by omega
  have hno : ¬ (some o = c4.ownBlock) := fun e => by have := (World.ownsRow.lt HW.out o e.symm).1; omega
  have hnt : ¬ (some t = c4.ownBlock) := HT
  go_region_law (first
    | (refine step_W1 rfl _ _ rfl hown1 rfl hbl rfl hn9 hs1 ?_; intro v3 w3 hO3 hg3 hat3; obtain ⟨A3, n3, k3, rfl⟩ := RdV.sl (RdV.of_own hO3); have b0 := (Chg.of_grown hg3).cell a0 hnt; have b1 := (Chg.of_grown hg3).cell a1 hno; have HB3 := hide (HO1.out.chg (Chg.of_grown hg3) hno); have g1 := HB3.out.frozen 4))
  all_goals
    have hx := (Chg.refl (fun j => j = o) w3).setCell (p := ⟨o, 4, none⟩) (fun _ => rfl) (.slice A3 n3 k3)
    have hb4 := HB3.out.set_ 4 (.slice A3 n3 k3)
    simp only [List.setIfInBounds_toArray, List.set_cons_succ, List.set_cons_zero] at hb4
    have hO4 := row_chg hO3 hx fun j hj e => by have := (World.ownsRow.lt hO3 j hj).1; omega
    refine bodyPost_end (results_none rfl _ _ _) rfl ⟨rfl, .slice A3 n3 k3, hb4, hO4, ((hk1.mono (S' := fun k => k = o ∨ some k = c4.ownBlock) fun _ _ h => h.elim).grown hg3 (fun k hk _ => .inr hk.symm)).trans hx (fun _ _ h => .inl h), ?_⟩
    rcases hat3 with h | h
    · exact .inl h
    · exact .inr fun k hk => by rw [h] at hk; injection hk with hk; rw [← hk]; exact hk1.size

theorem info_R1 : (Try.prog.info? 63).map (fun i => (i.zero, i.size, i.bytes)) = some (some (.agg #[.slice none 0 0, .slice none 0 0, .bool false]), 3, 56) := by kernel_rfl
/-- append of one element of three cells, that stands in a literal's block -/
theorem append_R1 {w : World} {ops : Array Oper} {rest : List Oper} {o : Oper} {a : Act} {Q : Exit → Act → World → Prop} (hgd : o.guard = none) (s x : Operand)
    (ho : o.op = .call { callee := .builtin .append, args := #[s, x], argTypes := #[26, 26] })
    {base : Nat} {v : Value} {xs : List Value} {n : Nat} (hown : w.ownsRow base 63 3 v n xs) (hv : a.eval s = v)
    {A B : Option Addr} {an ac bn bc : Nat} {f : Bool} {g : Nat} (hg : Blk w g 63 #[.slice A an ac, .slice B bn bc, .bool f]) (hy : a.eval x = .slice (some ⟨g, 0, none⟩) 1 1)
    (hb : n + 1 ≤ 1000000000000) (hbase : base ≤ w.heap.size)
    (h : ∀ v' w', w'.ownsRow base 63 3 v' (n + 1) (xs ++ [.slice A an ac, .slice B bn bc, .bool f]) → w.grownBy w' v.ownBlock → (v'.ownBlock = v.ownBlock ∨ v'.ownBlock = some w.heap.size) → wpList Try.prog ops Q rest (a.put o.dst v') w') : wpList Try.prog ops Q (o :: rest) a w := by
  obtain ⟨i, hi, hz, h1, h2⟩ := info_parts info_R1
  have hr : RdV w (fun _ => True) 3 (.slice (some ⟨g, 0, none⟩) 1 1) 1 [.slice A an ac, .slice B bn bc, .bool f] := ⟨rfl, _, 1, rfl, Nat.le_refl _, by simp [maxLen], fun _ => ⟨_, rfl, trivial, fun j y hyj => by
    rw [add_none, hg.cell]
    match j, hyj with
    | 0, hyj => simpa using hyj
    | 1, hyj => simpa using hyj
    | 2, hyj => simpa using hyj
    | j + 3, hyj => simp at hyj⟩⟩
  refine wpList_append_rd w hgd s x _ ho base 63 i _ 3 56 Try.underlying26 hi hz h1 h2 rfl (by omega) v hv _ _ hown _ _ hy _ _ hr (fun y hy => by simp at hy; rcases hy with rfl | rfl | rfl <;> rfl) (by simp only [maxLen]; omega) (by omega) hbase ?_
  intro v' w' hown' hgr _ hat
  exact h v' w' hown' hgr hat
/-- the same in a region that draws its order -/
theorem step_R1 {w : World} {ops : Array Oper} {o : Oper} {a : Act} {K : Act → World → Prop} {Q : Exit → Act → World → Prop} {E : Prop} (hgd : o.guard = none) (s x : Operand)
    (ho : o.op = .call { callee := .builtin .append, args := #[s, x], argTypes := #[26, 26] })
    {base : Nat} {v : Value} {xs : List Value} {n : Nat} (hown : w.ownsRow base 63 3 v n xs) (hv : a.eval s = v)
    {A B : Option Addr} {an ac bn bc : Nat} {f : Bool} {g : Nat} (hg : Blk w g 63 #[.slice A an ac, .slice B bn bc, .bool f]) (hy : a.eval x = .slice (some ⟨g, 0, none⟩) 1 1)
    (hb : n + 1 ≤ 1000000000000) (hbase : base ≤ w.heap.size)
    (h : ∀ v' w', w'.ownsRow base 63 3 v' (n + 1) (xs ++ [.slice A an ac, .slice B bn bc, .bool f]) → w.grownBy w' v.ownBlock → (v'.ownBlock = v.ownBlock ∨ v'.ownBlock = some w.heap.size) → K (a.put o.dst v') w') :
    if Region.wanted o (yielded ops a.tmps) = true then Oper.wp Try.prog o a w K Q else E := by
  have hw : Region.wanted o (yielded ops a.tmps) = true := by simp [Region.wanted, hgd]
  rw [if_pos hw]
  obtain ⟨i, hi, hz, h1, h2⟩ := info_parts info_R1
  have hr : RdV w (fun _ => True) 3 (.slice (some ⟨g, 0, none⟩) 1 1) 1 [.slice A an ac, .slice B bn bc, .bool f] := ⟨rfl, _, 1, rfl, Nat.le_refl _, by simp [maxLen], fun _ => ⟨_, rfl, trivial, fun j y hyj => by
    rw [add_none, hg.cell]
    match j, hyj with
    | 0, hyj => simpa using hyj
    | 1, hyj => simpa using hyj
    | 2, hyj => simpa using hyj
    | j + 3, hyj => simp at hyj⟩⟩
  subst hv
  rw [← hy] at hr
  refine wp_append_rd w s x _ ho base 63 i _ 3 56 Try.underlying26 hi hz h1 h2 rfl (by omega) _ _ hown _ _ _ hr (fun y hy => by simp at hy; rcases hy with rfl | rfl | rfl <;> rfl) (by simp only [maxLen]; omega) (by omega) hbase ?_
  intro v' w' hown' hgr _ hat
  exact h v' w' hown' hgr hat

set_option maxHeartbeats 4000000 in
set_option maxRecDepth 100000 in
theorem recTakeR {w : World} {t o base n : Nat} {c0 c1 c2 c3 c4 c5 c6 c7 c8 c9 c10 a b : Value} {xs : List Value} {f : Bool} {ty : TypeId} (ht : Blk w t ty #[.pointer (some ⟨o, 0, none⟩)])
    (ho : Blk w o 32 #[c0, c1, c2, c3, c4, c5, c6, c7, c8, c9, c10]) (hown : w.ownsRow base 63 3 c5 n xs) (ha : ∃ A n c, a = .slice A n c) (hb : ∃ A n c, b = .slice A n c) (hn : n ≤ 1000000000) (hbase : base ≤ w.heap.size) (hob : o < base) (HT : ¬ (some t = c5.ownBlock)) :
    Calls Try.prog 55 #[.bool f, a, b, .pointer (some ⟨t, 0, none⟩)] w fun e w' => e = .returned (.tuple #[]) ∧ ∃ v', Blk w' o 32 #[c0, c1, c2, c3, c4, v', c6, c7, c8, c9, c10] ∧ w'.ownsRow base 63 3 v' (n + 1) (xs ++ [a, b, .bool f]) ∧ Chg (fun k => k = o ∨ some k = c5.ownBlock) w w' ∧ (v'.ownBlock = c5.ownBlock ∨ ∀ k, v'.ownBlock = some k → w.heap.size ≤ k) := by
  obtain ⟨A, an, ac, rfl⟩ := ha
  obtain ⟨B, bn, bc, rfl⟩ := hb
  have d0 := ht.cell 0
  have d1 := ho.cell 5
  have f1 := ho.frozen 5
  simp at d0 d1
  have HO := hide ho
  have HW := hide hown
  clear ho hown
  go_enter Try.func55, Try.ntmps55
  go_wp2_with fail
  have hk1 := (Chg.refl Non w).drew.alloc (.cells #[.slice A an ac, .slice B bn bc, .bool f] 63)
  have a0 : (w.alloc (.cells #[.slice A an ac, .slice B bn bc, .bool f] 63)).cell? ⟨t, 0, none⟩ = some (.pointer (some ⟨o, 0, none⟩)) := cell_al d0
  have a1 : (w.alloc (.cells #[.slice A an ac, .slice B bn bc, .bool f] 63)).cell? ⟨o, 5, none⟩ = some c5 := cell_al d1
  have HO1 := hide (HO.out.c0 hk1)
  have hown1 := row_chg HW.out hk1 fun _ _ h => h
  have hbl := Blk.new w.drew 63 #[.slice A an ac, .slice B bn bc, .bool f]
  have hs1 : base ≤ (w.drew.alloc (.cells #[.slice A an ac, .slice B bn bc, .bool f] 63)).heap.size := Nat.le_trans hbase hk1.size
  have hn9 : n + 1 ≤ 1000000000000 := by omega
  have hno : ¬ (some o = c5.ownBlock) := fun e => by have := (World.ownsRow.lt HW.out o e.symm).1; omega
  have hnt : ¬ (some t = c5.ownBlock) := HT
  go_region_law (first
    | (refine step_R1 rfl _ _ rfl hown1 rfl hbl rfl hn9 hs1 ?_; intro v3 w3 hO3 hg3 hat3; obtain ⟨A3, n3, k3, rfl⟩ := RdV.sl (RdV.of_own hO3); have b0 := (Chg.of_grown hg3).cell a0 hnt; have b1 := (Chg.of_grown hg3).cell a1 hno; have HB3 := hide (HO1.out.chg (Chg.of_grown hg3) hno); have g1 := HB3.out.frozen 5))
  all_goals
    have hx := (Chg.refl (fun j => j = o) w3).setCell (p := ⟨o, 5, none⟩) (fun _ => rfl) (.slice A3 n3 k3)
    have hb4 := HB3.out.set_ 5 (.slice A3 n3 k3)
    simp only [List.setIfInBounds_toArray, List.set_cons_succ, List.set_cons_zero] at hb4
    have hO4 := row_chg hO3 hx fun j hj e => by have := (World.ownsRow.lt hO3 j hj).1; omega
    refine bodyPost_end (results_none rfl _ _ _) rfl ⟨rfl, .slice A3 n3 k3, hb4, hO4, ((hk1.mono (S' := fun k => k = o ∨ some k = c5.ownBlock) fun _ _ h => h.elim).grown hg3 (fun k hk _ => .inr hk.symm)).trans hx (fun _ _ h => .inl h), ?_⟩
    rcases hat3 with h | h
    · exact .inl h
    · exact .inr fun k hk => by rw [h] at hk; injection hk with hk; rw [← hk]; exact hk1.size
end Go.Proofs.Ytpbgjldjipgfeaa
