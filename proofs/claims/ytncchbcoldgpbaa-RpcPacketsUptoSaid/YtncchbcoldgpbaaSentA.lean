/- groynelaw19.Answer: an answer of its own. -/
import Derived.Test.YtncchbcoldgpbaaSnM
import Derived.Deep.Cut
import Derived.Deep.CutRange
namespace Go.Proofs.Ytncchbcoldgpbaa
open Go.RowKit
set_option linter.unusedVariables false
set_option linter.unusedSimpArgs false

/-- two may come up -/
theorem AnyT.two {P : Program} {ops : Array Oper} {Q : Exit → Act → World → Prop} {md : Region.Mode} {S : World → Prop} {L : Nat} {i j : Nat} {oi oj : Oper} {n : Nat} {done : Array Bool} {a : Act} {w : World} (hr : Region.ready md ops done = [i, j]) (hoi : ops[i]? = some oi) (hoj : ops[j]? = some oj)
    (hi : ∀ K : Act → World → Prop, Hid (∀ a1 w1, (i < L → S w1) → AnyT P md ops Q S L n (done.setIfInBounds i true) a1 w1 → K a1 w1) → if Region.wanted oi (yielded ops a.tmps) = true then Oper.wp P oi a w K Q else K (a.put oi.dst undef) w)
    (hj : ∀ K : Act → World → Prop, Hid (∀ a1 w1, (j < L → S w1) → AnyT P md ops Q S L n (done.setIfInBounds j true) a1 w1 → K a1 w1) → if Region.wanted oj (yielded ops a.tmps) = true then Oper.wp P oj a w K Q else K (a.put oj.dst undef) w) :
    AnyT P md ops Q S L (n + 1) done a w := by
  refine ⟨fun e => (by rw [hr] at e; cases e), fun k hk => ?_⟩
  rw [hr] at hk
  rcases List.mem_cons.1 hk with rfl | hk
  · exact wpOp_step hoi fun K hK => hi K (hide fun a1 w1 h1 h2 => hK a1 w1 ⟨h1, h2⟩)
  · cases List.mem_singleton.1 hk
    exact wpOp_step hoj fun K hK => hj K (hide fun a1 w1 h1 h2 => hK a1 w1 ⟨h1, h2⟩)
def ansA (x : AnsS) (vr vw vp : Value) : Array Value := #[.int .i64 x.kind, .int .u64 (x.inc : Int), .int .u64 (x.boot : Int), .int .u64 (x.tb : Int), .int .u64 (x.ts : Int), .int .u64 (x.tq : Int), .int .u64 (x.id : Int), .int .i64 x.err, .int .i64 x.out.err, .int .i64 x.out.at_, vr, vw, .bool x.commit, vp, .int .u64 (x.at_ : Int)]
/-- its outcome not yet laid -/
def ans0 (x : AnsS) (vp : Value) : Array Value := #[.int .i64 x.kind, .int .u64 (x.inc : Int), .int .u64 (x.boot : Int), .int .u64 (x.tb : Int), .int .u64 (x.ts : Int), .int .u64 (x.tq : Int), .int .u64 (x.id : Int), .int .i64 x.err, .int .i64 0, .int .i64 0, .slice none 0 0, .slice none 0 0, .bool x.commit, vp, .int .u64 (x.at_ : Int)]
def zeroN : Array Value := #[.int .i64 0, .int .u64 0, .int .u64 0, .int .u64 0, .int .u64 0, .int .u64 0, .int .u64 0, .int .i64 0, .int .i64 0, .int .i64 0, .slice none 0 0, .slice none 0 0, .bool false, .slice none 0 0, .int .u64 0]
theorem info_ans : (Try.prog.info? 45).map (·.size) = some 15 := by kernel_rfl

theorem info_out : (Try.prog.info? 43).map (·.size) = some 4 := by kernel_rfl
theorem ans_mid {w : World} {g : Nat} {x : AnsS} {u : Value} (h : Blk w g 45 (ans0 x u)) : Blk (w.setCells g 8 [.int .i64 x.out.err, .int .i64 x.out.at_, .slice none 0 0, .slice none 0 0]) g 45 (ansA x (.slice none 0 0) (.slice none 0 0) u) ∧
    Chg (fun k => k = g) w (w.setCells g 8 [.int .i64 x.out.err, .int .i64 x.out.at_, .slice none 0 0, .slice none 0 0]) :=
  setCells_blk [.int .i64 x.out.err, .int .i64 x.out.at_, .slice none 0 0, .slice none 0 0] ((ans0 x u).toList.take 8) (((ans0 x u).toList.drop 8).take 4) ((ans0 x u).toList.drop 12) w rfl h
/-- append of one pair, in a region that draws its order -/
theorem app_R {w : World} {o : Oper} {a : Act} {K : Act → World → Prop} {Q : Exit → Act → World → Prop} (s x : Operand)
    (ho : o.op = .call { callee := .builtin .append, args := #[s, x], argTypes := #[89, 89] })
    {base : Nat} {v : Value} {xs : List Value} {n : Nat} (hown : w.ownsRow base 88 2 v n xs) (hv : a.eval s = v)
    {y : Value} {F : Nat → Prop} {news : List Value} (hr : RdV w F 2 y 1 news) (hy : a.eval x = y) (h1 : ∀ u ∈ news, u.oneCell' = true)
    (hb : n + 1 ≤ 1000000000000) (hbase : base ≤ w.heap.size)
    (h : ∀ v' w', w'.ownsRow base 88 2 v' (n + 1) (xs ++ news) → w.grownBy w' v.ownBlock → (v'.ownBlock = v.ownBlock ∨ v'.ownBlock = some w.heap.size) → K (a.put o.dst v') w') : o.wp Try.prog a w K Q := by
  obtain ⟨i, hi, hz, h2, h3⟩ := info_parts info_pair
  subst hv; subst hy
  refine wp_append_rd w s x _ ho base 88 i _ 2 48 Try.underlying89 hi hz h2 h3 rfl (by omega) _ _ hown _ _ _ hr h1 (by simp only [maxLen]; omega) (by omega) hbase ?_
  intro v' w' hown' hgr _ hat
  exact h v' w' hown' hgr hat
theorem app_W {w : World} {o : Oper} {a : Act} {K : Act → World → Prop} {Q : Exit → Act → World → Prop} (s x : Operand)
    (ho : o.op = .call { callee := .builtin .append, args := #[s, x], argTypes := #[30, 30] })
    {base : Nat} {v : Value} {xs : List Value} {n : Nat} (hown : w.ownsRow base 125 3 v n xs) (hv : a.eval s = v)
    {y : Value} {F : Nat → Prop} {news : List Value} (hr : RdV w F 3 y 1 news) (hy : a.eval x = y) (h1 : ∀ u ∈ news, u.oneCell' = true)
    (hb : n + 1 ≤ 1000000000000) (hbase : base ≤ w.heap.size)
    (h : ∀ v' w', w'.ownsRow base 125 3 v' (n + 1) (xs ++ news) → w.grownBy w' v.ownBlock → (v'.ownBlock = v.ownBlock ∨ v'.ownBlock = some w.heap.size) → K (a.put o.dst v') w') : o.wp Try.prog a w K Q := by
  obtain ⟨i, hi, hz, h2, h3⟩ := info_parts info_write
  subst hv; subst hy
  refine wp_append_rd w s x _ ho base 125 i _ 3 56 Try.underlying30 hi hz h2 h3 rfl (by omega) _ _ hown _ _ _ hr h1 (by simp only [maxLen]; omega) (by omega) hbase ?_
  intro v' w' hown' hgr _ hat
  exact h v' w' hown' hgr hat
/-- append of one row, at the list of a plain region's operations -/
theorem appL_Rs {w : World} {ops : Array Oper} {rest : List Oper} {o : Oper} {a : Act} {Q : Exit → Act → World → Prop} (hgd : o.guard = none) (s x : Operand)
    (ho : o.op = .call { callee := .builtin .append, args := #[s, x], argTypes := #[29, 29] })
    {base : Nat} {v : Value} {xs : List Value} {n : Nat} (hown : w.ownsRow base 89 1 v n xs) (hv : a.eval s = v)
    {y : Value} {F : Nat → Prop} {news : List Value} (hr : RdV w F 1 y 1 news) (hy : a.eval x = y) (h1 : ∀ u ∈ news, u.oneCell' = true)
    (hb : n + 1 ≤ 1000000000000) (hbase : base ≤ w.heap.size)
    (h : ∀ v' w', w'.ownsRow base 89 1 v' (n + 1) (xs ++ news) → w.grownBy w' v.ownBlock → (v'.ownBlock = v.ownBlock ∨ v'.ownBlock = some w.heap.size) → wpList Try.prog ops Q rest (a.put o.dst v') w') : wpList Try.prog ops Q (o :: rest) a w := by
  obtain ⟨i, hi, hz, h2, h3⟩ := info_parts info_row
  refine wpList_append_rd w hgd s x _ ho base 89 i _ 1 24 Try.underlying29 hi hz h2 h3 rfl (by omega) v hv _ _ hown F y hy _ _ hr h1 (by simp only [maxLen]; omega) (by omega) hbase ?_
  intro v' w' hown' hgr _ hat
  exact h v' w' hown' hgr hat

theorem rowLowA {w : World} {base b sz n : Nat} {e : TypeId} {v : Value} {xs : List Value} (h : w.ownsRow base e sz v n xs) (hb : b ≤ base) : w.ownsRow b e sz v n xs := by
  refine ⟨h.1, ?_⟩
  rcases h.2 with hn | ⟨g', cap, cur, rfl, hg, rest⟩
  · exact .inl hn
  · exact .inr ⟨g', cap, cur, rfl, by omega, rest⟩
theorem HasW.low {w : World} {base b' : Nat} {v : Value} {l : List WrO} {xs : List (Value × Value)} (h : HasW w base v l xs) (hb : b' ≤ base) : HasW w b' v l xs := ⟨h.len, rowLowA h.row hb, h.own.low hb, h.apt⟩
theorem HasRs.low {w : World} {base b' : Nat} {v : Value} {l : List (List PairL)} {us : List Value} (h : HasRs w base v l us) (hb : b' ≤ base) : HasRs w b' v l us :=
  ⟨h.len, rowLowA h.row hb, fun i x r hx hr => (h.el i x r hx hr).mono fun k hk => ⟨⟨Nat.le_trans hb hk.1.1, hk.1.2⟩, hk.2⟩⟩
set_option maxHeartbeats 16000000 in
set_option maxRecDepth 100000 in
theorem ownAnswer {x : AnsS} {vr vw vp : Value} {F : Nat → Prop} {w : World} (hrr : RdRows w F vr x.out.rows) (hn : x.out.rows.length ≤ 1000000000) (hrl : ∀ r ∈ x.out.rows, r.length ≤ 1000000000 ∧ ∀ o ∈ r, o.1.length ≤ 1000000000 ∧ o.2.length ≤ 1000000000)
    (hww : RdWr w F vw x.out.ws) (hwn : x.out.ws.length ≤ 1000000000) (hwl : ∀ o ∈ x.out.ws, o.a.length ≤ 1000000000 ∧ o.b.length ≤ 1000000000) (hp : RdB w F vp x.reply) (hpl : x.reply.length ≤ 1000000000) (hF : ∀ k, F k → k < w.heap.size) :
    Calls Try.prog 24 #[.agg (ansA x vr vw vp)] w fun e w' => ∃ u1 u2 u3 : Value, e = .returned (.agg (ansA x u1 u2 u3)) ∧ (∃ us : List Value, HasRs w' w.heap.size u1 x.out.rows us) ∧ (∃ xs : List (Value × Value), HasW w' w.heap.size u2 x.out.ws xs) ∧ OwnB w' w.heap.size u3 x.reply ∧ Chg Non w w' := by
  obtain ⟨R, rn, rc, rfl⟩ : ∃ A m c, vr = .slice A m c := hrr.sl
  obtain ⟨V, vn, vc, rfl⟩ : ∃ A m c, vw = .slice A m c := by obtain ⟨xs, h1, h2, h3⟩ := hww; exact rdv_sl h2
  obtain ⟨P, pn, pc, rfl⟩ : ∃ A m c, vp = .slice A m c := by obtain ⟨A, c, e, _⟩ := hp.shape; exact ⟨A, _, c, e⟩
  obtain ⟨ar, har⟩ : ∃ ar, ar = ansA x (.slice R rn rc) (.slice V vn vc) (.slice P pn pc) := ⟨_, rfl⟩
  rw [← har]
  have hX := Blk.new w 34 ar
  have hcA := (Chg.refl Non w).alloc (.cells ar 34)
  have hsA : (w.alloc (.cells ar 34)).heap.size = w.heap.size + 1 := by simp
  have hY := Blk.new (w.alloc (.cells ar 34)) 45 zeroN
  have hcB := (Chg.refl Non (w.alloc (.cells ar 34))).alloc (.cells zeroN 45)
  have hXB := hX.c0 hcB
  have hcW := hcA.trans0 hcB
  rw [hsA] at hY
  clear hX hcA hcB
  have HAR := hide har
  clear har
  go_enter Try.func24, Try.ntmps24
  go_upto_region 1 with fail
  clear hsA
  obtain ⟨p, hpp⟩ : ∃ p, p = w.heap.size := ⟨_, rfl⟩
  obtain ⟨g, hg⟩ : ∃ g, g = w.heap.size + 1 := ⟨_, rfl⟩
  rw [← hg] at hY
  rw [← hpp] at hXB
  rw [← hg, ← hpp]
  generalize hw0 : World.alloc (World.alloc w (.cells ar _)) _ = w0
  rw [show (w.alloc (.cells ar 34)).alloc (.cells zeroN 45) = w0 from hw0] at hY hXB hcW
  clear hw0
  have HPG := hide (And.intro hpp hg)
  have hpg : p ≠ g := by omega
  clear hpp hg
  have hpD := (hp.c0 hcW).dr
  have hp0 := hp.c0 hcW
  have hcwD := hcW.drew
  obtain ⟨S, hSd⟩ : ∃ S : World → Prop, ∀ w', S w' ↔ (w'.cell? ⟨p, 0, none⟩ = some (.int .i64 x.kind) ∧ w'.cell? ⟨p, 1, none⟩ = some (.int .u64 (x.inc : Int)) ∧ w'.cell? ⟨p, 2, none⟩ = some (.int .u64 (x.boot : Int)) ∧ w'.cell? ⟨p, 3, none⟩ = some (.int .u64 (x.tb : Int)) ∧ w'.cell? ⟨p, 4, none⟩ = some (.int .u64 (x.ts : Int)) ∧ w'.cell? ⟨p, 5, none⟩ = some (.int .u64 (x.tq : Int)) ∧ w'.cell? ⟨p, 6, none⟩ = some (.int .u64 (x.id : Int)) ∧ w'.cell? ⟨p, 7, none⟩ = some (.int .i64 x.err) ∧ w'.cell? ⟨p, 8, none⟩ = some (.int .i64 x.out.err) ∧ w'.cell? ⟨p, 9, none⟩ = some (.int .i64 x.out.at_) ∧ w'.cell? ⟨p, 10, none⟩ = some (.slice R rn rc) ∧ w'.cell? ⟨p, 11, none⟩ = some (.slice V vn vc) ∧ w'.cell? ⟨p, 12, none⟩ = some (.bool x.commit) ∧ w'.cell? ⟨p, 13, none⟩ = some (.slice P pn pc) ∧ w'.cell? ⟨p, 14, none⟩ = some (.int .u64 (x.at_ : Int))) := ⟨_, fun _ => Iff.rfl⟩
  have HSd := hide hSd
  have HSB := hide (fun (w' : World) (h : Blk w' p 34 ar) => (hSd w').2 (by
    rw [HAR.out] at h
    exact ⟨h.cell 0, h.cell 1, h.cell 2, h.cell 3, h.cell 4, h.cell 5, h.cell 6, h.cell 7, h.cell 8, h.cell 9, h.cell 10, h.cell 11, h.cell 12, h.cell 13, h.cell 14⟩))
  have HS := hide (HSB.out w0.drew hXB)
  clear hSd hp
  have hXD : Blk w0.drew p 34 ar := hXB
  go_cut [3] from 31 (fun v3 wx => ∃ (g3 : Nat) (u : Value), v3 = .pointer (some ⟨g3, 0, none⟩) ∧ w0.heap.size ≤ g3 ∧ Blk wx g3 45 (ans0 x u) ∧ OwnB wx w0.heap.size u x.reply ∧ (∀ k, u.ownBlock = some k → k ≠ g3) ∧ Chg Non w0 wx)
  case first =>
    refine wp_region_T S 99 (by kernel_rfl) ?_
    refine AnyT.take (i := 0) (v := ?_) rfl (by kernel_rfl) (by kernel_rfl) (fun _ _ _ h => h) (by kernel_rfl) (by kernel_rfl) (Or.inl ⟨by rfl, ?_⟩) HS.out ?_
    rotate_left
    · (intro w9 h9; first | (go_simp; with_reducible rfl) | (obtain ⟨y0, y1, y2, y3, y4, y5, y6, y7, y8, y9, y10, y11, y12, y13, y14⟩ := (HSd.out _).1 h9; go_simp; try with_reducible rfl))
    try simp only [List.getElem_toArray, List.getElem_cons_succ, List.getElem_cons_zero, Act.put, List.setIfInBounds_toArray, List.set_cons_zero, List.set_cons_succ]
    refine AnyT.take (i := 1) (v := ?_) rfl (by kernel_rfl) (by kernel_rfl) (fun _ _ _ h => h) (by kernel_rfl) (by kernel_rfl) (Or.inl ⟨by rfl, ?_⟩) HS.out ?_
    rotate_left
    · (intro w9 h9; first | (go_simp; with_reducible rfl) | (obtain ⟨y0, y1, y2, y3, y4, y5, y6, y7, y8, y9, y10, y11, y12, y13, y14⟩ := (HSd.out _).1 h9; go_simp; try with_reducible rfl))
    try simp only [List.getElem_toArray, List.getElem_cons_succ, List.getElem_cons_zero, Act.put, List.setIfInBounds_toArray, List.set_cons_zero, List.set_cons_succ]
    refine AnyT.take (i := 2) (v := ?_) rfl (by kernel_rfl) (by kernel_rfl) (fun _ _ _ h => h) (by kernel_rfl) (by kernel_rfl) (Or.inl ⟨by rfl, ?_⟩) HS.out ?_
    rotate_left
    · (intro w9 h9; first | (go_simp; with_reducible rfl) | (obtain ⟨y0, y1, y2, y3, y4, y5, y6, y7, y8, y9, y10, y11, y12, y13, y14⟩ := (HSd.out _).1 h9; go_simp; try with_reducible rfl))
    try simp only [List.getElem_toArray, List.getElem_cons_succ, List.getElem_cons_zero, Act.put, List.setIfInBounds_toArray, List.set_cons_zero, List.set_cons_succ]
    refine AnyT.take (i := 3) (v := ?_) rfl (by kernel_rfl) (by kernel_rfl) (fun _ _ _ h => h) (by kernel_rfl) (by kernel_rfl) (Or.inl ⟨by rfl, ?_⟩) HS.out ?_
    rotate_left
    · (intro w9 h9; first | (go_simp; with_reducible rfl) | (obtain ⟨y0, y1, y2, y3, y4, y5, y6, y7, y8, y9, y10, y11, y12, y13, y14⟩ := (HSd.out _).1 h9; go_simp; try with_reducible rfl))
    try simp only [List.getElem_toArray, List.getElem_cons_succ, List.getElem_cons_zero, Act.put, List.setIfInBounds_toArray, List.set_cons_zero, List.set_cons_succ]
    refine AnyT.take (i := 4) (v := ?_) rfl (by kernel_rfl) (by kernel_rfl) (fun _ _ _ h => h) (by kernel_rfl) (by kernel_rfl) (Or.inl ⟨by rfl, ?_⟩) HS.out ?_
    rotate_left
    · (intro w9 h9; first | (go_simp; with_reducible rfl) | (obtain ⟨y0, y1, y2, y3, y4, y5, y6, y7, y8, y9, y10, y11, y12, y13, y14⟩ := (HSd.out _).1 h9; go_simp; try with_reducible rfl))
    try simp only [List.getElem_toArray, List.getElem_cons_succ, List.getElem_cons_zero, Act.put, List.setIfInBounds_toArray, List.set_cons_zero, List.set_cons_succ]
    refine AnyT.take (i := 5) (v := ?_) rfl (by kernel_rfl) (by kernel_rfl) (fun _ _ _ h => h) (by kernel_rfl) (by kernel_rfl) (Or.inl ⟨by rfl, ?_⟩) HS.out ?_
    rotate_left
    · (intro w9 h9; first | (go_simp; with_reducible rfl) | (obtain ⟨y0, y1, y2, y3, y4, y5, y6, y7, y8, y9, y10, y11, y12, y13, y14⟩ := (HSd.out _).1 h9; go_simp; try with_reducible rfl))
    try simp only [List.getElem_toArray, List.getElem_cons_succ, List.getElem_cons_zero, Act.put, List.setIfInBounds_toArray, List.set_cons_zero, List.set_cons_succ]
    refine AnyT.take (i := 6) (v := ?_) rfl (by kernel_rfl) (by kernel_rfl) (fun _ _ _ h => h) (by kernel_rfl) (by kernel_rfl) (Or.inl ⟨by rfl, ?_⟩) HS.out ?_
    rotate_left
    · (intro w9 h9; first | (go_simp; with_reducible rfl) | (obtain ⟨y0, y1, y2, y3, y4, y5, y6, y7, y8, y9, y10, y11, y12, y13, y14⟩ := (HSd.out _).1 h9; go_simp; try with_reducible rfl))
    try simp only [List.getElem_toArray, List.getElem_cons_succ, List.getElem_cons_zero, Act.put, List.setIfInBounds_toArray, List.set_cons_zero, List.set_cons_succ]
    refine AnyT.take (i := 7) (v := ?_) rfl (by kernel_rfl) (by kernel_rfl) (fun _ _ _ h => h) (by kernel_rfl) (by kernel_rfl) (Or.inl ⟨by rfl, ?_⟩) HS.out ?_
    rotate_left
    · (intro w9 h9; first | (go_simp; with_reducible rfl) | (obtain ⟨y0, y1, y2, y3, y4, y5, y6, y7, y8, y9, y10, y11, y12, y13, y14⟩ := (HSd.out _).1 h9; go_simp; try with_reducible rfl))
    try simp only [List.getElem_toArray, List.getElem_cons_succ, List.getElem_cons_zero, Act.put, List.setIfInBounds_toArray, List.set_cons_zero, List.set_cons_succ]
    refine AnyT.take (i := 8) (v := ?_) rfl (by kernel_rfl) (by kernel_rfl) (fun _ _ _ h => h) (by kernel_rfl) (by kernel_rfl) (Or.inl ⟨by rfl, ?_⟩) HS.out ?_
    rotate_left
    · (intro w9 h9; first | (go_simp; with_reducible rfl) | (obtain ⟨y0, y1, y2, y3, y4, y5, y6, y7, y8, y9, y10, y11, y12, y13, y14⟩ := (HSd.out _).1 h9; go_simp; try with_reducible rfl))
    try simp only [List.getElem_toArray, List.getElem_cons_succ, List.getElem_cons_zero, Act.put, List.setIfInBounds_toArray, List.set_cons_zero, List.set_cons_succ]
    refine AnyT.take (i := 9) (v := ?_) rfl (by kernel_rfl) (by kernel_rfl) (fun _ _ _ h => h) (by kernel_rfl) (by kernel_rfl) (Or.inl ⟨by rfl, ?_⟩) HS.out ?_
    rotate_left
    · (intro w9 h9; first | (go_simp; with_reducible rfl) | (obtain ⟨y0, y1, y2, y3, y4, y5, y6, y7, y8, y9, y10, y11, y12, y13, y14⟩ := (HSd.out _).1 h9; go_simp; try with_reducible rfl))
    try simp only [List.getElem_toArray, List.getElem_cons_succ, List.getElem_cons_zero, Act.put, List.setIfInBounds_toArray, List.set_cons_zero, List.set_cons_succ]
    refine AnyT.take (i := 10) (v := ?_) rfl (by kernel_rfl) (by kernel_rfl) (fun _ _ _ h => h) (by kernel_rfl) (by kernel_rfl) (Or.inl ⟨by rfl, ?_⟩) HS.out ?_
    rotate_left
    · (intro w9 h9; first | (go_simp; with_reducible rfl) | (obtain ⟨y0, y1, y2, y3, y4, y5, y6, y7, y8, y9, y10, y11, y12, y13, y14⟩ := (HSd.out _).1 h9; go_simp; try with_reducible rfl))
    try simp only [List.getElem_toArray, List.getElem_cons_succ, List.getElem_cons_zero, Act.put, List.setIfInBounds_toArray, List.set_cons_zero, List.set_cons_succ]
    refine AnyT.take (i := 11) (v := ?_) rfl (by kernel_rfl) (by kernel_rfl) (fun _ _ _ h => h) (by kernel_rfl) (by kernel_rfl) (Or.inl ⟨by rfl, ?_⟩) HS.out ?_
    rotate_left
    · (intro w9 h9; first | (go_simp; with_reducible rfl) | (obtain ⟨y0, y1, y2, y3, y4, y5, y6, y7, y8, y9, y10, y11, y12, y13, y14⟩ := (HSd.out _).1 h9; go_simp; try with_reducible rfl))
    try simp only [List.getElem_toArray, List.getElem_cons_succ, List.getElem_cons_zero, Act.put, List.setIfInBounds_toArray, List.set_cons_zero, List.set_cons_succ]
    refine AnyT.take (i := 12) (v := ?_) rfl (by kernel_rfl) (by kernel_rfl) (fun _ _ _ h => h) (by kernel_rfl) (by kernel_rfl) (Or.inl ⟨by rfl, ?_⟩) HS.out ?_
    rotate_left
    · (intro w9 h9; first | (go_simp; with_reducible rfl) | (obtain ⟨y0, y1, y2, y3, y4, y5, y6, y7, y8, y9, y10, y11, y12, y13, y14⟩ := (HSd.out _).1 h9; go_simp; try with_reducible rfl))
    try simp only [List.getElem_toArray, List.getElem_cons_succ, List.getElem_cons_zero, Act.put, List.setIfInBounds_toArray, List.set_cons_zero, List.set_cons_succ]
    refine AnyT.take (i := 13) (v := ?_) rfl (by kernel_rfl) (by kernel_rfl) (fun _ _ _ h => h) (by kernel_rfl) (by kernel_rfl) (Or.inl ⟨by rfl, ?_⟩) HS.out ?_
    rotate_left
    · (intro w9 h9; first | (go_simp; with_reducible rfl) | (obtain ⟨y0, y1, y2, y3, y4, y5, y6, y7, y8, y9, y10, y11, y12, y13, y14⟩ := (HSd.out _).1 h9; go_simp; try with_reducible rfl))
    try simp only [List.getElem_toArray, List.getElem_cons_succ, List.getElem_cons_zero, Act.put, List.setIfInBounds_toArray, List.set_cons_zero, List.set_cons_succ]
    refine AnyT.take (i := 14) (v := ?_) rfl (by kernel_rfl) (by kernel_rfl) (fun _ _ _ h => h) (by kernel_rfl) (by kernel_rfl) (Or.inl ⟨by rfl, ?_⟩) HS.out ?_
    rotate_left
    · (intro w9 h9; first | (go_simp; with_reducible rfl) | (obtain ⟨y0, y1, y2, y3, y4, y5, y6, y7, y8, y9, y10, y11, y12, y13, y14⟩ := (HSd.out _).1 h9; go_simp; try with_reducible rfl))
    try simp only [List.getElem_toArray, List.getElem_cons_succ, List.getElem_cons_zero, Act.put, List.setIfInBounds_toArray, List.set_cons_zero, List.set_cons_succ]
    refine AnyT.take (i := 15) (v := ?_) rfl (by kernel_rfl) (by kernel_rfl) (fun _ _ _ h => h) (by kernel_rfl) (by kernel_rfl) (Or.inl ⟨by rfl, ?_⟩) HS.out ?_
    rotate_left
    · (intro w9 h9; first | (go_simp; with_reducible rfl) | (obtain ⟨y0, y1, y2, y3, y4, y5, y6, y7, y8, y9, y10, y11, y12, y13, y14⟩ := (HSd.out _).1 h9; go_simp; try with_reducible rfl))
    try simp only [List.getElem_toArray, List.getElem_cons_succ, List.getElem_cons_zero, Act.put, List.setIfInBounds_toArray, List.set_cons_zero, List.set_cons_succ]
    refine AnyT.take (i := 17) (v := ?_) rfl (by kernel_rfl) (by kernel_rfl) (fun _ _ _ h => h) (by kernel_rfl) (by kernel_rfl) (Or.inl ⟨by rfl, ?_⟩) HS.out ?_
    rotate_left
    · (intro w9 h9; first | (go_simp; with_reducible rfl) | (obtain ⟨y0, y1, y2, y3, y4, y5, y6, y7, y8, y9, y10, y11, y12, y13, y14⟩ := (HSd.out _).1 h9; go_simp; try with_reducible rfl))
    try simp only [List.getElem_toArray, List.getElem_cons_succ, List.getElem_cons_zero, Act.put, List.setIfInBounds_toArray, List.set_cons_zero, List.set_cons_succ]
    refine AnyT.take (i := 18) (v := ?_) rfl (by kernel_rfl) (by kernel_rfl) (fun _ _ _ h => h) (by kernel_rfl) (by kernel_rfl) (Or.inl ⟨by rfl, ?_⟩) HS.out ?_
    rotate_left
    · (intro w9 h9; first | (go_simp; with_reducible rfl) | (obtain ⟨y0, y1, y2, y3, y4, y5, y6, y7, y8, y9, y10, y11, y12, y13, y14⟩ := (HSd.out _).1 h9; go_simp; try with_reducible rfl))
    try simp only [List.getElem_toArray, List.getElem_cons_succ, List.getElem_cons_zero, Act.put, List.setIfInBounds_toArray, List.set_cons_zero, List.set_cons_succ]
    refine AnyT.two (i := 16) (j := 20) (by kernel_rfl) rfl rfl (fun K hK => ?_) (fun K hK => ?_)
    · rw [if_pos (by rfl)]
      try simp only [List.getElem_toArray, List.getElem_cons_succ, List.getElem_cons_zero, Act.put, List.setIfInBounds_toArray, List.set_cons_zero, List.set_cons_succ]
      go_wp2_with (go_at_call 12; refine (refCopy hpD (by omega)).mono ?_; rintro e w2 ⟨u2, rfl, hu2, hc2⟩)
      obtain ⟨U, un, uc, rfl⟩ : ∃ A m c, u2 = .slice A m c := hu2.shapeH
      have hX2 := hXD.c0 hc2
      refine hK.out _ _ (fun _ => HSB.out w2 hX2) ?_
      clear hK K
      try simp only [List.getElem_toArray, List.getElem_cons_succ, List.getElem_cons_zero, Act.put, List.setIfInBounds_toArray, List.set_cons_zero, List.set_cons_succ]
      refine AnyT.take (i := 19) (v := .agg (ans0 x (.slice U un uc))) rfl (by kernel_rfl) (by kernel_rfl) (fun _ _ _ h => h) (by kernel_rfl) (by kernel_rfl) (Or.inl ⟨by rfl, fun w9 _ => by kernel_rfl⟩) (HSB.out _ hX2) ?_
      try simp only [List.getElem_toArray, List.getElem_cons_succ, List.getElem_cons_zero, Act.put, List.setIfInBounds_toArray, List.set_cons_zero, List.set_cons_succ]
      refine AnyT.one (i := 20) (by kernel_rfl) rfl (fun K hK => ?_)
      rw [if_pos (by rfl)]
      try simp only [List.getElem_toArray, List.getElem_cons_succ, List.getElem_cons_zero, Act.put, List.setIfInBounds_toArray, List.set_cons_zero, List.set_cons_succ]
      go_simp
      have hcz := (Chg.refl Non w2).alloc (.cells zeroN 45)
      have hZ := Blk.new w2 45 zeroN
      obtain ⟨g3, hg3⟩ : ∃ g, g = w2.heap.size := ⟨_, rfl⟩
      rw [← hg3] at hZ ⊢
      generalize hw3 : World.alloc w2 _ = w3
      rw [show w2.alloc (.cells zeroN 45) = w3 from hw3] at hcz hZ
      clear hw3
      have hX3 := hX2.c0 hcz
      refine hK.out _ _ (fun _ => HSB.out w3 hX3) ?_
      clear hK K
      try simp only [List.getElem_toArray, List.getElem_cons_succ, List.getElem_cons_zero, Act.put, List.setIfInBounds_toArray, List.set_cons_zero, List.set_cons_succ]
      refine AnyT.one (i := 21) (by kernel_rfl) rfl (fun K hK => ?_)
      rw [if_pos (by rfl)]
      try simp only [List.getElem_toArray, List.getElem_cons_succ, List.getElem_cons_zero, Act.put, List.setIfInBounds_toArray, List.set_cons_zero, List.set_cons_succ]
      refine wp_store_any info_ans (.tmp 3) (.tmp 30) rfl g3 (ans0 x (.slice U un uc)) rfl rfl zeroN hZ rfl rfl (by simp [ans0, Value.oneCell']) fun w4 hP4 hc4 => ?_
      have hpl0 := hXD.lt
      have hs2 := hc2.size
      have hs0 : w0.drew.heap.size = w0.heap.size := rfl
      have hX4 := hX3.chg hc4 (fun e => by omega)
      refine hK.out _ _ (fun _ => HSB.out w4 hX4) ?_
      clear hK K
      try simp only [List.getElem_toArray, List.getElem_cons_succ, List.getElem_cons_zero, Act.put, List.setIfInBounds_toArray, List.set_cons_zero, List.set_cons_succ]
      refine AnyT.nil (by kernel_rfl) ?_
      have hu4 := (hu2.chg hcz fun _ _ h => h).chg hc4 (fun k hk e => by have := (hu2.lt k hk).2; omega)
      have hun : ∀ k, (Value.slice U un uc).ownBlock = some k → k ≠ g3 := fun k hk e => by have := (hu2.lt k hk).2; omega
      have hcf : Chg Non w0 w4 := ((((Chg.refl Non w0).drew).trans0 hc2).trans0 hcz).trans hc4 fun k hk e => by omega
      go_wp2_with fail
      go_meet
      exact ⟨g3, _, rfl, by omega, hP4, hu4, hun, hcf⟩
    · rw [if_pos (by rfl)]
      try simp only [List.getElem_toArray, List.getElem_cons_succ, List.getElem_cons_zero, Act.put, List.setIfInBounds_toArray, List.set_cons_zero, List.set_cons_succ]
      go_simp
      have hcz := ((Chg.refl Non w0).alloc (.cells zeroN 45)).drew
      have hZ : Blk (w0.alloc (.cells zeroN 45)).drew w0.heap.size 45 zeroN := Blk.new w0 45 zeroN
      obtain ⟨g3, hg3⟩ : ∃ g, g = w0.heap.size := ⟨_, rfl⟩
      rw [← hg3] at hZ ⊢
      generalize hw3 : World.drew (World.alloc w0 _) = w3
      rw [show (w0.alloc (.cells zeroN 45)).drew = w3 from hw3] at hcz hZ
      clear hw3
      have HG3 := hide hg3
      clear hg3
      have hX3 := hXB.c0 hcz
      have hp3 := hp0.c0 hcz
      refine hK.out _ _ (fun _ => HSB.out w3 hX3) ?_
      clear hK K
      try simp only [List.getElem_toArray, List.getElem_cons_succ, List.getElem_cons_zero, Act.put, List.setIfInBounds_toArray, List.set_cons_zero, List.set_cons_succ]
      refine AnyT.one (i := 16) (by kernel_rfl) rfl (fun K hK => ?_)
      rw [if_pos (by rfl)]
      try simp only [List.getElem_toArray, List.getElem_cons_succ, List.getElem_cons_zero, Act.put, List.setIfInBounds_toArray, List.set_cons_zero, List.set_cons_succ]
      go_wp2_with (go_at_call 12; refine (refCopy hp3 (by omega)).mono ?_; rintro e w2 ⟨u2, rfl, hu2, hc2⟩)
      obtain ⟨U, un, uc, rfl⟩ : ∃ A m c, u2 = .slice A m c := hu2.shapeH
      have hX2 := hX3.c0 hc2
      refine hK.out _ _ (fun _ => HSB.out w2 hX2) ?_
      clear hK K
      try simp only [List.getElem_toArray, List.getElem_cons_succ, List.getElem_cons_zero, Act.put, List.setIfInBounds_toArray, List.set_cons_zero, List.set_cons_succ]
      refine AnyT.take (i := 19) (v := .agg (ans0 x (.slice U un uc))) rfl (by kernel_rfl) (by kernel_rfl) (fun _ _ _ h => h) (by kernel_rfl) (by kernel_rfl) (Or.inl ⟨by rfl, fun w9 _ => by kernel_rfl⟩) (HSB.out _ hX2) ?_
      try simp only [List.getElem_toArray, List.getElem_cons_succ, List.getElem_cons_zero, Act.put, List.setIfInBounds_toArray, List.set_cons_zero, List.set_cons_succ]
      refine AnyT.one (i := 21) (by kernel_rfl) rfl (fun K hK => ?_)
      rw [if_pos (by rfl)]
      try simp only [List.getElem_toArray, List.getElem_cons_succ, List.getElem_cons_zero, Act.put, List.setIfInBounds_toArray, List.set_cons_zero, List.set_cons_succ]
      refine wp_store_any info_ans (.tmp 3) (.tmp 30) rfl g3 (ans0 x (.slice U un uc)) rfl rfl zeroN (hZ.c0 hc2) rfl rfl (by simp [ans0, Value.oneCell']) fun w4 hP4 hc4 => ?_
      have hpl0 := hXD.lt
      have hzl := hZ.lt
      have hs00 : w0.drew.heap.size = w0.heap.size := rfl
      have hX4 := hX2.chg hc4 (fun e => by have := HG3.out; omega)
      refine hK.out _ _ (fun _ => HSB.out w4 hX4) ?_
      clear hK K
      try simp only [List.getElem_toArray, List.getElem_cons_succ, List.getElem_cons_zero, Act.put, List.setIfInBounds_toArray, List.set_cons_zero, List.set_cons_succ]
      refine AnyT.nil (by kernel_rfl) ?_
      have hun : ∀ k, (Value.slice U un uc).ownBlock = some k → k ≠ g3 := fun k hk e => by have := (hu2.lt k hk).1; omega
      have hs3 := hcz.size
      have hu4 := (hu2.chg hc4 (fun k hk e => hun k hk e)).low (b' := w0.heap.size) hs3
      have hcf : Chg Non w0 w4 := (hcz.trans0 hc2).trans hc4 fun k hk e => by have := HG3.out; omega
      go_wp2_with fail
      go_meet
      exact ⟨g3, _, rfl, by have := HG3.out; omega, hP4, hu4, hun, hcf⟩
  case rest =>
    obtain ⟨g3, u3, rfl, hg3, hB3, hu3, hne3, hc3⟩ := hcut
    have hX3 := hXB.c0 hc3
    rw [HAR.out] at hX3
    have c8 : wc.cell? ⟨p, 8, none⟩ = some (.int .i64 x.out.err) := hX3.cell 8
    have c9 : wc.cell? ⟨p, 9, none⟩ = some (.int .i64 x.out.at_) := hX3.cell 9
    have hth := there_of (o := 8) (n := 4) hB3 (by simp [ans0])
    have hmid := ans_mid hB3
    go_upto_region 3 with (refine wpList_store_mid (P := Try.prog) rfl 43 (.tmp 38) (.tmp 37) rfl g3 8 #[.int .i64 x.out.err, .int .i64 x.out.at_, .slice none 0 0, .slice none 0 0] rfl rfl hth info_out (by simp [Value.oneCell']) ?_)
    clear c8 c9 hth hp0 hpD hXD HS HSB HSd hcwD
    have hB5 := hmid.1
    have hc5 := hmid.2
    clear hmid
    generalize World.setCells wc _ _ _ = w5 at hB5 hc5 ⊢
    have hpw : p < w0.heap.size := hXB.lt
    have hcw5 : Chg Non w w5 := (hcW.trans0 hc3).trans hc5 fun k hk e => by have := hcW.size; omega
    have hu5 := hu3.chg hc5 fun k hk e => hne3 k hk e
    have hX5 := hX3.chg hc5 (fun e => by omega)
    have hg5 : g3 < w5.heap.size := hB5.lt
    have hg0l : g < w0.heap.size := hY.lt
    have HY5 := hide (And.intro ((hY.c0 hc3).chg hc5 (fun e => by omega)) (And.intro (show g ≠ g3 from fun e => by omega) (And.intro hg3 (And.intro hcW.size (And.intro (Nat.le_trans hg3 (Nat.le_of_lt hg5)) hg0l)))))
    clear hg0l
    have c10 : w5.cell? ⟨p, 10, none⟩ = some (.slice R rn rc) := hX5.cell 10
    have hFg : ∀ k, F k → k ≠ g3 := fun k hk e => by have := hF k hk; have := hcW.size; omega
    have hrr5 := hrr.chg hcw5 fun _ _ h => h
    have hrn : rn = x.out.rows.length := by obtain ⟨_, _, ⟨_, A', c', e, _⟩, _⟩ := hrr; injection e
    have HRN := hide hrn
    have HRL := hide hrl
    have HW5 := hide (And.intro hcw5 (And.intro hu5 (And.intro hX5 (And.intro hne3 hg3))))
    have hrn9 : rn ≤ 1000000000 := by omega
    clear hX3 hB3 hu3 hc3 hc5 hrr hrl hn hrn hX5 hu5 hcw5 hne3
    go_wp2_with fail
    go_loopw [43] (fun jv wr => ∃ (k : Nat) (us : List Value) (u1 : Value), jv = .int .i64 (k : Int) ∧ k ≤ rn ∧ Hid (HasRs wr w5.heap.size u1 (x.out.rows.take k) us) ∧ Hid (Blk wr g3 45 (ansA x u1 (.slice none 0 0) u3)) ∧ Chg (fun k => k = g3) w5 wr) (fun jv _ => rn - (intOf jv).toNat)
    case atStart => exact ⟨0, [], .slice none 0 0, rfl, Nat.zero_le _, hide (by rw [List.take_zero]; exact HasRs.nil_ _ _), hide hB5, Chg.refl _ _⟩
    case round =>
      clear c10
      obtain ⟨k, us, u1, rfl, hk, HR, HB, hcr⟩ := hrel
      by_cases hkl : k < rn
      · have hkx : k < x.out.rows.length := by have := HRN.out; omega
        obtain ⟨ad, u, rfl, hFb, cu, hrow⟩ := (hrr5.chg hcr hFg).at_ hkx
        obtain ⟨row, hre⟩ : ∃ r, r = x.out.rows[k] := ⟨_, rfl⟩
        rw [← hre] at hrow
        have hro := HRL.out row (by rw [hre]; exact List.getElem_mem hkx)
        have htk : x.out.rows.take (k + 1) = x.out.rows.take k ++ [row] := by rw [hre]; exact List.take_succ_eq_append_getElem hkx
        obtain ⟨A, ac, rfl⟩ := hrow.sl
        obtain ⟨m, hm⟩ : ∃ m, m = row.length := ⟨_, rfl⟩
        rw [← hm] at hrow cu
        have h1i : (k : Int) < (rn : Int) := by omega
        have h0i : (0 : Int) ≤ (k : Int) := by omega
        have hm9 : m ≤ 1000000000 := by omega
        have HTK := hide (And.intro htk (And.intro hkl (And.intro hm (show (x.out.rows.take k).length = k by rw [List.length_take]; omega))))
        have HRO := hide hro.2
        clear hre htk hkl hk hkx hFb hm hro
        go_wp2_with fail
        clear cu
        obtain ⟨wi, hwi⟩ : ∃ wi, wi = wr := ⟨_, rfl⟩
        rw [← hwi] at hcr hrow HR HB ⊢
        have HWI := hide hwi
        go_loopw [6, 49] (fun lv jv wq => ∃ (j : Nat) (xs : List (Value × Value)), jv = .int .i64 (j : Int) ∧ j ≤ m ∧ Hid (HasR wq wi.heap.size lv (row.take j) xs) ∧ Chg Non wi wq) (fun _ jv _ => m - (intOf jv).toNat)
        case atStart => exact ⟨0, [], rfl, Nat.zero_le _, hide (by rw [List.take_zero]; exact HasR.nil_ _ _), Chg.refl _ _⟩
        case round =>
          clear hwi
          obtain ⟨j, xs, rfl, hj, HO, hcq⟩ := hrel
          by_cases hjl : j < m
          · have hjm : j < row.length := by have := HTK.out; omega
            obtain ⟨ae, pv, qv, rfl, hFe, e0, e1, rp, rq⟩ := (hrow.chg hcq fun _ _ h => h).at_ hjm
            obtain ⟨o, ho⟩ : ∃ o, o = row[j] := ⟨_, rfl⟩
            rw [← ho] at rp rq
            have hol := HRO.out o (by rw [ho]; exact List.getElem_mem hjm)
            have htj : row.take (j + 1) = row.take j ++ [o] := by rw [ho]; exact List.take_succ_eq_append_getElem hjm
            have HTJ := hide (And.intro htj (And.intro hjl (show (row.take j).length = j by rw [List.length_take]; omega)))
            obtain ⟨Pp, np, cp, rfl⟩ : ∃ A m c, pv = .slice A m c := by obtain ⟨A, c, e, _⟩ := rp.shape; exact ⟨A, _, c, e⟩
            obtain ⟨Rr, nq, cq, rfl⟩ : ∃ A m c, qv = .slice A m c := by obtain ⟨A, c, e, _⟩ := rq.shape; exact ⟨A, _, c, e⟩
            obtain ⟨Vl, vl, vcl, rfl⟩ : ∃ A m c, u6 = .slice A m c := rdv_sl (RdV.of_own HO.out.row)
            have h1j : (j : Int) < (m : Int) := by omega
            have h0j : (0 : Int) ≤ (j : Int) := by omega
            clear ho htj hjl hj hjm hFe
            go_upto_region 10 with fail
            have hXe := Blk.new wr 88 #[.slice Pp np cp, .slice Rr nq cq]
            have hcE := (Chg.refl Non wr).alloc (.cells #[.slice Pp np cp, .slice Rr nq cq] 88)
            obtain ⟨ge, hge⟩ : ∃ g, g = wr.heap.size := ⟨_, rfl⟩
            rw [← hge] at hXe ⊢
            generalize World.alloc _ _ = wA at hXe hcE ⊢
            have HGE := hide hge
            clear hge e0 e1
            have rpA := rp.c0 hcE
            have rqA := rq.c0 hcE
            have hOA := HO.out.chg hcE fun _ _ _ h => h
            have hcqA := hcq.trans0 hcE
            have hgv : ∀ i, (Value.slice Vl vl vcl).ownBlock = some i → i ≠ ge := fun i hi e => by have := (World.ownsRow.lt HO.out.row i hi).2; have := HGE.out; omega
            have HGV := hide hgv
            have HOX := hide hOA
            clear rp rq hcq hgv hOA HO hcE
            obtain ⟨S2, hSd⟩ : ∃ S : World → Prop, ∀ w', S w' ↔ (w'.cell? ⟨ge, 0, none⟩ = some (.slice Pp np cp) ∧ w'.cell? ⟨ge, 1, none⟩ = some (.slice Rr nq cq)) := ⟨_, fun _ => Iff.rfl⟩
            have HSd := hide hSd
            have HSB := hide (fun (w' : World) (h : Blk w' ge 88 #[.slice Pp np cp, .slice Rr nq cq]) => (hSd w').2 ⟨h.cell 0, h.cell 1⟩)
            have HS := hide (HSB.out wA.drew hXe)
            clear hSd
            refine wp_region_T S2 99 (by kernel_rfl) ?_
            refine AnyT.take (i := 0) (v := ?_) rfl (by kernel_rfl) (by kernel_rfl) (fun _ _ _ h => h) (by kernel_rfl) (by kernel_rfl) (Or.inl ⟨by rfl, ?_⟩) HS.out ?_
            rotate_left
            · (intro w9 h9; first | (go_simp; with_reducible rfl) | (obtain ⟨y0, y1⟩ := (HSd.out _).1 h9; go_simp; try with_reducible rfl))
            try simp only [List.getElem_toArray, List.getElem_cons_succ, List.getElem_cons_zero, Act.put, List.setIfInBounds_toArray, List.set_cons_zero, List.set_cons_succ]
            refine AnyT.take (i := 1) (v := ?_) rfl (by kernel_rfl) (by kernel_rfl) (fun _ _ _ h => h) (by kernel_rfl) (by kernel_rfl) (Or.inl ⟨by rfl, ?_⟩) HS.out ?_
            rotate_left
            · (intro w9 h9; first | (go_simp; with_reducible rfl) | (obtain ⟨y0, y1⟩ := (HSd.out _).1 h9; go_simp; try with_reducible rfl))
            try simp only [List.getElem_toArray, List.getElem_cons_succ, List.getElem_cons_zero, Act.put, List.setIfInBounds_toArray, List.set_cons_zero, List.set_cons_succ]
            refine AnyT.take (i := 2) (v := ?_) rfl (by kernel_rfl) (by kernel_rfl) (fun _ _ _ h => h) (by kernel_rfl) (by kernel_rfl) (Or.inl ⟨by rfl, ?_⟩) HS.out ?_
            rotate_left
            · (intro w9 h9; first | (go_simp; with_reducible rfl) | (obtain ⟨y0, y1⟩ := (HSd.out _).1 h9; go_simp; try with_reducible rfl))
            try simp only [List.getElem_toArray, List.getElem_cons_succ, List.getElem_cons_zero, Act.put, List.setIfInBounds_toArray, List.set_cons_zero, List.set_cons_succ]
            refine AnyT.take (i := 4) (v := ?_) rfl (by kernel_rfl) (by kernel_rfl) (fun _ _ _ h => h) (by kernel_rfl) (by kernel_rfl) (Or.inl ⟨by rfl, ?_⟩) HS.out ?_
            rotate_left
            · (intro w9 h9; first | (go_simp; with_reducible rfl) | (obtain ⟨y0, y1⟩ := (HSd.out _).1 h9; go_simp; try with_reducible rfl))
            try simp only [List.getElem_toArray, List.getElem_cons_succ, List.getElem_cons_zero, Act.put, List.setIfInBounds_toArray, List.set_cons_zero, List.set_cons_succ]
            refine AnyT.take (i := 5) (v := ?_) rfl (by kernel_rfl) (by kernel_rfl) (fun _ _ _ h => h) (by kernel_rfl) (by kernel_rfl) (Or.inl ⟨by rfl, ?_⟩) HS.out ?_
            rotate_left
            · (intro w9 h9; first | (go_simp; with_reducible rfl) | (obtain ⟨y0, y1⟩ := (HSd.out _).1 h9; go_simp; try with_reducible rfl))
            try simp only [List.getElem_toArray, List.getElem_cons_succ, List.getElem_cons_zero, Act.put, List.setIfInBounds_toArray, List.set_cons_zero, List.set_cons_succ]
            refine AnyT.one (i := 3) (by kernel_rfl) rfl (fun K hK => ?_)
            rw [if_pos (by rfl)]
            try simp only [List.getElem_toArray, List.getElem_cons_succ, List.getElem_cons_zero, Act.put, List.setIfInBounds_toArray, List.set_cons_zero, List.set_cons_succ]
            go_wp2_with (go_at_call 12; refine (refCopy rpA.dr (by omega)).mono ?_; rintro e w1 ⟨a1, rfl, hu1, hc1⟩)
            obtain ⟨U1, n1, c1, rfl⟩ : ∃ A m c, a1 = .slice A m c := hu1.shapeH
            have hX1 : Blk w1 ge 88 _ := (show Blk wA.drew ge 88 _ from hXe).c0 hc1
            refine hK.out _ _ (fun _ => HSB.out w1 hX1) ?_
            clear hK K
            try simp only [List.getElem_toArray, List.getElem_cons_succ, List.getElem_cons_zero, Act.put, List.setIfInBounds_toArray, List.set_cons_zero, List.set_cons_succ]
            refine AnyT.one (i := 6) (by kernel_rfl) rfl (fun K hK => ?_)
            rw [if_pos (by rfl)]
            try simp only [List.getElem_toArray, List.getElem_cons_succ, List.getElem_cons_zero, Act.put, List.setIfInBounds_toArray, List.set_cons_zero, List.set_cons_succ]
            go_wp2_with (go_at_call 12; refine (refCopy (rqA.dr.c0 hc1) (by omega)).mono ?_; rintro e w2 ⟨a2, rfl, hu2, hc2⟩)
            obtain ⟨U2, n2, c2, rfl⟩ : ∃ A m c, a2 = .slice A m c := hu2.shapeH
            have hX2 := hX1.c0 hc2
            refine hK.out _ _ (fun _ => HSB.out w2 hX2) ?_
            clear hK K
            try simp only [List.getElem_toArray, List.getElem_cons_succ, List.getElem_cons_zero, Act.put, List.setIfInBounds_toArray, List.set_cons_zero, List.set_cons_succ]
            refine AnyT.one (i := 7) (by kernel_rfl) rfl (fun K hK => ?_)
            rw [if_pos (by rfl)]
            try simp only [List.getElem_toArray, List.getElem_cons_succ, List.getElem_cons_zero, Act.put, List.setIfInBounds_toArray, List.set_cons_zero, List.set_cons_succ]
            go_simp
            refine hK.out _ _ (fun _ => HSB.out w2 hX2) ?_
            clear hK K
            try simp only [List.getElem_toArray, List.getElem_cons_succ, List.getElem_cons_zero, Act.put, List.setIfInBounds_toArray, List.set_cons_zero, List.set_cons_succ]
            refine AnyT.one (i := 8) (by kernel_rfl) rfl (fun K hK => ?_)
            rw [if_pos (by rfl)]
            try simp only [List.getElem_toArray, List.getElem_cons_succ, List.getElem_cons_zero, Act.put, List.setIfInBounds_toArray, List.set_cons_zero, List.set_cons_succ]
            go_simp
            have hcL := (Chg.refl Non w2).alloc (.cells #[.slice U1 n1 c1, .slice U2 n2 c2] 88)
            have hXL := Blk.new w2 88 #[.slice U1 n1 c1, .slice U2 n2 c2]
            refine hK.out _ _ (fun _ => HSB.out _ (hX2.c0 hcL)) ?_
            clear hK K
            try simp only [List.getElem_toArray, List.getElem_cons_succ, List.getElem_cons_zero, Act.put, List.setIfInBounds_toArray, List.set_cons_zero, List.set_cons_succ]
            have hc0 : Chg Non wA w2 := (((Chg.refl Non wA).drew).trans0 hc1).trans0 hc2
            have hXg := hX2.c0 hcL
            have hOL := HOX.out.chg (hc0.trans0 hcL) fun _ _ _ h => h
            have hrL : RdV (w2.alloc (.cells #[.slice U1 n1 c1, .slice U2 n2 c2] 88)) (fun k => k = w2.heap.size) 2 (.slice (some ⟨w2.heap.size, 0, none⟩) 1 1) 1 [.slice U1 n1 c1, .slice U2 n2 c2] :=
              ⟨rfl, _, _, rfl, Nat.le_refl _, by simp [maxLen], fun _ => ⟨_, rfl, rfl, fun j u hu => by rw [add_none, Nat.zero_add, hXL.cell, ← Array.getElem?_toList]; exact hu⟩⟩
            have hgs : wA.heap.size ≤ w2.heap.size := hc0.size
            have hsw := hcqA.size
            have hlen := HTJ.out.2.2
            have hlt := HTJ.out.2.1
            have HCL := hide (And.intro hcL hc0)
            clear hX1 hX2 hXL hcL hc0
            generalize World.alloc w2 _ = wL at hXg hOL hrL HCL ⊢
            have hLs := HCL.out.1.size
            refine AnyT.one (i := 9) (by kernel_rfl) rfl (fun K hK => ?_)
            rw [if_pos (by rfl)]
            try simp only [List.getElem_toArray, List.getElem_cons_succ, List.getElem_cons_zero, Act.put, List.setIfInBounds_toArray, List.set_cons_zero, List.set_cons_succ]
            refine app_R (.tmp 53) (.tmp 61) rfl hOL.row rfl hrL rfl (fun u hu => by simp at hu; rcases hu with rfl | rfl <;> rfl) (by omega) (by omega) ?_
            intro v' w4 hO4 hg4 hat4
            have hX4 := hXg.chg (Chg.of_grown hg4) (fun e => HGV.out ge e.symm rfl)
            refine hK.out _ _ (fun _ => HSB.out w4 hX4) ?_
            clear hK K
            try simp only [List.getElem_toArray, List.getElem_cons_succ, List.getElem_cons_zero, Act.put, List.setIfInBounds_toArray, List.set_cons_zero, List.set_cons_succ]
            refine AnyT.one (i := 10) (by kernel_rfl) rfl (fun K hK => ?_)
            rw [if_pos (by rfl)]
            try simp only [List.getElem_toArray, List.getElem_cons_succ, List.getElem_cons_zero, Act.put, List.setIfInBounds_toArray, List.set_cons_zero, List.set_cons_succ]
            go_simp
            refine hK.out _ _ (fun _ => HSB.out w4 hX4) ?_
            clear hK K
            try simp only [List.getElem_toArray, List.getElem_cons_succ, List.getElem_cons_zero, Act.put, List.setIfInBounds_toArray, List.set_cons_zero, List.set_cons_succ]
            refine AnyT.nil (by kernel_rfl) ?_
            have hu1' : OwnB w1 wA.heap.size (.slice U1 n1 c1) o.1 := hu1
            have HO4 := hide (show HasR w4 wi.heap.size v' (row.take (j + 1)) (xs ++ [(.slice U1 n1 c1, .slice U2 n2 c2)]) by
              rw [HTJ.out.1]
              exact HOX.out.grow hsw (((Chg.refl Non wA).drew).trans0 hc1) hu1' hc2 hu2 HCL.out.1 hO4 hg4 hat4)
            have hcw4 : Chg Non wi w4 := (hcqA.trans0 (HCL.out.2.trans0 HCL.out.1)).trans (Chg.of_grown hg4) fun i hi e => by
              have := (World.ownsRow.lt HOX.out.row i e.symm).1
              omega
            clear hO4 hg4 hat4 hX4 hXg hOL hrL HOX HS HSB HSd hu1 hu1' hu2 hc1 hc2 HCL rpA rqA hcqA HGV
            go_wp2_with fail
            go_roundw
            case rel => exact ⟨j + 1, _, by go_num, by have := HTJ.out.2.1; omega, HO4, hcw4⟩
            case measure => (have h := HTJ.out.2.1; simp [intOf]; omega)
          · have hge : ¬ ((j : Int) < (m : Int)) := by omega
            have HJ := hide (show row.take j = row from List.take_of_length_le (by have := HTK.out; omega))
            clear hjl hj
            have hO := HO.out
            rw [HJ.out] at hO
            obtain ⟨Vl, vl, vcl, rfl⟩ : ∃ A m c, u6 = .slice A m c := rdv_sl (RdV.of_own hO.row)
            obtain ⟨W1, wn1, wc1, rfl⟩ : ∃ A m c, u1 = .slice A m c := rdv_sl (RdV.of_own HR.out.row)
            have HBr := HB.out.c0 hcq
            have hRr := HR.out.chg hcq fun _ _ _ h => h
            have hcL := (Chg.refl Non wr).alloc (.cells #[.slice Vl vl vcl] 89)
            have hXL := Blk.new wr 89 #[.slice Vl vl vcl]
            have hrL : RdV (wr.alloc (.cells #[.slice Vl vl vcl] 89)) (fun k => k = wr.heap.size) 1 (.slice (some ⟨wr.heap.size, 0, none⟩) 1 1) 1 [.slice Vl vl vcl] :=
              ⟨rfl, _, _, rfl, Nat.le_refl _, by simp [maxLen], fun _ => ⟨_, rfl, rfl, fun j u hu => by rw [add_none, Nat.zero_add, hXL.cell, ← Array.getElem?_toList]; exact hu⟩⟩
            have hRL := hRr.chg hcL fun _ _ _ h => h
            have hBL := HBr.c0 hcL
            have y0 : wr.cell? ⟨g3, 10, none⟩ = some (.slice W1 wn1 wc1) := HBr.cell 10
            have hw1 : ∀ i, (Value.slice W1 wn1 wc1).ownBlock = some i → w5.heap.size ≤ i ∧ i < wi.heap.size := fun i hi => World.ownsRow.lt HR.out.row i hi
            have hlen1 : (x.out.rows.take k).length + 1 ≤ 1000000000000 := by have := HTK.out; omega
            have hsz1 : w5.heap.size ≤ (wr.alloc (.cells #[.slice Vl vl vcl] 89)).heap.size := Nat.le_trans hcr.size (Nat.le_trans hcq.size hcL.size)
            have HW1 := hide hw1
            clear hw1 hRr
            go_wp2_with (refine appL_Rs rfl (.tmp 66) (.tmp 68) rfl hRL.row rfl hrL rfl (fun u hu => by simp at hu; subst hu; rfl) hlen1 hsz1 ?_; intro v' w4 hO4 hg4 hat4; have hB4 := hBL.chg (Chg.of_grown hg4) (fun e => by have := HW1.out g3 e.symm; omega); have y1 := (show w4.cell? ⟨g3, 10, none⟩ = some (.slice W1 wn1 wc1) from hB4.cell 10); have z1 := hB4.frozen 10; obtain ⟨B1, bn, bc, rfl⟩ : ∃ A m c, v' = .slice A m c := rdv_sl (RdV.of_own hO4))
            have hgr := (HR.out.chg hcq fun _ _ _ h => h).grow (u := .slice Vl vl vcl) (r := row) hO.rd (fun i hi => (HW1.out i hi).2) hcr.size hcL hO4 hg4 hat4
            have hcs := (Chg.refl (fun k => k = g3) w4).setCell (p := ⟨g3, 10, none⟩) (fun _ => rfl) (.slice B1 bn bc)
            have HR6 := hide (show HasRs (w4.setCell ⟨g3, 10, none⟩ (.slice B1 bn bc)) w5.heap.size (.slice B1 bn bc) (x.out.rows.take (k + 1)) (us ++ [.slice Vl vl vcl]) by
              rw [HTK.out.1]
              exact hgr.chg hcs fun i h1 h2 e => by omega)
            have HB6 := hide (show Blk (w4.setCell ⟨g3, 10, none⟩ (.slice B1 bn bc)) g3 45 (ansA x (.slice B1 bn bc) (.slice none 0 0) u3) from hB4.set_ 10 _)
            have hcr6 : Chg (fun k => k = g3) w5 (w4.setCell ⟨g3, 10, none⟩ (.slice B1 bn bc)) := (((hcr.trans0 hcq).trans0 hcL).trans (Chg.of_grown hg4) fun i hi e => by have := (HW1.out i e.symm).1; omega).trans hcs fun _ _ h => h
            clear hgr hcs hB4 y1 z1 hO4 hg4 hat4 hRL hBL hrL hXL hcL HBr y0 hO hcq hrow
            go_roundw
            case rel => exact ⟨k + 1, _, _, by go_num, by have := HTK.out.2.1; omega, HR6, HB6, hcr6⟩
            case measure => (have h := HTK.out.2.1; simp [intOf]; omega)
      · have hge : ¬ ((k : Int) < (rn : Int)) := by omega
        have HK := hide (show x.out.rows.take k = x.out.rows from List.take_of_length_le (by have := HRN.out; omega))
        clear hkl hk
        have hR := HR.out
        rw [HK.out] at hR
        have hXr := HW5.out.2.2.1.chg hcr (fun e => by omega)
        have c11 : wr.cell? ⟨p, 11, none⟩ = some (.slice V vn vc) := hXr.cell 11
        have hwr := (hww.chg HW5.out.1 fun _ _ h => h).chg hcr hFg
        have hvn : vn = x.out.ws.length := by obtain ⟨_, _, ⟨_, A', c', e, _⟩, _⟩ := hww; injection e
        have HVN := hide hvn
        have HWL := hide hwl
        have hvn9 : vn ≤ 1000000000 := by omega
        have HC5 := hide hcr
        have HRr := hide hR
        have HXr := hide hXr
        have hg3r : g3 < wr.heap.size := HB.out.lt
        obtain ⟨wz, hwz⟩ : ∃ wz, wz = wr := ⟨_, rfl⟩
        have HB0 := HB
        clear hR hXr hcr hww hwl hwn hrr5 HRL HR hvn HB
        go_wp2_with fail
        clear c11
        rw [← hwz] at HC5 HRr HXr hwr HB0 hg3r ⊢
        have HWZ := hide hwz
        go_loopw [77] (fun jv wq => ∃ (j : Nat) (xs : List (Value × Value)) (u2 : Value), jv = .int .i64 (j : Int) ∧ j ≤ vn ∧ Hid (HasW wq wz.heap.size u2 (x.out.ws.take j) xs) ∧ Hid (Blk wq g3 45 (ansA x u1 u2 u3)) ∧ Chg (fun k => k = g3) wz wq) (fun jv _ => vn - (intOf jv).toNat)
        case atStart => exact ⟨0, [], .slice none 0 0, rfl, Nat.zero_le _, hide (by rw [List.take_zero]; exact HasW.nil_ _ _), HB0, Chg.refl _ _⟩
        case round =>
          clear hwz
          obtain ⟨j, xs, u2, rfl, hj, HO, HB, hcq⟩ := hrel
          obtain ⟨Vl, vl, vcl, rfl⟩ : ∃ A m c, u2 = .slice A m c := rdv_sl (RdV.of_own HO.out.row)
          by_cases hjl : j < vn
          · have hjm : j < x.out.ws.length := by have := HVN.out; omega
            obtain ⟨ae, pv, qv, rfl, hFe, e0, e1, e2, rp, rq⟩ := (hwr.chg hcq hFg).at_ hjm
            obtain ⟨o, ho⟩ : ∃ o, o = x.out.ws[j] := ⟨_, rfl⟩
            rw [← ho] at rp rq e2
            have hol := HWL.out o (by rw [ho]; exact List.getElem_mem hjm)
            have htj : x.out.ws.take (j + 1) = x.out.ws.take j ++ [o] := by rw [ho]; exact List.take_succ_eq_append_getElem hjm
            have HTJ := hide (And.intro htj (And.intro hjl (show (x.out.ws.take j).length = j by rw [List.length_take]; omega)))
            obtain ⟨Pp, np, cp, rfl⟩ : ∃ A m c, pv = .slice A m c := by obtain ⟨A, c, e, _⟩ := rp.shape; exact ⟨A, _, c, e⟩
            obtain ⟨Rr, nq, cq, rfl⟩ : ∃ A m c, qv = .slice A m c := by obtain ⟨A, c, e, _⟩ := rq.shape; exact ⟨A, _, c, e⟩
            obtain ⟨f, hf⟩ : ∃ f, f = o.f := ⟨_, rfl⟩
            rw [← hf] at e2
            have HFF := hide hf
            have h1j : (j : Int) < (vn : Int) := by omega
            have h0j : (0 : Int) ≤ (j : Int) := by omega
            clear ho htj hjl hj hjm hFe hf
            go_upto_region 17 with fail
            have hXe := Blk.new wr 125 #[.slice Pp np cp, .slice Rr nq cq, .bool f]
            have hcE := (Chg.refl Non wr).alloc (.cells #[.slice Pp np cp, .slice Rr nq cq, .bool f] 125)
            obtain ⟨ge, hge⟩ : ∃ g, g = wr.heap.size := ⟨_, rfl⟩
            rw [← hge] at hXe ⊢
            generalize World.alloc _ _ = wA at hXe hcE ⊢
            have hgg : ge ≠ g3 := by have := HB.out.lt; omega
            have HGE := hide hge
            clear hge e0 e1 e2
            have rpA := rp.c0 hcE
            have rqA := rq.c0 hcE
            have hOA := HO.out.chg hcE fun _ _ _ h => h
            have hBA := HB.out.c0 hcE
            have hcqA := hcq.trans0 hcE
            have hgv : ∀ i, (Value.slice Vl vl vcl).ownBlock = some i → i ≠ ge ∧ i ≠ g3 := fun i hi => by have := (World.ownsRow.lt HO.out.row i hi); have := HGE.out; omega
            have HGV := hide hgv
            have HOX := hide hOA
            clear rp rq hcq hgv hOA HO hcE HB
            obtain ⟨S2, hSd⟩ : ∃ S : World → Prop, ∀ w', S w' ↔ (w'.cell? ⟨ge, 0, none⟩ = some (.slice Pp np cp) ∧ w'.cell? ⟨ge, 1, none⟩ = some (.slice Rr nq cq) ∧ w'.cell? ⟨ge, 2, none⟩ = some (.bool f) ∧ w'.cell? ⟨g3, 11, none⟩ = some (.slice Vl vl vcl)) := ⟨_, fun _ => Iff.rfl⟩
            have HSd := hide hSd
            have HSB := hide (fun (w' : World) (h : Blk w' ge 125 #[.slice Pp np cp, .slice Rr nq cq, .bool f]) (h2 : Blk w' g3 45 (ansA x u1 (.slice Vl vl vcl) u3)) => (hSd w').2 ⟨h.cell 0, h.cell 1, h.cell 2, h2.cell 11⟩)
            have HS := hide (HSB.out wA.drew hXe hBA)
            clear hSd
            refine wp_region_T S2 16 (by kernel_rfl) ?_
            refine AnyT.take (i := 0) (v := ?_) rfl (by kernel_rfl) (by kernel_rfl) (fun _ _ _ h => h) (by kernel_rfl) (by kernel_rfl) (Or.inl ⟨by rfl, ?_⟩) HS.out ?_
            rotate_left
            · (intro w9 h9; first | (go_simp; with_reducible rfl) | (obtain ⟨y0, y1, y2, y3⟩ := (HSd.out _).1 h9; go_simp; try with_reducible rfl))
            try simp only [List.getElem_toArray, List.getElem_cons_succ, List.getElem_cons_zero, Act.put, List.setIfInBounds_toArray, List.set_cons_zero, List.set_cons_succ]
            refine AnyT.take (i := 1) (v := ?_) rfl (by kernel_rfl) (by kernel_rfl) (fun _ _ _ h => h) (by kernel_rfl) (by kernel_rfl) (Or.inl ⟨by rfl, ?_⟩) HS.out ?_
            rotate_left
            · (intro w9 h9; first | (go_simp; with_reducible rfl) | (obtain ⟨y0, y1, y2, y3⟩ := (HSd.out _).1 h9; go_simp; try with_reducible rfl))
            try simp only [List.getElem_toArray, List.getElem_cons_succ, List.getElem_cons_zero, Act.put, List.setIfInBounds_toArray, List.set_cons_zero, List.set_cons_succ]
            refine AnyT.take (i := 2) (v := ?_) rfl (by kernel_rfl) (by kernel_rfl) (fun _ _ _ h => h) (by kernel_rfl) (by kernel_rfl) (Or.inl ⟨by rfl, ?_⟩) HS.out ?_
            rotate_left
            · (intro w9 h9; first | (go_simp; with_reducible rfl) | (obtain ⟨y0, y1, y2, y3⟩ := (HSd.out _).1 h9; go_simp; try with_reducible rfl))
            try simp only [List.getElem_toArray, List.getElem_cons_succ, List.getElem_cons_zero, Act.put, List.setIfInBounds_toArray, List.set_cons_zero, List.set_cons_succ]
            refine AnyT.take (i := 3) (v := ?_) rfl (by kernel_rfl) (by kernel_rfl) (fun _ _ _ h => h) (by kernel_rfl) (by kernel_rfl) (Or.inl ⟨by rfl, ?_⟩) HS.out ?_
            rotate_left
            · (intro w9 h9; first | (go_simp; with_reducible rfl) | (obtain ⟨y0, y1, y2, y3⟩ := (HSd.out _).1 h9; go_simp; try with_reducible rfl))
            try simp only [List.getElem_toArray, List.getElem_cons_succ, List.getElem_cons_zero, Act.put, List.setIfInBounds_toArray, List.set_cons_zero, List.set_cons_succ]
            refine AnyT.take (i := 4) (v := ?_) rfl (by kernel_rfl) (by kernel_rfl) (fun _ _ _ h => h) (by kernel_rfl) (by kernel_rfl) (Or.inl ⟨by rfl, ?_⟩) HS.out ?_
            rotate_left
            · (intro w9 h9; first | (go_simp; with_reducible rfl) | (obtain ⟨y0, y1, y2, y3⟩ := (HSd.out _).1 h9; go_simp; try with_reducible rfl))
            try simp only [List.getElem_toArray, List.getElem_cons_succ, List.getElem_cons_zero, Act.put, List.setIfInBounds_toArray, List.set_cons_zero, List.set_cons_succ]
            refine AnyT.take (i := 6) (v := ?_) rfl (by kernel_rfl) (by kernel_rfl) (fun _ _ _ h => h) (by kernel_rfl) (by kernel_rfl) (Or.inl ⟨by rfl, ?_⟩) HS.out ?_
            rotate_left
            · (intro w9 h9; first | (go_simp; with_reducible rfl) | (obtain ⟨y0, y1, y2, y3⟩ := (HSd.out _).1 h9; go_simp; try with_reducible rfl))
            try simp only [List.getElem_toArray, List.getElem_cons_succ, List.getElem_cons_zero, Act.put, List.setIfInBounds_toArray, List.set_cons_zero, List.set_cons_succ]
            refine AnyT.take (i := 7) (v := ?_) rfl (by kernel_rfl) (by kernel_rfl) (fun _ _ _ h => h) (by kernel_rfl) (by kernel_rfl) (Or.inl ⟨by rfl, ?_⟩) HS.out ?_
            rotate_left
            · (intro w9 h9; first | (go_simp; with_reducible rfl) | (obtain ⟨y0, y1, y2, y3⟩ := (HSd.out _).1 h9; go_simp; try with_reducible rfl))
            try simp only [List.getElem_toArray, List.getElem_cons_succ, List.getElem_cons_zero, Act.put, List.setIfInBounds_toArray, List.set_cons_zero, List.set_cons_succ]
            refine AnyT.take (i := 9) (v := ?_) rfl (by kernel_rfl) (by kernel_rfl) (fun _ _ _ h => h) (by kernel_rfl) (by kernel_rfl) (Or.inl ⟨by rfl, ?_⟩) HS.out ?_
            rotate_left
            · (intro w9 h9; first | (go_simp; with_reducible rfl) | (obtain ⟨y0, y1, y2, y3⟩ := (HSd.out _).1 h9; go_simp; try with_reducible rfl))
            try simp only [List.getElem_toArray, List.getElem_cons_succ, List.getElem_cons_zero, Act.put, List.setIfInBounds_toArray, List.set_cons_zero, List.set_cons_succ]
            refine AnyT.take (i := 10) (v := ?_) rfl (by kernel_rfl) (by kernel_rfl) (fun _ _ _ h => h) (by kernel_rfl) (by kernel_rfl) (Or.inl ⟨by rfl, ?_⟩) HS.out ?_
            rotate_left
            · (intro w9 h9; first | (go_simp; with_reducible rfl) | (obtain ⟨y0, y1, y2, y3⟩ := (HSd.out _).1 h9; go_simp; try with_reducible rfl))
            try simp only [List.getElem_toArray, List.getElem_cons_succ, List.getElem_cons_zero, Act.put, List.setIfInBounds_toArray, List.set_cons_zero, List.set_cons_succ]
            refine AnyT.one (i := 5) (by kernel_rfl) rfl (fun K hK => ?_)
            rw [if_pos (by rfl)]
            try simp only [List.getElem_toArray, List.getElem_cons_succ, List.getElem_cons_zero, Act.put, List.setIfInBounds_toArray, List.set_cons_zero, List.set_cons_succ]
            go_wp2_with (go_at_call 12; refine (refCopy rpA.dr (by omega)).mono ?_; rintro e w1 ⟨a1, rfl, hu1, hc1⟩)
            obtain ⟨U1, n1, c1, rfl⟩ : ∃ A m c, a1 = .slice A m c := hu1.shapeH
            have hX1 : Blk w1 ge 125 _ := (show Blk wA.drew ge 125 _ from hXe).c0 hc1
            have hB1 : Blk w1 g3 45 _ := (show Blk wA.drew g3 45 _ from hBA).c0 hc1
            refine hK.out _ _ (fun _ => HSB.out w1 hX1 hB1) ?_
            clear hK K
            try simp only [List.getElem_toArray, List.getElem_cons_succ, List.getElem_cons_zero, Act.put, List.setIfInBounds_toArray, List.set_cons_zero, List.set_cons_succ]
            refine AnyT.one (i := 8) (by kernel_rfl) rfl (fun K hK => ?_)
            rw [if_pos (by rfl)]
            try simp only [List.getElem_toArray, List.getElem_cons_succ, List.getElem_cons_zero, Act.put, List.setIfInBounds_toArray, List.set_cons_zero, List.set_cons_succ]
            go_wp2_with (go_at_call 12; refine (refCopy (rqA.dr.c0 hc1) (by omega)).mono ?_; rintro e w2 ⟨a2, rfl, hu2, hc2⟩)
            obtain ⟨U2, n2, c2, rfl⟩ : ∃ A m c, a2 = .slice A m c := hu2.shapeH
            have hX2 := hX1.c0 hc2
            have hB2 := hB1.c0 hc2
            refine hK.out _ _ (fun _ => HSB.out w2 hX2 hB2) ?_
            clear hK K
            try simp only [List.getElem_toArray, List.getElem_cons_succ, List.getElem_cons_zero, Act.put, List.setIfInBounds_toArray, List.set_cons_zero, List.set_cons_succ]
            refine AnyT.one (i := 11) (by kernel_rfl) rfl (fun K hK => ?_)
            rw [if_pos (by rfl)]
            try simp only [List.getElem_toArray, List.getElem_cons_succ, List.getElem_cons_zero, Act.put, List.setIfInBounds_toArray, List.set_cons_zero, List.set_cons_succ]
            go_simp
            refine hK.out _ _ (fun _ => HSB.out w2 hX2 hB2) ?_
            clear hK K
            try simp only [List.getElem_toArray, List.getElem_cons_succ, List.getElem_cons_zero, Act.put, List.setIfInBounds_toArray, List.set_cons_zero, List.set_cons_succ]
            refine AnyT.one (i := 12) (by kernel_rfl) rfl (fun K hK => ?_)
            rw [if_pos (by rfl)]
            try simp only [List.getElem_toArray, List.getElem_cons_succ, List.getElem_cons_zero, Act.put, List.setIfInBounds_toArray, List.set_cons_zero, List.set_cons_succ]
            go_simp
            have hcL := (Chg.refl Non w2).alloc (.cells #[.slice U1 n1 c1, .slice U2 n2 c2, .bool f] 125)
            have hXL := Blk.new w2 125 #[.slice U1 n1 c1, .slice U2 n2 c2, .bool f]
            refine hK.out _ _ (fun _ => HSB.out _ (hX2.c0 hcL) (hB2.c0 hcL)) ?_
            clear hK K
            try simp only [List.getElem_toArray, List.getElem_cons_succ, List.getElem_cons_zero, Act.put, List.setIfInBounds_toArray, List.set_cons_zero, List.set_cons_succ]
            have hc0 : Chg Non wA w2 := (((Chg.refl Non wA).drew).trans0 hc1).trans0 hc2
            have hXg := hX2.c0 hcL
            have hBg := hB2.c0 hcL
            have hOL := HOX.out.chg (hc0.trans0 hcL) fun _ _ _ h => h
            have hrL : RdV (w2.alloc (.cells #[.slice U1 n1 c1, .slice U2 n2 c2, .bool f] 125)) (fun k => k = w2.heap.size) 3 (.slice (some ⟨w2.heap.size, 0, none⟩) 1 1) 1 [.slice U1 n1 c1, .slice U2 n2 c2, .bool f] :=
              ⟨rfl, _, _, rfl, Nat.le_refl _, by simp [maxLen], fun _ => ⟨_, rfl, rfl, fun j u hu => by rw [add_none, Nat.zero_add, hXL.cell, ← Array.getElem?_toList]; exact hu⟩⟩
            have hgs : wA.heap.size ≤ w2.heap.size := hc0.size
            have hsw := hcqA.size
            have hlen := HTJ.out.2.2
            have hlt := HTJ.out.2.1
            have HCL := hide (And.intro hcL hc0)
            clear hX1 hX2 hXL hcL hc0 hB1 hB2
            generalize World.alloc w2 _ = wL at hXg hOL hrL HCL hBg ⊢
            have hLs := HCL.out.1.size
            refine AnyT.one (i := 13) (by kernel_rfl) rfl (fun K hK => ?_)
            rw [if_pos (by rfl)]
            try simp only [List.getElem_toArray, List.getElem_cons_succ, List.getElem_cons_zero, Act.put, List.setIfInBounds_toArray, List.set_cons_zero, List.set_cons_succ]
            refine app_W (.tmp 83) (.tmp 93) rfl hOL.row rfl hrL rfl (fun u hu => by simp at hu; rcases hu with rfl | rfl | rfl <;> rfl) (by omega) (by omega) ?_
            intro v' w4 hO4 hg4 hat4
            have hX4 := hXg.chg (Chg.of_grown hg4) (fun e => (HGV.out ge e.symm).1 rfl)
            have hB4 := hBg.chg (Chg.of_grown hg4) (fun e => (HGV.out g3 e.symm).2 rfl)
            refine hK.out _ _ (fun _ => HSB.out w4 hX4 hB4) ?_
            clear hK K
            try simp only [List.getElem_toArray, List.getElem_cons_succ, List.getElem_cons_zero, Act.put, List.setIfInBounds_toArray, List.set_cons_zero, List.set_cons_succ]
            obtain ⟨B1, bn, bc, rfl⟩ : ∃ A m c, v' = .slice A m c := rdv_sl (RdV.of_own hO4)
            refine AnyT.one (i := 14) (by kernel_rfl) rfl (fun K hK => ?_)
            rw [if_pos (by rfl)]
            try simp only [List.getElem_toArray, List.getElem_cons_succ, List.getElem_cons_zero, Act.put, List.setIfInBounds_toArray, List.set_cons_zero, List.set_cons_succ]
            go_simp
            refine hK.out _ _ (fun _ => HSB.out w4 hX4 hB4) ?_
            clear hK K
            try simp only [List.getElem_toArray, List.getElem_cons_succ, List.getElem_cons_zero, Act.put, List.setIfInBounds_toArray, List.set_cons_zero, List.set_cons_succ]
            refine AnyT.one (i := 15) (by kernel_rfl) rfl (fun K hK => ?_)
            rw [if_pos (by rfl)]
            try simp only [List.getElem_toArray, List.getElem_cons_succ, List.getElem_cons_zero, Act.put, List.setIfInBounds_toArray, List.set_cons_zero, List.set_cons_succ]
            go_simp
            refine hK.out _ _ (fun _ => HSB.out w4 hX4 hB4) ?_
            clear hK K
            try simp only [List.getElem_toArray, List.getElem_cons_succ, List.getElem_cons_zero, Act.put, List.setIfInBounds_toArray, List.set_cons_zero, List.set_cons_succ]
            have y1 : w4.cell? ⟨g3, 11, none⟩ = some (.slice Vl vl vcl) := hB4.cell 11
            have z1 := hB4.frozen 11
            refine AnyT.one (i := 16) (by kernel_rfl) rfl (fun K hK => ?_)
            rw [if_pos (by rfl)]
            try simp only [List.getElem_toArray, List.getElem_cons_succ, List.getElem_cons_zero, Act.put, List.setIfInBounds_toArray, List.set_cons_zero, List.set_cons_succ]
            go_simp
            refine hK.out _ _ (fun h => absurd h (by decide)) ?_
            clear hK K
            try simp only [List.getElem_toArray, List.getElem_cons_succ, List.getElem_cons_zero, Act.put, List.setIfInBounds_toArray, List.set_cons_zero, List.set_cons_succ]
            refine AnyT.nil (by kernel_rfl) ?_
            have hu1' : OwnB w1 wA.heap.size (.slice U1 n1 c1) o.a := hu1
            have hcs := (Chg.refl (fun k => k = g3) w4).setCell (p := ⟨g3, 11, none⟩) (fun _ => rfl) (.slice B1 bn bc)
            have HO4 := hide (show HasW (w4.setCell ⟨g3, 11, none⟩ (.slice B1 bn bc)) wz.heap.size (.slice B1 bn bc) (x.out.ws.take (j + 1)) (xs ++ [(.slice U1 n1 c1, .slice U2 n2 c2)]) by
              rw [HTJ.out.1]
              exact (HOX.out.grow hsw (((Chg.refl Non wA).drew).trans0 hc1) hu1' hc2 hu2 HCL.out.1 (by rw [← HFF.out]; exact hO4) hg4 hat4).chg hcs fun i h1 h2 e => by omega)
            have HB5 := hide (show Blk (w4.setCell ⟨g3, 11, none⟩ (.slice B1 bn bc)) g3 45 (ansA x u1 (.slice B1 bn bc) u3) from hB4.set_ 11 _)
            have hcw4 : Chg (fun k => k = g3) wz (w4.setCell ⟨g3, 11, none⟩ (.slice B1 bn bc)) := ((hcqA.trans0 (HCL.out.2.trans0 HCL.out.1)).trans (Chg.of_grown hg4) fun i hi e => by
              have := (World.ownsRow.lt HOX.out.row i e.symm).1
              omega).trans hcs fun _ _ h => h
            clear hO4 hg4 hat4 hX4 hXg hOL hrL HOX HS HSB HSd hu1 hu1' hu2 hc1 hc2 HCL rpA rqA hcqA HGV hB4 hBg hBA hcs y1 z1
            go_wp2_with fail
            go_roundw
            case rel => exact ⟨j + 1, _, _, by go_num, by have := HTJ.out.2.1; omega, HO4, HB5, hcw4⟩
            case measure => (have h := HTJ.out.2.1; simp [intOf]; omega)
          · have hge : ¬ ((j : Int) < (vn : Int)) := by omega
            have HJ := hide (show x.out.ws.take j = x.out.ws from List.take_of_length_le (by have := HVN.out; omega))
            clear hjl hj
            have hO := HO.out
            rw [HJ.out] at hO
            obtain ⟨U1, n1, c1, rfl⟩ : ∃ A m c, u1 = .slice A m c := rdv_sl (RdV.of_own HRr.out.row)
            obtain ⟨U3, n3, c3, rfl⟩ : ∃ A m c, u3 = .slice A m c := HW5.out.2.1.shapeH
            have hBq := HB.out
            have HOq := hide hO
            have HQ := hide hcq
            have hYq := (HY5.out.1.chg HC5.out HY5.out.2.1).chg hcq HY5.out.2.1
            clear hO HO HB hcq
            have hs5 := HC5.out.size
            have hcn : Chg Non w wr := (HW5.out.1.trans HC5.out fun k hk e => by have := HY5.out.2.2; omega).trans HQ.out fun k hk e => by have := HY5.out.2.2; omega
            have HCN := hide hcn
            clear hs5 hcn hB5 hXB hY HB0 HXr hwr
            go_wp2_with (first | (refine wpList_load_row rfl 45 (.tmp 3) rfl g3 rfl 45 (ansA x (.slice U1 n1 c1) (.slice Vl vl vcl) (.slice U3 n3 c3)) (0, 0) _ hBq Try.underlying45 rfl info_ans ?_) | (refine wpList_store_any info_ans rfl (.tmp 2) (.tmp 98) rfl g (ansA x (.slice U1 n1 c1) (.slice Vl vl vcl) (.slice U3 n3 c3)) rfl rfl zeroN hYq rfl rfl (by simp [ansA, Value.oneCell']) fun w9 hP9 hc9 => ?_))
            have hw5 := HW5.out
            have hy5 := HY5.out
            have hc5 := HC5.out
            have hcq := HQ.out
            have hpgo := HPG.out
            have hs5 := hc5.size
            have hsq := hcq.size
            have hg9 : g < w0.heap.size := hy5.2.2.2.2.2
            have hsz0 : w.heap.size ≤ wz.heap.size := by have := HW5.out.1.size; omega
            have hR9 := (((HRr.out.chg hcq fun k h1 h2 e => by omega).chg hc9 fun k h1 h2 e => by omega))
            have hW9 := HOq.out.chg hc9 fun k h1 h2 e => by omega
            have hO9 := ((hw5.2.1.chg hc5 fun k hk e => hw5.2.2.2.1 k hk e).chg hcq fun k hk e => hw5.2.2.2.1 k hk e).chg hc9 fun k hk e => by have := (hw5.2.1.lt k hk).1; omega
            have hcf : Chg Non w w9 := HCN.out.trans hc9 fun k hk e => by omega
            have HF := hide (And.intro hR9 (And.intro hW9 (And.intro hO9 hcf)))
            clear hR9 hW9 hO9 hcf
            refine bodyPost_ret (results_cell_row (P := Try.prog) rfl _ _ g 45 _ (0, 0) _ rfl hP9 Try.underlying45 rfl info_ans) rfl ⟨_, _, _, rfl, ⟨us, HF.out.1.low HW5.out.1.size⟩, ⟨xs, HF.out.2.1.low hsz0⟩, HF.out.2.2.1.low hcW.size, HF.out.2.2.2⟩
end Go.Proofs.Ytncchbcoldgpbaa
