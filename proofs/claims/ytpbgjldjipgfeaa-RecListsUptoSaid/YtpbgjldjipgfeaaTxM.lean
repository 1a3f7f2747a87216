/- Transactions' names: lists of them, slices.Contains, and rec.Touched's append. -/
import Derived.Test.YtpbgjldjipgfeaaBtwA
import Derived.Test.YtpbgjldjipgfeaaOrdT
import Derived.Laws.StructEq
namespace Go.Proofs.Ytpbgjldjipgfeaa
open Go.RowKit
set_option linter.unusedVariables false
set_option linter.unusedSimpArgs false

abbrev Tx := Nat × Nat × Nat
def tvs (p : Tx) : List Value := [.int .u64 (p.1 : Int), .int .u64 (p.2.1 : Int), .int .u64 (p.2.2 : Int)]
theorem txn_eqIn (p q : Tx) (w : World) : (Op.equalIn 10000 24 (.agg #[.int .u64 (p.1 : Int), .int .u64 (p.2.1 : Int), .int .u64 (p.2.2 : Int)]) (.agg #[.int .u64 (q.1 : Int), .int .u64 (q.2.1 : Int), .int .u64 (q.2.2 : Int)])).run Try.prog w = .ok (decide (p = q)) w := by
  have hS : Try.prog.underlying 24 = some (.struct (Try.prog.fieldsOf 24)) := by kernel_rfl
  have hp : Try.prog.stoodInHeld 24 = false := by kernel_rfl
  have u1 := Try.underlying22
  rw [show (10000 : Nat) = 9999 + 1 from rfl, run_equalIn_agg w 9999 24 _ _ hS hp]
  simp only [Program.fieldsOf, Try.underlying24]
  go_simp
  obtain ⟨p1, p2, p3⟩ := p
  obtain ⟨q1, q2, q3⟩ := q
  by_cases h1 : p1 = q1 <;> by_cases h2 : p2 = q2 <;> by_cases h3 : p3 = q3 <;> simp [h1, h2, h3] <;> omega
/-- the slice value v reads as the list of names -/
def RdTx (w : World) (F : Nat → Prop) (v : Value) (l : List Tx) : Prop := RdV w F 3 v l.length (l.flatMap tvs)
theorem tvs_len (l : List Tx) : (l.flatMap tvs).length = l.length * 3 := by
  induction l with
  | nil => rfl
  | cons a l ih => rw [List.flatMap_cons, List.length_append, ih, List.length_cons]; simp only [tvs, List.length_cons, List.length_nil]; omega
theorem RdTx.at_ {w : World} {F : Nat → Prop} {A : Option Addr} {n c : Nat} {l1 l2 : List Tx} {p : Tx} (h : RdTx w F (.slice A n c) (l1 ++ p :: l2)) :
    ∃ ad, A = some ad ∧ w.cell? (ad.add (l1.length * 3)) = some (.int .u64 (p.1 : Int)) ∧ w.cell? ⟨(ad.add (l1.length * 3)).block, (ad.add (l1.length * 3)).off + 1, none⟩ = some (.int .u64 (p.2.1 : Int)) ∧ w.cell? ⟨(ad.add (l1.length * 3)).block, (ad.add (l1.length * 3)).off + 2, none⟩ = some (.int .u64 (p.2.2 : Int)) := by
  obtain ⟨h1, A', c', e, _, _, h2⟩ := h
  injection e with e1 e2 e3
  subst e1
  obtain ⟨ad, e, _, hc⟩ := h2 (by simp only [List.length_append, List.length_cons]; omega)
  subst e
  have hX : (l1.flatMap tvs).length = l1.length * 3 := tvs_len l1
  have key : ∀ i u, i < 3 → (tvs p)[i]? = some u → w.cell? (ad.add (l1.length * 3 + i)) = some u := fun i u hi hu => hc _ _ (by
    rw [List.flatMap_append, List.flatMap_cons, ← hX, List.getElem?_append_right (by omega), Nat.add_sub_cancel_left, List.getElem?_append_left (by simp only [tvs, List.length_cons, List.length_nil]; omega)]
    exact hu)
  refine ⟨ad, rfl, key 0 _ (by omega) rfl, ?_, ?_⟩
  · rw [← add_succ ad (l1.length * 3) 1 (by omega)]; exact key 1 _ (by omega) rfl
  · rw [← add_succ ad (l1.length * 3) 2 (by omega)]; exact key 2 _ (by omega) rfl
theorem info_T1 : (Try.prog.info? 24).map (fun i => (i.zero, i.size, i.bytes)) = some (some (.agg #[.int .u64 0, .int .u64 0, .int .u64 0]), 3, 24) := by kernel_rfl
/-- append of one name that stands in a literal's block -/
theorem append_Tx {w : World} {ops : Array Oper} {rest : List Oper} {o : Oper} {a : Act} {Q : Exit → Act → World → Prop} (hgd : o.guard = none) (s x : Operand)
    (ho : o.op = .call { callee := .builtin .append, args := #[s, x], argTypes := #[58, 58] })
    {base : Nat} {v : Value} {xs : List Value} {n : Nat} (hown : w.ownsRow base 24 3 v n xs) (hv : a.eval s = v)
    {p : Tx} {g : Nat} (hg : Blk w g 24 #[.int .u64 (p.1 : Int), .int .u64 (p.2.1 : Int), .int .u64 (p.2.2 : Int)]) (hy : a.eval x = .slice (some ⟨g, 0, none⟩) 1 1)
    (hb : n + 1 ≤ 1000000000000) (hbase : base ≤ w.heap.size)
    (h : ∀ v' w', w'.ownsRow base 24 3 v' (n + 1) (xs ++ tvs p) → w.grownBy w' v.ownBlock → (v'.ownBlock = v.ownBlock ∨ v'.ownBlock = some w.heap.size) → wpList Try.prog ops Q rest (a.put o.dst v') w') : wpList Try.prog ops Q (o :: rest) a w := by
  obtain ⟨i, hi, hz, h1, h2⟩ := info_parts info_T1
  have hr : RdV w (fun _ => True) 3 (.slice (some ⟨g, 0, none⟩) 1 1) 1 (tvs p) := ⟨rfl, _, 1, rfl, Nat.le_refl _, by simp [maxLen], fun _ => ⟨_, rfl, trivial, fun j y hyj => by
    rw [add_none, hg.cell, Nat.zero_add]
    rw [← hyj]; exact List.getElem?_toArray⟩⟩
  refine wpList_append_rd w hgd s x _ ho base 24 i _ 3 24 Try.underlying58 hi hz h1 h2 rfl (by omega) v hv _ _ hown _ _ hy _ _ hr (fun y hy => by simp [tvs] at hy; rcases hy with rfl | rfl | rfl <;> rfl) (by simp only [maxLen]; omega) (by omega) hbase ?_
  intro v' w' hown' hgr _ hat
  exact h v' w' hown' hgr hat
end Go.Proofs.Ytpbgjldjipgfeaa

namespace Go.Proofs.Ytpbgjldjipgfeaa
open Go.RowKit
set_option linter.unusedVariables false
set_option linter.unusedSimpArgs false

set_option maxHeartbeats 4000000 in
theorem txIndex {v : Value} {l : List Tx} {F : Nat → Prop} {p : Tx} {w : World} (hr : RdTx w F v l) :
    Calls Try.prog 63 #[v, .agg #[.int .u64 (p.1 : Int), .int .u64 (p.2.1 : Int), .int .u64 (p.2.2 : Int)]] w fun e w' => ∃ j : Int, e = .returned (.int .i64 j) ∧ decide (0 ≤ j) = l.contains p ∧ Chg Non w w' := by
  obtain ⟨A, c, rfl, hcc, hcm⟩ := RdV.shape hr
  have hcm' : l.length ≤ 9223372036854775807 := by unfold maxLen at hcm; omega
  have hX := Blk.new w 24 #[.int .u64 (p.1 : Int), .int .u64 (p.2.1 : Int), .int .u64 (p.2.2 : Int)]
  have hk0 := (Chg.refl Non w).alloc (.cells #[.int .u64 (p.1 : Int), .int .u64 (p.2.1 : Int), .int .u64 (p.2.2 : Int)] 24)
  go_enter Try.func63, Try.ntmps63
  go_wp2_with fail
  obtain ⟨bo, hbo⟩ : ∃ b, b = w.heap.size := ⟨_, rfl⟩
  rw [← hbo] at hX ⊢
  generalize World.alloc _ _ = w0 at hX hk0 ⊢
  clear hbo
  have hr0 : RdTx w0 F (.slice A l.length c) l := RdV.chg hr hk0 (fun _ _ h => h)
  have HX := hide hX
  clear hX hr
  go_loopw [8] (fun iv wr => ∃ (l1 l2 : List Tx), iv = .int .i64 (l1.length : Int) ∧ Hid (l = l1 ++ l2) ∧ Hid (l1.contains p = false) ∧ Chg Non w0 wr) (fun iv _ => l.length - (intOf iv).toNat)
  case atStart => exact ⟨[], l, rfl, hide rfl, hide rfl, Chg.refl _ _⟩
  case round =>
    obtain ⟨l1, l2, rfl, HL, HC, hcw⟩ := hrel
    have hlen : l.length = l1.length + l2.length := by rw [HL.out, List.length_append]
    rcases l2 with _ | ⟨y, l2⟩
    · have hge : ¬ ((l1.length : Int) < (l.length : Int)) := by simp at hlen; omega
      have hkc : l.contains p = false := by rw [HL.out, List.append_nil]; exact HC.out
      have HK := hide hkc
      clear hkc hlen
      go_wp2_with fail
      go_ret
      refine ⟨-1, rfl, ?_, hk0.trans0 hcw⟩
      have h := HK.out
      simp at h ⊢
      exact h
    · have h1i : (l1.length : Int) < (l.length : Int) := by rw [hlen]; simp; omega
      have h0i : (0 : Int) ≤ (l1.length : Int) := by omega
      have hrw : RdTx wr F (.slice A l.length c) (l1 ++ y :: l2) := HL.out ▸ RdV.chg hr0 hcw (fun _ _ h => h)
      obtain ⟨ad, rfl, c1, c2, c3⟩ := RdTx.at_ hrw
      have HCE := hide (And.intro c1 (And.intro c2 c3))
      have HLEN := hide hlen
      clear hlen hrw c1 c2 c3
      have hE := fun w' => txn_eqIn p y w'
      have hEE := hide hE
      clear hE
      have hbx := HX.out.c0 hcw
      have HB := hide hbx
      clear hbx
      go_upto_region 4 with fail
      have hcd : Chg Non wr wr.drew := (Chg.refl Non wr).drew
      refine wp_region_T (Chg Non wr.drew) 99 (by kernel_rfl) ?_
      have HS := hide (Chg.refl Non wr.drew)
      refine AnyT.take (i := 0) (v := ?_) rfl (by kernel_rfl) (by kernel_rfl) (fun _ _ _ h => h) (by kernel_rfl) (by kernel_rfl) (Or.inl ⟨by rfl, ?_⟩) HS.out ?_
      rotate_left
      · (intro w9 h9; have y0 : w9.cell? ⟨bo, 0, none⟩ = some (.int .u64 (p.1 : Int)) := ((HB.out.c0 hcd).c0 h9).cell 0; have y1 : w9.cell? ⟨bo, 1, none⟩ = some (.int .u64 (p.2.1 : Int)) := ((HB.out.c0 hcd).c0 h9).cell 1; have y2 : w9.cell? ⟨bo, 2, none⟩ = some (.int .u64 (p.2.2 : Int)) := ((HB.out.c0 hcd).c0 h9).cell 2; go_simp; try with_reducible rfl)
      try simp only [List.getElem_toArray, List.getElem_cons_succ, List.getElem_cons_zero, Act.put, List.setIfInBounds_toArray, List.set_cons_zero, List.set_cons_succ]
      refine AnyT.take (i := 1) (v := ?_) rfl (by kernel_rfl) (by kernel_rfl) (fun _ _ _ h => h) (by kernel_rfl) (by kernel_rfl) (Or.inl ⟨by rfl, ?_⟩) HS.out ?_
      rotate_left
      · (intro w9 h9; go_simp; try with_reducible rfl)
      try simp only [List.getElem_toArray, List.getElem_cons_succ, List.getElem_cons_zero, Act.put, List.setIfInBounds_toArray, List.set_cons_zero, List.set_cons_succ]
      refine AnyT.take (i := 2) (v := ?_) rfl (by kernel_rfl) (by kernel_rfl) (fun _ _ _ h => h) (by kernel_rfl) (by kernel_rfl) (Or.inl ⟨by rfl, ?_⟩) HS.out ?_
      rotate_left
      · (intro w9 h9; go_simp; try with_reducible rfl)
      try simp only [List.getElem_toArray, List.getElem_cons_succ, List.getElem_cons_zero, Act.put, List.setIfInBounds_toArray, List.set_cons_zero, List.set_cons_succ]
      refine AnyT.take (i := 3) (v := ?_) rfl (by kernel_rfl) (by kernel_rfl) (fun _ _ _ h => h) (by kernel_rfl) (by kernel_rfl) (Or.inl ⟨by rfl, ?_⟩) HS.out ?_
      rotate_left
      · (intro w9 h9; go_simp; try with_reducible rfl)
      try simp only [List.getElem_toArray, List.getElem_cons_succ, List.getElem_cons_zero, Act.put, List.setIfInBounds_toArray, List.set_cons_zero, List.set_cons_succ]
      refine AnyT.take (i := 4) (v := ?_) rfl (by kernel_rfl) (by kernel_rfl) (fun _ _ _ h => h) (by kernel_rfl) (by kernel_rfl) (Or.inl ⟨by rfl, ?_⟩) HS.out ?_
      rotate_left
      · (intro w9 h9; have y0 := (hcd.trans0 h9).cell HCE.out.1 (fun h => h); have y1 := (hcd.trans0 h9).cell HCE.out.2.1 (fun h => h); have y2 := (hcd.trans0 h9).cell HCE.out.2.2 (fun h => h); go_simp; try with_reducible rfl)
      try simp only [List.getElem_toArray, List.getElem_cons_succ, List.getElem_cons_zero, Act.put, List.setIfInBounds_toArray, List.set_cons_zero, List.set_cons_succ]
      refine AnyT.take (i := 5) (v := ?_) rfl (by kernel_rfl) (by kernel_rfl) (fun _ _ _ h => h) (by kernel_rfl) (by kernel_rfl) (Or.inl ⟨by rfl, ?_⟩) HS.out ?_
      rotate_left
      · (intro w9 h9; have hE := hEE.out; go_simp; try with_reducible rfl)
      try simp only [List.getElem_toArray, List.getElem_cons_succ, List.getElem_cons_zero, Act.put, List.setIfInBounds_toArray, List.set_cons_zero, List.set_cons_succ]
      refine AnyT.nil (by kernel_rfl) ?_
      have HZ := hide (hcw.drew)
      by_cases hpy : p = y
      · have HP := hide hpy
        have hd : decide (p = y) = true := decide_eq_true hpy
        clear hpy
        go_wp2_with fail
        go_ret
        refine ⟨(l1.length : Int), rfl, ?_, hk0.trans0 HZ.out⟩
        rw [HL.out, HP.out, decide_eq_true h0i]
        simp
      · have HP := hide hpy
        have hd : decide (p = y) = false := decide_eq_false hpy
        clear hpy
        go_wp2_with fail
        go_roundw
        case rel => exact ⟨l1 ++ [y], l2, by rw [List.length_append]; go_num, hide (by rw [HL.out, List.append_assoc]; rfl), hide (by rw [List.contains_eq_any_beq, List.any_append, ← List.contains_eq_any_beq, HC.out]; simp [HP.out]), HZ.out⟩
        case measure => (have hlen := HLEN.out; simp at hlen; simp [intOf]; omega)

set_option maxHeartbeats 4000000 in
theorem txContains {v : Value} {l : List Tx} {F : Nat → Prop} {p : Tx} {w : World} (hr : RdTx w F v l) :
    Calls Try.prog 42 #[v, .agg #[.int .u64 (p.1 : Int), .int .u64 (p.2.1 : Int), .int .u64 (p.2.2 : Int)]] w fun e w' => e = .returned (.bool (l.contains p)) ∧ Chg Non w w' := by
  have hX := Blk.new w 24 #[.int .u64 (p.1 : Int), .int .u64 (p.2.1 : Int), .int .u64 (p.2.2 : Int)]
  have hk0 := (Chg.refl Non w).alloc (.cells #[.int .u64 (p.1 : Int), .int .u64 (p.2.1 : Int), .int .u64 (p.2.2 : Int)] 24)
  go_enter Try.func42, Try.ntmps42
  go_upto_region 1 with fail
  obtain ⟨bo, hbo⟩ : ∃ b, b = w.heap.size := ⟨_, rfl⟩
  rw [← hbo] at hX ⊢
  generalize World.alloc _ _ = w0 at hX hk0 ⊢
  clear hbo
  have hr0 : RdTx w0 F v l := RdV.chg hr hk0 (fun _ _ h => h)
  have y0 : w0.cell? ⟨bo, 0, none⟩ = some (.int .u64 (p.1 : Int)) := hX.cell 0
  have y1 : w0.cell? ⟨bo, 1, none⟩ = some (.int .u64 (p.2.1 : Int)) := hX.cell 1
  have y2 : w0.cell? ⟨bo, 2, none⟩ = some (.int .u64 (p.2.2 : Int)) := hX.cell 2
  clear hX
  go_wp2_with (go_at_call 63; refine (txIndex hr0).mono ?_; rintro e w' ⟨j, rfl, hj, hc⟩; have HJ := hide hj; clear hj)
  go_ret
  exact ⟨ret_bool HJ.out, hk0.trans0 hc⟩
end Go.Proofs.Ytpbgjldjipgfeaa
