/- The walk of rec's reader.field at the letter S. -/
import Derived.Test.YtpbgjldjipgfeaaRecT
namespace Go.Proofs.Ytpbgjldjipgfeaa
open Go.RowKit
set_option linter.unusedVariables false

theorem step_I1 {w : World} {ops : Array Oper} {o : Oper} {a : Act} {K : Act → World → Prop} {Q : Exit → Act → World → Prop} {E : Prop} (hgd : o.guard = none) (s x : Operand)
    (ho : o.op = .call { callee := .builtin .append, args := #[s, x], argTypes := #[27, 27] })
    {base : Nat} {v : Value} {xs : List Value} {n : Nat} (hown : w.ownsRow base 3 1 v n xs) (hv : a.eval s = v)
    {m : Int} {g : Nat} (hg : Blk w g 3 #[.int .i64 m]) (hy : a.eval x = .slice (some ⟨g, 0, none⟩) 1 1)
    (hb : n + 1 ≤ 1000000000000) (hbase : base ≤ w.heap.size)
    (h : ∀ v' w', w'.ownsRow base 3 1 v' (n + 1) (xs ++ [.int .i64 m]) → w.grownBy w' v.ownBlock → K (a.put o.dst v') w') :
    if Region.wanted o (yielded ops a.tmps) = true then Oper.wp Try.prog o a w K Q else E := by
  have hw : Region.wanted o (yielded ops a.tmps) = true := by simp [Region.wanted, hgd]
  rw [if_pos hw]
  obtain ⟨i, hi, hz, h1, h2⟩ := info_parts info_int
  have hr : RdV w (fun _ => True) 1 (.slice (some ⟨g, 0, none⟩) 1 1) 1 [.int .i64 m] := ⟨rfl, _, 1, rfl, Nat.le_refl _, by simp [maxLen], fun _ => ⟨_, rfl, trivial, fun j y hyj => by
    rw [add_none, hg.cell]
    match j, hyj with
    | 0, hyj => simpa using hyj
    | j + 1, hyj => simp at hyj⟩⟩
  subst hv
  rw [← hy] at hr
  refine wp_append_rd w s x _ ho base 3 i _ 1 8 Try.underlying27 hi hz h1 h2 rfl (by omega) _ _ hown _ _ _ hr (fun y hy => by simp at hy; subst hy; rfl) (by simp only [maxLen]; omega) (by omega) hbase ?_
  intro v' w' hown' hgr _ _
  exact h v' w' hown' hgr
theorem shB_nums (l : List Int) : shB l = numsB (l.map u64z) := by
  simp [shB, numsB, List.flatMap_map]
theorem wrap_u64z {s : Int} (h : -9223372036854775808 ≤ s ∧ s ≤ 9223372036854775807) : IntKind.i64.wrap ((u64z s : Nat) : Int) = s := by
  rw [IntKind.wrap_i64]
  unfold u64z
  omega

set_option maxHeartbeats 8000000 in
set_option maxRecDepth 100000 in
theorem recFieldS {w : World} {F G : Nat → Prop} {g o : Nat} {p : Value} {vs : List Value} {c0 c1 c2 c3 c4 c5 c6 c8 c9 c10 : Value} {l : List Int} (h : RdOk w F g (p :: vs)) (hG : ¬ G g) (hl : vs.length ≤ 1000000000000) (hFw : ∀ k, F k → k < w.heap.size ∧ k ≠ o)
    (ho : Blk w o 32 #[c0, c1, c2, c3, c4, c5, c6, .slice none 0 0, c8, c9, c10]) (hog : o ≠ g) (hr : RdB w G p (shB l)) (hn : l.length ≤ 1048576) (hw : ∀ s ∈ l, -9223372036854775808 ≤ s ∧ s ≤ 9223372036854775807) :
    Calls Try.prog 37 #[.pointer (some ⟨g, 0, none⟩), .pointer (some ⟨o, 0, none⟩), .int .i32 83] w fun e w' => e = .returned (.tuple #[]) ∧ ∃ sv, Blk w' o 32 #[c0, c1, c2, c3, c4, c5, c6, sv, c8, c9, c10] ∧ w'.ownsRow w.heap.size 3 1 sv l.length (l.map fun n => .int .i64 n) ∧ RdOk w' F g vs ∧ Chg (fun k => k = g ∨ k = o) w w' := by
  have hg := h.blk
  have hol := ho.lt
  have hb0 := Blk.new w 82 #[.pointer (some ⟨o, 0, none⟩)]
  have hk0 := (Chg.refl Non w).alloc (.cells #[.pointer (some ⟨o, 0, none⟩)] 82)
  have h0 := h.c0 hk0
  have ho0 := ho.c0 hk0
  have hr0 := hr.c0 hk0
  clear h ho hr
  go_enter Try.func37, Try.ntmps37
  go_upto_region 1 with fail
  have hsz : (w.alloc (.cells #[.pointer (some ⟨o, 0, none⟩)] 82)).heap.size = w.heap.size + 1 := by simp
  generalize World.alloc _ _ = w0 at hb0 hk0 h0 ho0 hr0 hsz ⊢
  have hF0 : ∀ k, F k → k < w0.heap.size := fun k hk => by have := hFw k hk; omega
  rw [shB_nums] at hr0
  have hall := recAll h0 hr0 hG hl (fun n hn => by obtain ⟨s, _, rfl⟩ := List.mem_map.1 hn; exact u64z_lt s) (by rw [List.length_map]; omega) hF0
  go_wp2_with fail
  refine hall.mono ?_
  rintro e w1 ⟨u, rfl, hu, hRd, hc1⟩
  have hlen : (l.map u64z).length = l.length := List.length_map ..
  obtain ⟨U, cu, rfl, hcu, hmu⟩ := hu.shape
  rw [hlen] at hu hcu ⊢
  unfold maxLen at hmu
  have ho1 := ho0.chg hc1 hog
  have hb1 := hb0.chg hc1 (by omega)
  have hs1 := hc1.size
  clear hall h0 hr0
  go_wp2_with fail
  go_loopw [55] (fun iv wr => ∃ (k : Nat) (sv : Value), k ≤ l.length ∧ iv = .int .i64 (k : Int) ∧ Blk wr o 32 #[c0, c1, c2, c3, c4, c5, c6, sv, c8, c9, c10] ∧ wr.ownsRow w1.heap.size 3 1 sv k ((l.take k).map fun n => .int .i64 n) ∧ Blk wr w.heap.size 82 #[.pointer (some ⟨o, 0, none⟩)] ∧ RdOk wr F g vs ∧ Chg (fun j => j = o) w1 wr) (fun iv _ => l.length - (intOf iv).toNat)
  case atStart => exact ⟨0, _, Nat.zero_le _, rfl, ho1, World.ownsRow_nil _ _ _ 1, hb1, hRd, Chg.refl _ _⟩
  case round =>
    clear hRd ho1 hb1
    obtain ⟨k, sv, hk, rfl, ho, hrow, hb, hRd, hcw⟩ := hrel
    by_cases h1 : k < l.length
    · have hu2 : RdU wr (fun b => w0.heap.size ≤ b) (.slice U l.length cu) (l.map u64z) := by
        refine RdU.chg hu hcw fun j hj e => ?_
        subst e
        have : w0.heap.size ≤ j := hj
        omega
      obtain ⟨ad, rfl, _, _, hca⟩ := hu2.at_ (k := k) (by rw [hlen]; exact h1)
      have hel : (l.map u64z)[k]'(by rw [hlen]; exact h1) = u64z l[k] := List.getElem_map ..
      rw [hel] at hca
      have HT := hide (show (l.take (k + 1)).map (fun n => Value.int .i64 n) = (l.take k).map (fun n => .int .i64 n) ++ [.int .i64 l[k]] from by rw [List.take_succ_eq_append_getElem h1, List.map_append]; rfl)
      have hwr := wrap_u64z (hw _ (List.getElem_mem h1))
      obtain ⟨m, hm⟩ : ∃ m, m = l[k] := ⟨_, rfl⟩
      rw [← hm] at hca HT hwr
      obtain ⟨z, hz⟩ : ∃ z, z = u64z m := ⟨_, rfl⟩
      rw [← hz] at hca hwr
      clear hel hu2 hm hz
      have h1i : (k : Int) < (l.length : Int) := by omega
      have h0i : (0 : Int) ≤ (k : Int) := by omega
      go_upto_region 16 with fail
      have hkd := (Chg.refl Non wr).drew.alloc (.cells #[.int .i64 m] 3)
      have d0 : wr.cell? ⟨w.heap.size, 0, none⟩ = some (.pointer (some ⟨o, 0, none⟩)) := hb.cell 0
      have d1 : wr.cell? ⟨o, 7, none⟩ = some sv := ho.cell 7
      have a0 : (wr.alloc (.cells #[.int .i64 m] 3)).cell? ⟨w.heap.size, 0, none⟩ = some (.pointer (some ⟨o, 0, none⟩)) := cell_al d0
      have a1 : (wr.alloc (.cells #[.int .i64 m] 3)).cell? ⟨o, 7, none⟩ = some sv := cell_al d1
      have HO1 := hide (ho.c0 hkd)
      have HB1 := hide (hb.c0 hkd)
      have HR1 := hide (hRd.c0 hkd)
      have hown1 := row_chg hrow hkd fun _ _ h => h
      have hbl := Blk.new wr.drew 3 #[.int .i64 m]
      have hs9 : w1.heap.size ≤ (wr.drew.alloc (.cells #[.int .i64 m] 3)).heap.size := Nat.le_trans hcw.size hkd.size
      have hn9 : k + 1 ≤ 1000000000000 := by omega
      have hno : ¬ (some o = sv.ownBlock) := fun e => by have := (World.ownsRow.lt hrow o e.symm).1; omega
      have hnt : ¬ (some w.heap.size = sv.ownBlock) := fun e => by have := (World.ownsRow.lt hrow _ e.symm).1; omega
      have HCW := hide hcw
      have HOW := hide hown1
      clear ho hb hRd hrow hcw
      go_region_law (first
        | (refine step_I1 rfl _ _ rfl hown1 rfl hbl rfl hn9 hs9 ?_; intro v3 w3 hO3 hg3; obtain ⟨A3, n3, k3, rfl⟩ := RdV.sl (RdV.of_own hO3); have b0 := (Chg.of_grown hg3).cell a0 hnt; have b1 := (Chg.of_grown hg3).cell a1 hno; have HB3 := hide (HO1.out.chg (Chg.of_grown hg3) hno); have g1 := HB3.out.frozen 7))
      all_goals
        (try simp only [List.getElem_toArray, List.getElem_cons_zero, List.getElem_cons_succ, Act.put, List.setIfInBounds_toArray, List.set_cons_zero, List.set_cons_succ])
        have hbl := HOW.out
        have hlo : ∀ j, sv.ownBlock = some j → w1.heap.size ≤ j := fun j hj => (World.ownsRow.lt HOW.out j hj).1
        have hlo3 := fun j hj => (World.ownsRow.lt hO3 j hj).1
        have HX := hide (stored1 HB3.out 7 (.slice A3 n3 k3))
        have HG := hide hg3
        have HO3 := hide hO3
        clear b0 b1 a0 a1 d0 d1 hbl hO3 hg3 hown1
        go_wp2_with fail
        obtain ⟨hbo, hco⟩ := HX.out
        simp only [List.setIfInBounds_toArray, List.set_cons_succ, List.set_cons_zero] at hbo
        have hbt := (HB1.out.chg (Chg.of_grown HG.out) hnt).chg hco (by omega)
        have hrd := (HR1.out.chg (Chg.of_grown HG.out) (fun e => by have := hlo g e.symm; omega) (fun j hj e => by have := hlo j e.symm; have := hFw j hj; omega)).chg hco (fun e => hog e.symm) (fun j hj e => (hFw j hj).2 e)
        have hr9 := row_chg HO3.out hco fun j hj e => by have := hlo3 j hj; omega
        have hc9 : Chg (fun j => j = o) w1 _ := ((HCW.out.trans0 hkd).own HG.out hlo).trans hco fun _ _ h => h
        go_roundw
        case rel => exact ⟨k + 1, _, by omega, by go_num, hbo, by rw [HT.out]; exact hr9, hbt, hrd, hc9⟩
        case measure => simp [intOf]; omega
    · have hkn : k = l.length := by omega
      subst hkn
      have hfull : l.take l.length = l := List.take_length
      rw [hfull] at hrow
      have HO := hide ho
      have HR := hide hrow
      have HD := hide hRd
      have HC := hide hcw
      clear ho hrow hRd hcw hb
      go_wp2_with fail
      exact bodyPost_end (results_none rfl _ _ _) rfl ⟨rfl, sv, HO.out, row_low HR.out (Nat.le_trans hk0.size hs1), HD.out, ((hk0.mono (S' := fun k => k = g ∨ k = o) fun _ _ h => h.elim).trans hc1 fun _ _ h => .inl h).trans HC.out fun _ _ h => .inr h⟩
end Go.Proofs.Ytpbgjldjipgfeaa
