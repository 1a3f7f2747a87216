/- groynelaw12.Own: operations of their own. -/
import Derived.Test.YtncchbcoldgpbaaClM
import Derived.Test.YtncchbcoldgpbaaBaM
namespace Go.Proofs.Ytncchbcoldgpbaa
open Go.RowKit
set_option linter.unusedVariables false
set_option linter.unusedSimpArgs false

/-- operations as they come in -/
def RdOs (w : World) (F : Nat → Prop) (v : Value) (l : List OpS) : Prop :=
  ∃ xs : List (Value × Value), xs.length = l.length ∧ RdV w F 4 v l.length (flO xs l) ∧ ∀ (i : Nat) (x : Value × Value) (y : OpS), xs[i]? = some x → l[i]? = some y → RdB w F x.1 y.key ∧ RdB w F x.2 y.val
theorem RdOs.chg {w w' : World} {F S : Nat → Prop} {v : Value} {r : List OpS} (h : RdOs w F v r) (hc : Chg S w w') (hF : ∀ k, F k → ¬ S k) : RdOs w' F v r := by
  obtain ⟨xs, h1, h2, h3⟩ := h
  exact ⟨xs, h1, h2.chg hc hF, fun i x y hx hy => ⟨(h3 i x y hx hy).1.chg hc hF, (h3 i x y hx hy).2.chg hc hF⟩⟩
theorem RdOs.c0 {w w' : World} {F : Nat → Prop} {v : Value} {r : List OpS} (h : RdOs w F v r) (hc : Chg Non w w') : RdOs w' F v r := h.chg hc fun _ _ h => h
theorem RdOs.shape {w : World} {F : Nat → Prop} {v : Value} {r : List OpS} (h : RdOs w F v r) : ∃ A c, v = .slice A r.length c ∧ r.length ≤ c ∧ c ≤ maxLen := by
  obtain ⟨xs, h1, h2, h3⟩ := h
  exact h2.shape
theorem RdOs.at_ {w : World} {F : Nat → Prop} {A : Option Addr} {n c : Nat} {l : List OpS} (h : RdOs w F (.slice A n c) l) {k : Nat} (hk : k < l.length) :
    ∃ ad p q, A = some ad ∧ F ad.block ∧ w.cell? (ad.add (k * 4)) = some (.int .i64 l[k].kind) ∧ w.cell? ⟨(ad.add (k * 4)).block, (ad.add (k * 4)).off + 1, none⟩ = some p ∧ w.cell? ⟨(ad.add (k * 4)).block, (ad.add (k * 4)).off + 2, none⟩ = some q ∧
      w.cell? ⟨(ad.add (k * 4)).block, (ad.add (k * 4)).off + 3, none⟩ = some (.int .i64 l[k].most) ∧ RdB w F p l[k].key ∧ RdB w F q l[k].val := by
  obtain ⟨xs, h1, ⟨h2, A', c', e, _, _, h4⟩, h3⟩ := h
  injection e with e1 e2 e3
  subst e1
  obtain ⟨ad, e, hF, hc⟩ := h4 (by omega)
  have hkx : k < xs.length := by omega
  have hz : k < (xs.zip l).length := by rw [List.length_zip]; omega
  have hg : (xs.zip l)[k] = (xs[k], l[k]) := by rw [List.getElem_zip]
  have hcell := fun i (hi : i < 4) => flat4_get (fun p : (Value × Value) × OpS => Value.int .i64 p.2.kind) (fun p => p.1.1) (fun p => p.1.2) (fun p => Value.int .i64 p.2.most) (xs.zip l) k i hz hi
  rw [hg] at hcell
  obtain ⟨r1, r2⟩ := h3 k xs[k] l[k] (List.getElem?_eq_getElem hkx) (List.getElem?_eq_getElem hk)
  refine ⟨ad, xs[k].1, xs[k].2, e, hF, ?_, ?_, ?_, ?_, r1, r2⟩
  · exact hc (k * 4) _ (hcell 0 (by omega))
  · rw [← add_succ _ _ _ (by omega)]; exact hc (k * 4 + 1) _ (hcell 1 (by omega))
  · rw [← add_succ _ _ _ (by omega)]; exact hc (k * 4 + 2) _ (hcell 2 (by omega))
  · rw [← add_succ _ _ _ (by omega)]; exact hc (k * 4 + 3) _ (hcell 3 (by omega))
theorem RdOs.take {w : World} {F : Nat → Prop} {A : Option Addr} {n c : Nat} {l : List OpS} (h : RdOs w F (.slice A n c) l) {k : Nat} (hk : k ≤ l.length) : RdOs w F (.slice A k c) (l.take k) := by
  obtain ⟨xs, h1, ⟨h2, A', c', e, h5, h6, h4⟩, h3⟩ := h
  injection e with e1 e2 e3
  subst e1; subst e3
  have hl : (l.take k).length = k := by rw [List.length_take]; omega
  have hx : (xs.take k).length = k := by rw [List.length_take]; omega
  have hfl : flO (xs.take k) (l.take k) = (flO xs l).take (k * 4) := by
    have e1 : flO xs l = flO (xs.take k) (l.take k) ++ flO (xs.drop k) (l.drop k) := by
      unfold flO
      rw [← List.flatMap_append, ← List.zip_append (by rw [hx, hl]), List.take_append_drop, List.take_append_drop]
    have e2 := flO_len (xs.take k) (l.take k) (by rw [hx, hl])
    rw [hl] at e2
    rw [e1, ← e2, List.take_left]
  refine ⟨xs.take k, by rw [hx, hl], ⟨by rw [flO_len _ _ (by rw [hx, hl])], A, c, by rw [hl], by omega, h6, fun hn => ?_⟩, fun i x y hx hy => ?_⟩
  · obtain ⟨ad, e, hF, hc⟩ := h4 (by omega)
    refine ⟨ad, e, hF, fun j u hu => hc j u ?_⟩
    rw [hfl, List.getElem?_take] at hu
    split at hu
    · exact hu
    · cases hu
  · rw [List.getElem?_take] at hx hy
    split at hx
    · rename_i hik
      rw [if_pos hik] at hy
      exact h3 i x y hx hy
    · cases hx
theorem HasO.nil_ (w : World) (base : Nat) : HasO w base (.slice none 0 0) [] [] := ⟨rfl, World.ownsRow_nil w base _ 4, OwnQs.nil_ _ _, fun p hp => by simp [pcO] at hp⟩
/-- one operation more -/
theorem HasO.grow {w w1 w2 wL w4 : World} {b : Nat} {v v' u1 u2 : Value} {l : List OpS} {xs : List (Value × Value)} {o : OpS} (h : HasO w b v l xs) (hb : b ≤ w.heap.size) (hc1 : Chg Non w w1) (hu1 : OwnB w1 w.heap.size u1 o.key) (hc2 : Chg Non w1 w2) (hu2 : OwnB w2 w1.heap.size u2 o.val)
    (hcL : Chg Non w2 wL) (hrow : w4.ownsRow b 85 4 v' (l.length + 1) (flO xs l ++ [.int .i64 o.kind, u1, u2, .int .i64 o.most])) (hg : wL.grownBy w4 v.ownBlock) (hat : v'.ownBlock = v.ownBlock ∨ v'.ownBlock = some wL.heap.size) : HasO w4 b v' (l ++ [o]) (xs ++ [(u1, u2)]) := by
  have hvl := World.ownsRow.lt h.row
  have hq1 := h.own.add hc1 (fun _ _ _ h => h) hu1 hb
  have hq2 := hq1.add (t := o.val) hc2 (fun _ _ _ h => h) hu2 (Nat.le_trans hb hc1.size)
  have hqL := hq2.c0 hcL
  have hpc : pcO (xs ++ [(u1, u2)]) (l ++ [o]) = pcO xs l ++ [(u1, o.key)] ++ [(u2, o.val)] := by rw [pcO_snoc h.len, List.append_assoc]; rfl
  have hap : ∀ p ∈ pcO xs l ++ [(u1, o.key)] ++ [(u2, o.val)], ∀ k, p.1.ownBlock = some k → v.ownBlock ≠ some k := by
    intro p hp k hk e
    rcases List.mem_append.1 hp with hp | hp
    · rcases List.mem_append.1 hp with hp | hp
      · exact h.apt p hp k e hk
      · rw [List.mem_singleton] at hp
        subst hp
        have h1 := (hu1.lt k hk).1
        have h2 := (hvl k e).2
        omega
    · rw [List.mem_singleton] at hp
      subst hp
      have h1 := (hu2.lt k hk).1
      have h2 := (hvl k e).2
      have := hc1.size
      omega
  refine ⟨by rw [List.length_append, List.length_append, h.len]; rfl, ?_, ?_, ?_⟩
  · rw [List.length_append, flO_snoc h.len]
    exact hrow
  · rw [hpc]
    exact ⟨fun p hp => (hqL.1 p hp).chg (Chg.of_grown hg) fun k hk e => hap p hp k hk e.symm, hqL.2⟩
  · rw [hpc]
    intro p hp k hk e
    rcases hat with h1 | h1
    · exact hap p hp k e (h1 ▸ hk)
    · rw [h1] at hk
      injection hk with hk
      have := ((hqL.1 p hp).lt k e).2
      omega
end Go.Proofs.Ytncchbcoldgpbaa

namespace Go.Proofs.Ytncchbcoldgpbaa
open Go.RowKit
set_option linter.unusedVariables false
set_option linter.unusedSimpArgs false

theorem rdv_sl {w : World} {F : Nat → Prop} {sz n : Nat} {v : Value} {xs : List Value} (h : RdV w F sz v n xs) : ∃ A m c, v = .slice A m c := by
  obtain ⟨_, A, c, e, _⟩ := h
  exact ⟨A, _, c, e⟩
/-- append of one operation, in a region that draws its order -/
theorem app_O {w : World} {o : Oper} {a : Act} {K : Act → World → Prop} {Q : Exit → Act → World → Prop} (s x : Operand)
    (ho : o.op = .call { callee := .builtin .append, args := #[s, x], argTypes := #[25, 25] })
    {base : Nat} {v : Value} {xs : List Value} {n : Nat} (hown : w.ownsRow base 85 4 v n xs) (hv : a.eval s = v)
    {y : Value} {F : Nat → Prop} {news : List Value} (hr : RdV w F 4 y 1 news) (hy : a.eval x = y) (h1 : ∀ u ∈ news, u.oneCell' = true)
    (hb : n + 1 ≤ 1000000000000) (hbase : base ≤ w.heap.size)
    (h : ∀ v' w', w'.ownsRow base 85 4 v' (n + 1) (xs ++ news) → w.grownBy w' v.ownBlock → (v'.ownBlock = v.ownBlock ∨ v'.ownBlock = some w.heap.size) → K (a.put o.dst v') w') : o.wp Try.prog a w K Q := by
  obtain ⟨i, hi, hz, h2, h3⟩ := info_parts info_op
  subst hv; subst hy
  refine wp_append_rd w s x _ ho base 85 i _ 4 64 Try.underlying25 hi hz h2 h3 rfl (by omega) _ _ hown _ _ _ hr h1 (by simp only [maxLen]; omega) (by omega) hbase ?_
  intro v' w' hown' hgr _ hat
  exact h v' w' hown' hgr hat

set_option maxHeartbeats 16000000 in
set_option maxRecDepth 100000 in
theorem ownOps {v : Value} {l : List OpS} {F : Nat → Prop} {w : World} (hr : RdOs w F v l) (hn : l.length ≤ 1000000000) (hl : ∀ o ∈ l, o.key.length ≤ 1000000000 ∧ o.val.length ≤ 1000000000) :
    Calls Try.prog 25 #[v] w fun e w' => ∃ u : Value, e = .returned u ∧ (∃ xs : List (Value × Value), HasO w' w.heap.size u l xs) ∧ Chg Non w w' := by
  obtain ⟨A, c, rfl, _, _⟩ := hr.shape
  obtain ⟨m, hm⟩ : ∃ m, m = l.length := ⟨_, rfl⟩
  rw [← hm] at hr ⊢
  have HM := hide hm
  have HL := hide hl
  clear hm hl
  have hmn : m ≤ 1000000000 := by have := HM.out; omega
  go_enter Try.func25, Try.ntmps25
  go_wp2_with fail
  go_loopw [3, 8] (fun ov iv wr => ∃ (k : Nat) (xs : List (Value × Value)), iv = .int .i64 (k : Int) ∧ k ≤ m ∧ Hid (HasO wr w.heap.size ov (l.take k) xs) ∧ Chg Non w wr) (fun _ iv _ => m - (intOf iv).toNat)
  case atStart => exact ⟨0, [], rfl, Nat.zero_le _, hide (by rw [List.take_zero]; exact HasO.nil_ _ _), Chg.refl _ _⟩
  case round =>
    obtain ⟨k, xs, rfl, hk, HO, hcw⟩ := hrel
    by_cases hkl : k < m
    · have hkm : k < l.length := by have := HM.out; omega
      obtain ⟨ad, p, q, rfl, hFb, e0, e1, e2, e3, rp, rq⟩ := (hr.c0 hcw).at_ hkm
      obtain ⟨o, ho⟩ : ∃ o, o = l[k] := ⟨_, rfl⟩
      rw [← ho] at e0 e3 rp rq
      have hol := HL.out o (by rw [ho]; exact List.getElem_mem hkm)
      have htk : l.take (k + 1) = l.take k ++ [o] := by rw [ho]; exact List.take_succ_eq_append_getElem hkm
      have HTK := hide (And.intro htk (And.intro hkl (show (l.take k).length = k by rw [List.length_take]; omega)))
      obtain ⟨P, np, cp, rfl⟩ : ∃ A m c, p = .slice A m c := by obtain ⟨A, c, e, _⟩ := rp.shape; exact ⟨A, _, c, e⟩
      obtain ⟨R, nq, cq, rfl⟩ : ∃ A m c, q = .slice A m c := by obtain ⟨A, c, e, _⟩ := rq.shape; exact ⟨A, _, c, e⟩
      obtain ⟨V, vn, vc, rfl⟩ : ∃ A m c, u3 = .slice A m c := rdv_sl (RdV.of_own HO.out.row)
      have h1i : (k : Int) < (m : Int) := by omega
      have h0i : (0 : Int) ≤ (k : Int) := by omega
      obtain ⟨z1, hz1⟩ : ∃ z, z = o.kind := ⟨_, rfl⟩
      obtain ⟨z2, hz2⟩ : ∃ z, z = o.most := ⟨_, rfl⟩
      rw [← hz1] at e0
      rw [← hz2] at e3
      have HZ := hide (And.intro hz1 hz2)
      clear ho htk hkl hk hkm hFb hz1 hz2
      go_upto_region 5 with fail
      have hX := Blk.new wr 85 #[.int .i64 z1, .slice P np cp, .slice R nq cq, .int .i64 z2]
      have hcA := (Chg.refl Non wr).alloc (.cells #[.int .i64 z1, .slice P np cp, .slice R nq cq, .int .i64 z2] 85)
      obtain ⟨g, hg⟩ : ∃ g, g = wr.heap.size := ⟨_, rfl⟩
      rw [← hg] at hX ⊢
      generalize World.alloc _ _ = wA at hX hcA ⊢
      have HG := hide hg
      clear hg e0 e1 e2 e3
      have rpA := rp.c0 hcA
      have rqA := rq.c0 hcA
      have HOA := HO.out.chg hcA fun _ _ _ h => h
      have hcwA := hcw.trans0 hcA
      have hgv : ∀ j, (Value.slice V vn vc).ownBlock = some j → j ≠ g := fun j hj e => by have := (World.ownsRow.lt HO.out.row j hj).2; have := HG.out; omega
      have HGV := hide hgv
      have HOX := hide HOA
      clear rp rq hcw hgv HOA HO hcA
      obtain ⟨S, hSd⟩ : ∃ S : World → Prop, ∀ w', S w' ↔ (w'.cell? ⟨g, 0, none⟩ = some (.int .i64 z1) ∧ w'.cell? ⟨g, 1, none⟩ = some (.slice P np cp) ∧ w'.cell? ⟨g, 2, none⟩ = some (.slice R nq cq) ∧ w'.cell? ⟨g, 3, none⟩ = some (.int .i64 z2)) := ⟨_, fun _ => Iff.rfl⟩
      have HSd := hide hSd
      have HSB := hide (fun (w' : World) (h : Blk w' g 85 #[.int .i64 z1, .slice P np cp, .slice R nq cq, .int .i64 z2]) => (hSd w').2 ⟨h.cell 0, h.cell 1, h.cell 2, h.cell 3⟩)
      have HS := hide (HSB.out wA.drew hX)
      clear hSd
      refine wp_region_T S 99 (by kernel_rfl) ?_
      refine AnyT.take (i := 0) (v := ?_) rfl (by kernel_rfl) (by kernel_rfl) (fun _ _ _ h => h) (by kernel_rfl) (by kernel_rfl) (Or.inl ⟨by rfl, ?_⟩) HS.out ?_
      rotate_left
      · (intro w9 h9; first | (go_simp; with_reducible rfl) | (obtain ⟨y0, y1, y2, y3⟩ := (HSd.out _).1 h9; go_simp; try with_reducible rfl))
      try simp only [List.getElem_toArray, List.getElem_cons_succ, List.getElem_cons_zero, Act.put, List.setIfInBounds_toArray, List.set_cons_zero, List.set_cons_succ]
      refine AnyT.take (i := 1) (v := ?_) rfl (by kernel_rfl) (by kernel_rfl) (fun _ _ _ h => h) (by kernel_rfl) (by kernel_rfl) (Or.inl ⟨by rfl, ?_⟩) HS.out ?_
      rotate_left
      · (intro w9 h9; first | (go_simp; with_reducible rfl) | (obtain ⟨y0, y1, y2, y3⟩ := (HSd.out _).1 h9; go_simp; try with_reducible rfl))
      try simp only [List.getElem_toArray, List.getElem_cons_succ, List.getElem_cons_zero, Act.put, List.setIfInBounds_toArray, List.set_cons_zero, List.set_cons_succ]
      refine AnyT.take (i := 2) (v := ?_) rfl (by kernel_rfl) (by kernel_rfl) (fun _ _ _ h => h) (by kernel_rfl) (by kernel_rfl) (Or.inl ⟨by rfl, ?_⟩) HS.out ?_
      rotate_left
      · (intro w9 h9; first | (go_simp; with_reducible rfl) | (obtain ⟨y0, y1, y2, y3⟩ := (HSd.out _).1 h9; go_simp; try with_reducible rfl))
      try simp only [List.getElem_toArray, List.getElem_cons_succ, List.getElem_cons_zero, Act.put, List.setIfInBounds_toArray, List.set_cons_zero, List.set_cons_succ]
      refine AnyT.take (i := 3) (v := ?_) rfl (by kernel_rfl) (by kernel_rfl) (fun _ _ _ h => h) (by kernel_rfl) (by kernel_rfl) (Or.inl ⟨by rfl, ?_⟩) HS.out ?_
      rotate_left
      · (intro w9 h9; first | (go_simp; with_reducible rfl) | (obtain ⟨y0, y1, y2, y3⟩ := (HSd.out _).1 h9; go_simp; try with_reducible rfl))
      try simp only [List.getElem_toArray, List.getElem_cons_succ, List.getElem_cons_zero, Act.put, List.setIfInBounds_toArray, List.set_cons_zero, List.set_cons_succ]
      refine AnyT.take (i := 4) (v := ?_) rfl (by kernel_rfl) (by kernel_rfl) (fun _ _ _ h => h) (by kernel_rfl) (by kernel_rfl) (Or.inl ⟨by rfl, ?_⟩) HS.out ?_
      rotate_left
      · (intro w9 h9; first | (go_simp; with_reducible rfl) | (obtain ⟨y0, y1, y2, y3⟩ := (HSd.out _).1 h9; go_simp; try with_reducible rfl))
      try simp only [List.getElem_toArray, List.getElem_cons_succ, List.getElem_cons_zero, Act.put, List.setIfInBounds_toArray, List.set_cons_zero, List.set_cons_succ]
      refine AnyT.take (i := 6) (v := ?_) rfl (by kernel_rfl) (by kernel_rfl) (fun _ _ _ h => h) (by kernel_rfl) (by kernel_rfl) (Or.inl ⟨by rfl, ?_⟩) HS.out ?_
      rotate_left
      · (intro w9 h9; first | (go_simp; with_reducible rfl) | (obtain ⟨y0, y1, y2, y3⟩ := (HSd.out _).1 h9; go_simp; try with_reducible rfl))
      try simp only [List.getElem_toArray, List.getElem_cons_succ, List.getElem_cons_zero, Act.put, List.setIfInBounds_toArray, List.set_cons_zero, List.set_cons_succ]
      refine AnyT.take (i := 7) (v := ?_) rfl (by kernel_rfl) (by kernel_rfl) (fun _ _ _ h => h) (by kernel_rfl) (by kernel_rfl) (Or.inl ⟨by rfl, ?_⟩) HS.out ?_
      rotate_left
      · (intro w9 h9; first | (go_simp; with_reducible rfl) | (obtain ⟨y0, y1, y2, y3⟩ := (HSd.out _).1 h9; go_simp; try with_reducible rfl))
      try simp only [List.getElem_toArray, List.getElem_cons_succ, List.getElem_cons_zero, Act.put, List.setIfInBounds_toArray, List.set_cons_zero, List.set_cons_succ]
      refine AnyT.take (i := 9) (v := ?_) rfl (by kernel_rfl) (by kernel_rfl) (fun _ _ _ h => h) (by kernel_rfl) (by kernel_rfl) (Or.inl ⟨by rfl, ?_⟩) HS.out ?_
      rotate_left
      · (intro w9 h9; first | (go_simp; with_reducible rfl) | (obtain ⟨y0, y1, y2, y3⟩ := (HSd.out _).1 h9; go_simp; try with_reducible rfl))
      try simp only [List.getElem_toArray, List.getElem_cons_succ, List.getElem_cons_zero, Act.put, List.setIfInBounds_toArray, List.set_cons_zero, List.set_cons_succ]
      refine AnyT.take (i := 10) (v := ?_) rfl (by kernel_rfl) (by kernel_rfl) (fun _ _ _ h => h) (by kernel_rfl) (by kernel_rfl) (Or.inl ⟨by rfl, ?_⟩) HS.out ?_
      rotate_left
      · (intro w9 h9; first | (go_simp; with_reducible rfl) | (obtain ⟨y0, y1, y2, y3⟩ := (HSd.out _).1 h9; go_simp; try with_reducible rfl))
      try simp only [List.getElem_toArray, List.getElem_cons_succ, List.getElem_cons_zero, Act.put, List.setIfInBounds_toArray, List.set_cons_zero, List.set_cons_succ]
      refine AnyT.one (i := 5) (by kernel_rfl) rfl (fun K hK => ?_)
      rw [if_pos (by rfl)]
      try simp only [List.getElem_toArray, List.getElem_cons_succ, List.getElem_cons_zero, Act.put, List.setIfInBounds_toArray, List.set_cons_zero, List.set_cons_succ]
      go_wp2_with (go_at_call 12; refine (refCopy rpA.dr (by omega)).mono ?_; rintro e w1 ⟨a1, rfl, hu1, hc1⟩)
      obtain ⟨U1, n1, c1, rfl⟩ : ∃ A m c, a1 = .slice A m c := hu1.shapeH
      have hX1 : Blk w1 g 85 _ := (show Blk wA.drew g 85 _ from hX).c0 hc1
      refine hK.out _ _ (fun _ => HSB.out w1 hX1) ?_
      clear hK K
      try simp only [List.getElem_toArray, List.getElem_cons_succ, List.getElem_cons_zero, Act.put, List.setIfInBounds_toArray, List.set_cons_zero, List.set_cons_succ]
      refine AnyT.one (i := 8) (by kernel_rfl) rfl (fun K hK => ?_)
      rw [if_pos (by rfl)]
      try simp only [List.getElem_toArray, List.getElem_cons_succ, List.getElem_cons_zero, Act.put, List.setIfInBounds_toArray, List.set_cons_zero, List.set_cons_succ]
      go_wp2_with (go_at_call 12; refine (refCopy (rqA.dr.c0 hc1) (by omega)).mono ?_; rintro e w2 ⟨a2, rfl, hu2, hc2⟩)
      obtain ⟨U2, n2, c2, rfl⟩ : ∃ A m c, a2 = .slice A m c := hu2.shapeH
      have hX2 := hX1.c0 hc2
      refine hK.out _ _ (fun _ => HSB.out w2 hX2) ?_
      clear hK K
      try simp only [List.getElem_toArray, List.getElem_cons_succ, List.getElem_cons_zero, Act.put, List.setIfInBounds_toArray, List.set_cons_zero, List.set_cons_succ]
      refine AnyT.one (i := 11) (by kernel_rfl) rfl (fun K hK => ?_)
      rw [if_pos (by rfl)]
      try simp only [List.getElem_toArray, List.getElem_cons_succ, List.getElem_cons_zero, Act.put, List.setIfInBounds_toArray, List.set_cons_zero, List.set_cons_succ]
      go_simp
      refine hK.out _ _ (fun _ => HSB.out w2 hX2) ?_
      clear hK K
      try simp only [List.getElem_toArray, List.getElem_cons_succ, List.getElem_cons_zero, Act.put, List.setIfInBounds_toArray, List.set_cons_zero, List.set_cons_succ]
      refine AnyT.one (i := 12) (by kernel_rfl) rfl (fun K hK => ?_)
      rw [if_pos (by rfl)]
      try simp only [List.getElem_toArray, List.getElem_cons_succ, List.getElem_cons_zero, Act.put, List.setIfInBounds_toArray, List.set_cons_zero, List.set_cons_succ]
      go_simp
      have hcL := (Chg.refl Non w2).alloc (.cells #[.int .i64 z1, .slice U1 n1 c1, .slice U2 n2 c2, .int .i64 z2] 85)
      have hXL := Blk.new w2 85 #[.int .i64 z1, .slice U1 n1 c1, .slice U2 n2 c2, .int .i64 z2]
      refine hK.out _ _ (fun _ => HSB.out _ (hX2.c0 hcL)) ?_
      clear hK K
      try simp only [List.getElem_toArray, List.getElem_cons_succ, List.getElem_cons_zero, Act.put, List.setIfInBounds_toArray, List.set_cons_zero, List.set_cons_succ]
      have hc0 : Chg Non wA w2 := (((Chg.refl Non wA).drew).trans0 hc1).trans0 hc2
      have hXg := hX2.c0 hcL
      have hOL := HOX.out.chg (hc0.trans0 hcL) fun _ _ _ h => h
      have hrL : RdV (w2.alloc (.cells #[.int .i64 z1, .slice U1 n1 c1, .slice U2 n2 c2, .int .i64 z2] 85)) (fun k => k = w2.heap.size) 4 (.slice (some ⟨w2.heap.size, 0, none⟩) 1 1) 1 [.int .i64 z1, .slice U1 n1 c1, .slice U2 n2 c2, .int .i64 z2] :=
        ⟨rfl, _, _, rfl, Nat.le_refl _, by simp [maxLen], fun _ => ⟨_, rfl, rfl, fun j u hu => by rw [add_none, Nat.zero_add, hXL.cell, ← Array.getElem?_toList]; exact hu⟩⟩
      have hgs : wA.heap.size ≤ w2.heap.size := hc0.size
      have hsw := hcwA.size
      have hlen := HTK.out.2.2
      have hlt := HTK.out.2.1
      have HCL := hide (And.intro hcL hc0)
      clear hX1 hX2 hXL hcL hc0
      generalize World.alloc w2 _ = wL at hXg hOL hrL HCL ⊢
      have hLs := HCL.out.1.size
      refine AnyT.one (i := 13) (by kernel_rfl) rfl (fun K hK => ?_)
      rw [if_pos (by rfl)]
      try simp only [List.getElem_toArray, List.getElem_cons_succ, List.getElem_cons_zero, Act.put, List.setIfInBounds_toArray, List.set_cons_zero, List.set_cons_succ]
      refine app_O (.tmp 12) (.tmp 24) rfl hOL.row rfl hrL rfl (fun u hu => by simp at hu; rcases hu with rfl | rfl | rfl | rfl <;> rfl) (by omega) (by omega) ?_
      intro v' w4 hO4 hg4 hat4
      have hX4 := hXg.chg (Chg.of_grown hg4) (fun e => HGV.out g e.symm rfl)
      refine hK.out _ _ (fun _ => HSB.out w4 hX4) ?_
      clear hK K
      try simp only [List.getElem_toArray, List.getElem_cons_succ, List.getElem_cons_zero, Act.put, List.setIfInBounds_toArray, List.set_cons_zero, List.set_cons_succ]
      refine AnyT.one (i := 14) (by kernel_rfl) rfl (fun K hK => ?_)
      rw [if_pos (by rfl)]
      try simp only [List.getElem_toArray, List.getElem_cons_succ, List.getElem_cons_zero, Act.put, List.setIfInBounds_toArray, List.set_cons_zero, List.set_cons_succ]
      go_simp
      refine hK.out _ _ (fun _ => HSB.out w4 hX4) ?_
      clear hK K
      try simp only [List.getElem_toArray, List.getElem_cons_succ, List.getElem_cons_zero, Act.put, List.setIfInBounds_toArray, List.set_cons_zero, List.set_cons_succ]
      refine AnyT.nil (by kernel_rfl) ?_
      have hu1' : OwnB w1 wA.heap.size (.slice U1 n1 c1) o.key := hu1
      have HO4 := hide (show HasO w4 w.heap.size v' (l.take (k + 1)) (xs ++ [(.slice U1 n1 c1, .slice U2 n2 c2)]) by
        rw [HTK.out.1]
        refine HOX.out.grow hsw (((Chg.refl Non wA).drew).trans0 hc1) hu1' hc2 hu2 HCL.out.1 ?_ hg4 hat4
        rw [← HZ.out.1, ← HZ.out.2]
        exact hO4)
      have hcw4 : Chg Non w w4 := (hcwA.trans0 (HCL.out.2.trans0 HCL.out.1)).trans (Chg.of_grown hg4) fun j hj e => by
        have := (World.ownsRow.lt HOX.out.row j e.symm).1
        omega
      clear hO4 hg4 hat4 hX4 hXg hOL hrL HOX HS HSB HSd hu1 hu1' hu2 hc1 hc2 HCL rpA rqA hcwA HGV
      go_wp2_with fail
      go_roundw
      case rel => exact ⟨k + 1, _, by go_num, by have := HTK.out.2.1; omega, HO4, hcw4⟩
      case measure => (have h := HTK.out.2.1; simp [intOf]; omega)
    · have hge : ¬ ((k : Int) < (m : Int)) := by omega
      have HK := hide (show l.take k = l from List.take_of_length_le (by have := HM.out; omega))
      clear hkl hk
      go_wp2_with fail
      go_ret
      have h1 := HO.out
      rw [HK.out] at h1
      exact ⟨_, rfl, ⟨xs, h1⟩, hcw⟩
end Go.Proofs.Ytncchbcoldgpbaa

namespace Go.Proofs.Ytncchbcoldgpbaa
open Go.RowKit
set_option linter.unusedVariables false
set_option linter.unusedSimpArgs false

def askA (x : AskS) (vo vr : Value) : Array Value := #[.int .i64 x.kind, .int .u64 (x.inc : Int), .int .u64 (x.head : Int), .int .u64 (x.boot : Int), .int .u64 (x.tb : Int), .int .u64 (x.ts : Int), .int .u64 (x.tq : Int), vo, .bool x.commit, vr, .int .u64 (x.id : Int), .string x.name]
def zeroA : Array Value := #[.int .i64 0, .int .u64 0, .int .u64 0, .int .u64 0, .int .u64 0, .int .u64 0, .int .u64 0, .slice none 0 0, .bool false, .slice none 0 0, .int .u64 0, .string ⟨#[]⟩]
theorem info_ask : (Try.prog.info? 41).map (·.size) = some 12 := by kernel_rfl
theorem wp_store_any {T : TypeId} {n : Nat} (hT : (Try.prog.info? T).map (·.size) = some n) {o : Oper} {a : Act} {w : World} {K : Act → World → Prop} {Q : Exit → Act → World → Prop} (x y : Operand) (ho : o.op = .store T x y)
    (g : Nat) (cells : Array Value) (hx : a.eval x = .pointer (some ⟨g, 0, none⟩)) (hy : a.eval y = .agg cells) (old : Array Value) (hB : Blk w g T old) (hs : old.size = n) (hc : cells.size = n) (h1 : cells.all (·.oneCell') = true)
    (h : ∀ w', Blk w' g T cells → Chg (fun k => k = g) w w' → K (a.put o.dst undef) w') : o.wp Try.prog a w K Q :=
  wp_store_row (P := Try.prog) T x y ho g cells hx hy T old hB (by rw [hc]; exact hT) (by omega) h1 (h _ (setRow_blk hB).1 (setRow_blk hB).2)

set_option maxHeartbeats 16000000 in
set_option maxRecDepth 100000 in
theorem ownAsk {x : AskS} {vo vr : Value} {F : Nat → Prop} {w : World} (ho : RdOs w F vo x.ops) (hn : x.ops.length ≤ 1000000000) (hl : ∀ o ∈ x.ops, o.key.length ≤ 1000000000 ∧ o.val.length ≤ 1000000000) (hr : RdB w F vr x.reply) (hrl : x.reply.length ≤ 1000000000) :
    Calls Try.prog 23 #[.agg (askA x vo vr)] w fun e w' => ∃ u1 u2 : Value, e = .returned (.agg (askA x u1 u2)) ∧ (∃ xs : List (Value × Value), HasO w' w.heap.size u1 x.ops xs) ∧ OwnB w' w.heap.size u2 x.reply ∧ Chg Non w w' := by
  obtain ⟨V, vn, vc, rfl⟩ : ∃ A m c, vo = .slice A m c := by obtain ⟨A, c, e, _⟩ := ho.shape; exact ⟨A, _, c, e⟩
  obtain ⟨R, rn, rc, rfl⟩ : ∃ A m c, vr = .slice A m c := by obtain ⟨A, c, e, _⟩ := hr.shape; exact ⟨A, _, c, e⟩
  obtain ⟨ar, har⟩ : ∃ ar, ar = askA x (.slice V vn vc) (.slice R rn rc) := ⟨_, rfl⟩
  rw [← har]
  have hX := Blk.new w 28 ar
  have hcA := (Chg.refl Non w).alloc (.cells ar 28)
  have hsA : (w.alloc (.cells ar 28)).heap.size = w.heap.size + 1 := by simp
  have hY := Blk.new (w.alloc (.cells ar 28)) 41 zeroA
  have hcB := (Chg.refl Non (w.alloc (.cells ar 28))).alloc (.cells zeroA 41)
  have hXB := hX.c0 hcB
  have hcW := hcA.trans0 hcB
  rw [hsA] at hY
  clear hX hcA hcB
  have HAR := hide har
  clear har
  go_enter Try.func23, Try.ntmps23
  go_upto_region 1 with fail
  clear hsA
  obtain ⟨p, hp⟩ : ∃ p, p = w.heap.size := ⟨_, rfl⟩
  obtain ⟨g, hg⟩ : ∃ g, g = w.heap.size + 1 := ⟨_, rfl⟩
  rw [← hg] at hY
  rw [← hp] at hXB
  rw [← hg, ← hp]
  generalize hw0 : World.alloc (World.alloc w (.cells ar _)) _ = w0
  rw [show (w.alloc (.cells ar 28)).alloc (.cells zeroA 41) = w0 from hw0] at hY hXB hcW
  clear hw0
  have HPG := hide (And.intro hp hg)
  have hpg : p ≠ g := by omega
  clear hp hg
  have hoD := (ho.c0 hcW).c0 ((Chg.refl Non w0).drew)
  have hrD := (hr.c0 hcW).dr
  obtain ⟨S, hSd⟩ : ∃ S : World → Prop, ∀ w', S w' ↔ (w'.cell? ⟨p, 0, none⟩ = some (.int .i64 x.kind) ∧ w'.cell? ⟨p, 1, none⟩ = some (.int .u64 (x.inc : Int)) ∧ w'.cell? ⟨p, 2, none⟩ = some (.int .u64 (x.head : Int)) ∧ w'.cell? ⟨p, 3, none⟩ = some (.int .u64 (x.boot : Int)) ∧ w'.cell? ⟨p, 4, none⟩ = some (.int .u64 (x.tb : Int)) ∧ w'.cell? ⟨p, 5, none⟩ = some (.int .u64 (x.ts : Int)) ∧ w'.cell? ⟨p, 6, none⟩ = some (.int .u64 (x.tq : Int)) ∧ w'.cell? ⟨p, 7, none⟩ = some (.slice V vn vc) ∧ w'.cell? ⟨p, 8, none⟩ = some (.bool x.commit) ∧ w'.cell? ⟨p, 9, none⟩ = some (.slice R rn rc) ∧ w'.cell? ⟨p, 10, none⟩ = some (.int .u64 (x.id : Int)) ∧ w'.cell? ⟨p, 11, none⟩ = some (.string x.name)) := ⟨_, fun _ => Iff.rfl⟩
  have HSd := hide hSd
  have HSB := hide (fun (w' : World) (h : Blk w' p 28 ar) => (hSd w').2 (by
    rw [HAR.out] at h
    exact ⟨h.cell 0, h.cell 1, h.cell 2, h.cell 3, h.cell 4, h.cell 5, h.cell 6, h.cell 7, h.cell 8, h.cell 9, h.cell 10, h.cell 11⟩))
  have HS := hide (HSB.out w0.drew hXB)
  clear hSd ho hr
  refine wp_region_T S 99 (by kernel_rfl) ?_
  refine AnyT.take (i := 0) (v := ?_) rfl (by kernel_rfl) (by kernel_rfl) (fun _ _ _ h => h) (by kernel_rfl) (by kernel_rfl) (Or.inl ⟨by rfl, ?_⟩) HS.out ?_
  rotate_left
  · (intro w9 h9; first | (go_simp; with_reducible rfl) | (obtain ⟨y0, y1, y2, y3, y4, y5, y6, y7, y8, y9, y10, y11⟩ := (HSd.out _).1 h9; go_simp; try with_reducible rfl))
  try simp only [List.getElem_toArray, List.getElem_cons_succ, List.getElem_cons_zero, Act.put, List.setIfInBounds_toArray, List.set_cons_zero, List.set_cons_succ]
  refine AnyT.take (i := 1) (v := ?_) rfl (by kernel_rfl) (by kernel_rfl) (fun _ _ _ h => h) (by kernel_rfl) (by kernel_rfl) (Or.inl ⟨by rfl, ?_⟩) HS.out ?_
  rotate_left
  · (intro w9 h9; first | (go_simp; with_reducible rfl) | (obtain ⟨y0, y1, y2, y3, y4, y5, y6, y7, y8, y9, y10, y11⟩ := (HSd.out _).1 h9; go_simp; try with_reducible rfl))
  try simp only [List.getElem_toArray, List.getElem_cons_succ, List.getElem_cons_zero, Act.put, List.setIfInBounds_toArray, List.set_cons_zero, List.set_cons_succ]
  refine AnyT.take (i := 2) (v := ?_) rfl (by kernel_rfl) (by kernel_rfl) (fun _ _ _ h => h) (by kernel_rfl) (by kernel_rfl) (Or.inl ⟨by rfl, ?_⟩) HS.out ?_
  rotate_left
  · (intro w9 h9; first | (go_simp; with_reducible rfl) | (obtain ⟨y0, y1, y2, y3, y4, y5, y6, y7, y8, y9, y10, y11⟩ := (HSd.out _).1 h9; go_simp; try with_reducible rfl))
  try simp only [List.getElem_toArray, List.getElem_cons_succ, List.getElem_cons_zero, Act.put, List.setIfInBounds_toArray, List.set_cons_zero, List.set_cons_succ]
  refine AnyT.take (i := 3) (v := ?_) rfl (by kernel_rfl) (by kernel_rfl) (fun _ _ _ h => h) (by kernel_rfl) (by kernel_rfl) (Or.inl ⟨by rfl, ?_⟩) HS.out ?_
  rotate_left
  · (intro w9 h9; first | (go_simp; with_reducible rfl) | (obtain ⟨y0, y1, y2, y3, y4, y5, y6, y7, y8, y9, y10, y11⟩ := (HSd.out _).1 h9; go_simp; try with_reducible rfl))
  try simp only [List.getElem_toArray, List.getElem_cons_succ, List.getElem_cons_zero, Act.put, List.setIfInBounds_toArray, List.set_cons_zero, List.set_cons_succ]
  refine AnyT.take (i := 4) (v := ?_) rfl (by kernel_rfl) (by kernel_rfl) (fun _ _ _ h => h) (by kernel_rfl) (by kernel_rfl) (Or.inl ⟨by rfl, ?_⟩) HS.out ?_
  rotate_left
  · (intro w9 h9; first | (go_simp; with_reducible rfl) | (obtain ⟨y0, y1, y2, y3, y4, y5, y6, y7, y8, y9, y10, y11⟩ := (HSd.out _).1 h9; go_simp; try with_reducible rfl))
  try simp only [List.getElem_toArray, List.getElem_cons_succ, List.getElem_cons_zero, Act.put, List.setIfInBounds_toArray, List.set_cons_zero, List.set_cons_succ]
  refine AnyT.take (i := 5) (v := ?_) rfl (by kernel_rfl) (by kernel_rfl) (fun _ _ _ h => h) (by kernel_rfl) (by kernel_rfl) (Or.inl ⟨by rfl, ?_⟩) HS.out ?_
  rotate_left
  · (intro w9 h9; first | (go_simp; with_reducible rfl) | (obtain ⟨y0, y1, y2, y3, y4, y5, y6, y7, y8, y9, y10, y11⟩ := (HSd.out _).1 h9; go_simp; try with_reducible rfl))
  try simp only [List.getElem_toArray, List.getElem_cons_succ, List.getElem_cons_zero, Act.put, List.setIfInBounds_toArray, List.set_cons_zero, List.set_cons_succ]
  refine AnyT.take (i := 6) (v := ?_) rfl (by kernel_rfl) (by kernel_rfl) (fun _ _ _ h => h) (by kernel_rfl) (by kernel_rfl) (Or.inl ⟨by rfl, ?_⟩) HS.out ?_
  rotate_left
  · (intro w9 h9; first | (go_simp; with_reducible rfl) | (obtain ⟨y0, y1, y2, y3, y4, y5, y6, y7, y8, y9, y10, y11⟩ := (HSd.out _).1 h9; go_simp; try with_reducible rfl))
  try simp only [List.getElem_toArray, List.getElem_cons_succ, List.getElem_cons_zero, Act.put, List.setIfInBounds_toArray, List.set_cons_zero, List.set_cons_succ]
  refine AnyT.take (i := 7) (v := ?_) rfl (by kernel_rfl) (by kernel_rfl) (fun _ _ _ h => h) (by kernel_rfl) (by kernel_rfl) (Or.inl ⟨by rfl, ?_⟩) HS.out ?_
  rotate_left
  · (intro w9 h9; first | (go_simp; with_reducible rfl) | (obtain ⟨y0, y1, y2, y3, y4, y5, y6, y7, y8, y9, y10, y11⟩ := (HSd.out _).1 h9; go_simp; try with_reducible rfl))
  try simp only [List.getElem_toArray, List.getElem_cons_succ, List.getElem_cons_zero, Act.put, List.setIfInBounds_toArray, List.set_cons_zero, List.set_cons_succ]
  refine AnyT.take (i := 8) (v := ?_) rfl (by kernel_rfl) (by kernel_rfl) (fun _ _ _ h => h) (by kernel_rfl) (by kernel_rfl) (Or.inl ⟨by rfl, ?_⟩) HS.out ?_
  rotate_left
  · (intro w9 h9; first | (go_simp; with_reducible rfl) | (obtain ⟨y0, y1, y2, y3, y4, y5, y6, y7, y8, y9, y10, y11⟩ := (HSd.out _).1 h9; go_simp; try with_reducible rfl))
  try simp only [List.getElem_toArray, List.getElem_cons_succ, List.getElem_cons_zero, Act.put, List.setIfInBounds_toArray, List.set_cons_zero, List.set_cons_succ]
  refine AnyT.take (i := 9) (v := ?_) rfl (by kernel_rfl) (by kernel_rfl) (fun _ _ _ h => h) (by kernel_rfl) (by kernel_rfl) (Or.inl ⟨by rfl, ?_⟩) HS.out ?_
  rotate_left
  · (intro w9 h9; first | (go_simp; with_reducible rfl) | (obtain ⟨y0, y1, y2, y3, y4, y5, y6, y7, y8, y9, y10, y11⟩ := (HSd.out _).1 h9; go_simp; try with_reducible rfl))
  try simp only [List.getElem_toArray, List.getElem_cons_succ, List.getElem_cons_zero, Act.put, List.setIfInBounds_toArray, List.set_cons_zero, List.set_cons_succ]
  refine AnyT.take (i := 10) (v := ?_) rfl (by kernel_rfl) (by kernel_rfl) (fun _ _ _ h => h) (by kernel_rfl) (by kernel_rfl) (Or.inl ⟨by rfl, ?_⟩) HS.out ?_
  rotate_left
  · (intro w9 h9; first | (go_simp; with_reducible rfl) | (obtain ⟨y0, y1, y2, y3, y4, y5, y6, y7, y8, y9, y10, y11⟩ := (HSd.out _).1 h9; go_simp; try with_reducible rfl))
  try simp only [List.getElem_toArray, List.getElem_cons_succ, List.getElem_cons_zero, Act.put, List.setIfInBounds_toArray, List.set_cons_zero, List.set_cons_succ]
  refine AnyT.take (i := 11) (v := ?_) rfl (by kernel_rfl) (by kernel_rfl) (fun _ _ _ h => h) (by kernel_rfl) (by kernel_rfl) (Or.inl ⟨by rfl, ?_⟩) HS.out ?_
  rotate_left
  · (intro w9 h9; first | (go_simp; with_reducible rfl) | (obtain ⟨y0, y1, y2, y3, y4, y5, y6, y7, y8, y9, y10, y11⟩ := (HSd.out _).1 h9; go_simp; try with_reducible rfl))
  try simp only [List.getElem_toArray, List.getElem_cons_succ, List.getElem_cons_zero, Act.put, List.setIfInBounds_toArray, List.set_cons_zero, List.set_cons_succ]
  refine AnyT.take (i := 13) (v := ?_) rfl (by kernel_rfl) (by kernel_rfl) (fun _ _ _ h => h) (by kernel_rfl) (by kernel_rfl) (Or.inl ⟨by rfl, ?_⟩) HS.out ?_
  rotate_left
  · (intro w9 h9; first | (go_simp; with_reducible rfl) | (obtain ⟨y0, y1, y2, y3, y4, y5, y6, y7, y8, y9, y10, y11⟩ := (HSd.out _).1 h9; go_simp; try with_reducible rfl))
  try simp only [List.getElem_toArray, List.getElem_cons_succ, List.getElem_cons_zero, Act.put, List.setIfInBounds_toArray, List.set_cons_zero, List.set_cons_succ]
  refine AnyT.take (i := 14) (v := ?_) rfl (by kernel_rfl) (by kernel_rfl) (fun _ _ _ h => h) (by kernel_rfl) (by kernel_rfl) (Or.inl ⟨by rfl, ?_⟩) HS.out ?_
  rotate_left
  · (intro w9 h9; first | (go_simp; with_reducible rfl) | (obtain ⟨y0, y1, y2, y3, y4, y5, y6, y7, y8, y9, y10, y11⟩ := (HSd.out _).1 h9; go_simp; try with_reducible rfl))
  try simp only [List.getElem_toArray, List.getElem_cons_succ, List.getElem_cons_zero, Act.put, List.setIfInBounds_toArray, List.set_cons_zero, List.set_cons_succ]
  refine AnyT.take (i := 15) (v := ?_) rfl (by kernel_rfl) (by kernel_rfl) (fun _ _ _ h => h) (by kernel_rfl) (by kernel_rfl) (Or.inl ⟨by rfl, ?_⟩) HS.out ?_
  rotate_left
  · (intro w9 h9; first | (go_simp; with_reducible rfl) | (obtain ⟨y0, y1, y2, y3, y4, y5, y6, y7, y8, y9, y10, y11⟩ := (HSd.out _).1 h9; go_simp; try with_reducible rfl))
  try simp only [List.getElem_toArray, List.getElem_cons_succ, List.getElem_cons_zero, Act.put, List.setIfInBounds_toArray, List.set_cons_zero, List.set_cons_succ]
  refine AnyT.take (i := 16) (v := ?_) rfl (by kernel_rfl) (by kernel_rfl) (fun _ _ _ h => h) (by kernel_rfl) (by kernel_rfl) (Or.inl ⟨by rfl, ?_⟩) HS.out ?_
  rotate_left
  · (intro w9 h9; first | (go_simp; with_reducible rfl) | (obtain ⟨y0, y1, y2, y3, y4, y5, y6, y7, y8, y9, y10, y11⟩ := (HSd.out _).1 h9; go_simp; try with_reducible rfl))
  try simp only [List.getElem_toArray, List.getElem_cons_succ, List.getElem_cons_zero, Act.put, List.setIfInBounds_toArray, List.set_cons_zero, List.set_cons_succ]
  refine AnyT.take (i := 18) (v := ?_) rfl (by kernel_rfl) (by kernel_rfl) (fun _ _ _ h => h) (by kernel_rfl) (by kernel_rfl) (Or.inl ⟨by rfl, ?_⟩) HS.out ?_
  rotate_left
  · (intro w9 h9; first | (go_simp; with_reducible rfl) | (obtain ⟨y0, y1, y2, y3, y4, y5, y6, y7, y8, y9, y10, y11⟩ := (HSd.out _).1 h9; go_simp; try with_reducible rfl))
  try simp only [List.getElem_toArray, List.getElem_cons_succ, List.getElem_cons_zero, Act.put, List.setIfInBounds_toArray, List.set_cons_zero, List.set_cons_succ]
  refine AnyT.take (i := 19) (v := ?_) rfl (by kernel_rfl) (by kernel_rfl) (fun _ _ _ h => h) (by kernel_rfl) (by kernel_rfl) (Or.inl ⟨by rfl, ?_⟩) HS.out ?_
  rotate_left
  · (intro w9 h9; first | (go_simp; with_reducible rfl) | (obtain ⟨y0, y1, y2, y3, y4, y5, y6, y7, y8, y9, y10, y11⟩ := (HSd.out _).1 h9; go_simp; try with_reducible rfl))
  try simp only [List.getElem_toArray, List.getElem_cons_succ, List.getElem_cons_zero, Act.put, List.setIfInBounds_toArray, List.set_cons_zero, List.set_cons_succ]
  refine AnyT.take (i := 20) (v := ?_) rfl (by kernel_rfl) (by kernel_rfl) (fun _ _ _ h => h) (by kernel_rfl) (by kernel_rfl) (Or.inl ⟨by rfl, ?_⟩) HS.out ?_
  rotate_left
  · (intro w9 h9; first | (go_simp; with_reducible rfl) | (obtain ⟨y0, y1, y2, y3, y4, y5, y6, y7, y8, y9, y10, y11⟩ := (HSd.out _).1 h9; go_simp; try with_reducible rfl))
  try simp only [List.getElem_toArray, List.getElem_cons_succ, List.getElem_cons_zero, Act.put, List.setIfInBounds_toArray, List.set_cons_zero, List.set_cons_succ]
  refine AnyT.take (i := 21) (v := ?_) rfl (by kernel_rfl) (by kernel_rfl) (fun _ _ _ h => h) (by kernel_rfl) (by kernel_rfl) (Or.inl ⟨by rfl, ?_⟩) HS.out ?_
  rotate_left
  · (intro w9 h9; first | (go_simp; with_reducible rfl) | (obtain ⟨y0, y1, y2, y3, y4, y5, y6, y7, y8, y9, y10, y11⟩ := (HSd.out _).1 h9; go_simp; try with_reducible rfl))
  try simp only [List.getElem_toArray, List.getElem_cons_succ, List.getElem_cons_zero, Act.put, List.setIfInBounds_toArray, List.set_cons_zero, List.set_cons_succ]
  refine AnyT.one (i := 12) (by kernel_rfl) rfl (fun K hK => ?_)
  rw [if_pos (by rfl)]
  try simp only [List.getElem_toArray, List.getElem_cons_succ, List.getElem_cons_zero, Act.put, List.setIfInBounds_toArray, List.set_cons_zero, List.set_cons_succ]
  go_wp2_with (go_at_call 25; refine (ownOps hoD hn hl).mono ?_; rintro e w1 ⟨u1, rfl, ⟨xs, hO1⟩, hc1⟩)
  obtain ⟨U, un, uc, rfl⟩ : ∃ A m c, u1 = .slice A m c := rdv_sl (RdV.of_own hO1.row)
  have hX1 := (show Blk w0.drew p 28 ar from hXB).c0 hc1
  refine hK.out _ _ (fun _ => HSB.out w1 hX1) ?_
  clear hK K
  try simp only [List.getElem_toArray, List.getElem_cons_succ, List.getElem_cons_zero, Act.put, List.setIfInBounds_toArray, List.set_cons_zero, List.set_cons_succ]
  refine AnyT.one (i := 17) (by kernel_rfl) rfl (fun K hK => ?_)
  rw [if_pos (by rfl)]
  try simp only [List.getElem_toArray, List.getElem_cons_succ, List.getElem_cons_zero, Act.put, List.setIfInBounds_toArray, List.set_cons_zero, List.set_cons_succ]
  go_wp2_with (go_at_call 12; refine (refCopy (hrD.c0 hc1) (by omega)).mono ?_; rintro e w2 ⟨u2, rfl, hu2, hc2⟩)
  obtain ⟨U2, un2, uc2, rfl⟩ : ∃ A m c, u2 = .slice A m c := hu2.shapeH
  have hX2 := hX1.c0 hc2
  refine hK.out _ _ (fun _ => HSB.out w2 hX2) ?_
  clear hK K
  try simp only [List.getElem_toArray, List.getElem_cons_succ, List.getElem_cons_zero, Act.put, List.setIfInBounds_toArray, List.set_cons_zero, List.set_cons_succ]
  refine AnyT.take (i := 22) (v := .agg (askA x (.slice U un uc) (.slice U2 un2 uc2))) rfl (by kernel_rfl) (by kernel_rfl) (fun _ _ _ h => h) (by kernel_rfl) (by kernel_rfl) (Or.inl ⟨by rfl, fun w9 _ => by kernel_rfl⟩) (HSB.out w2 hX2) ?_
  try simp only [List.getElem_toArray, List.getElem_cons_succ, List.getElem_cons_zero, Act.put, List.setIfInBounds_toArray, List.set_cons_zero, List.set_cons_succ]
  refine AnyT.one (i := 23) (by kernel_rfl) rfl (fun K hK => ?_)
  rw [if_pos (by rfl)]
  try simp only [List.getElem_toArray, List.getElem_cons_succ, List.getElem_cons_zero, Act.put, List.setIfInBounds_toArray, List.set_cons_zero, List.set_cons_succ]
  refine wp_store_any info_ask (.tmp 2) (.tmp 25) rfl g (askA x (.slice U un uc) (.slice U2 un2 uc2)) rfl rfl zeroA (((show Blk w0.drew g 41 zeroA from hY).c0 hc1).c0 hc2) rfl rfl (by simp [askA, Value.oneCell']) fun w3 hP3 hc3 => ?_
  have hX3 := hX2.chg hc3 hpg
  refine hK.out _ _ (fun _ => HSB.out w3 hX3) ?_
  clear hK K
  try simp only [List.getElem_toArray, List.getElem_cons_succ, List.getElem_cons_zero, Act.put, List.setIfInBounds_toArray, List.set_cons_zero, List.set_cons_succ]
  refine AnyT.nil (by kernel_rfl) ?_
  have hcf : Chg Non w w3 := ((((hcW.drew).trans0 hc1).trans0 hc2).trans hc3 fun k hk e => by have := HPG.out; omega)
  have hg2 : g < w0.heap.size := hY.lt
  have hO3 := (hO1.chg hc2 fun _ _ _ h => h).chg hc3 (fun k h1 h2 e => by have : w0.heap.size ≤ k := h1; omega)
  have hu3 := hu2.chg hc3 (fun k hk e => by have := (hu2.lt k hk).1; have := hc1.size; have : w0.drew.heap.size = w0.heap.size := rfl; omega)
  have HF := hide (And.intro hO3 (And.intro hu3 hcf))
  have hs0 := hcW.size
  have hs1 := hc1.size
  clear hO1 hO3 hu2 hu3 hcf hc1 hc2 hc3 HS HSB HSd hX1 hX2 hX3 hY hXB
  go_wp2_with fail
  refine bodyPost_ret (results_cell_row (P := Try.prog) rfl _ _ g 41 _ (0, 0) _ rfl hP3 Try.underlying41 rfl info_ask) rfl ⟨_, _, rfl, ⟨xs, HF.out.1.low hs0⟩, HF.out.2.1.low (Nat.le_trans hs0 hs1), HF.out.2.2⟩
end Go.Proofs.Ytncchbcoldgpbaa

namespace Go.Proofs.Ytncchbcoldgpbaa
open Go.RowKit
set_option linter.unusedVariables false
set_option linter.unusedSimpArgs false

/-- two pieces more, and the row that grew apart from all -/
theorem pcs_grow {w w1 w2 wL w4 : World} {b : Nat} {v v' u1 u2 : Value} {pcs : List (Value × List UInt8)} {t1 t2 : List UInt8} (hown : OwnQs w b pcs) (hapt : ∀ p ∈ pcs, Apt v p.1) (hvl : ∀ k, v.ownBlock = some k → k < w.heap.size) (hb : b ≤ w.heap.size)
    (hc1 : Chg Non w w1) (hu1 : OwnB w1 w.heap.size u1 t1) (hc2 : Chg Non w1 w2) (hu2 : OwnB w2 w1.heap.size u2 t2) (hcL : Chg Non w2 wL) (hg : wL.grownBy w4 v.ownBlock) (hat : v'.ownBlock = v.ownBlock ∨ v'.ownBlock = some wL.heap.size) :
    OwnQs w4 b (pcs ++ [(u1, t1), (u2, t2)]) ∧ ∀ p ∈ pcs ++ [(u1, t1), (u2, t2)], Apt v' p.1 := by
  have hq1 := hown.add hc1 (fun _ _ _ h => h) hu1 hb
  have hq2 := hq1.add (t := t2) hc2 (fun _ _ _ h => h) hu2 (Nat.le_trans hb hc1.size)
  have hqL := hq2.c0 hcL
  rw [List.append_assoc] at hqL
  have hap : ∀ p ∈ pcs ++ [(u1, t1), (u2, t2)], ∀ k, p.1.ownBlock = some k → v.ownBlock ≠ some k := by
    intro p hp k hk e
    rcases List.mem_append.1 hp with hp | hp
    · exact hapt p hp k e hk
    · have h2 := hvl k e
      simp only [List.mem_cons, List.not_mem_nil, or_false] at hp
      rcases hp with rfl | rfl
      · have h1 := (hu1.lt k hk).1
        omega
      · have h1 := (hu2.lt k hk).1
        have := hc1.size
        omega
  refine ⟨⟨fun p hp => (hqL.1 p hp).chg (Chg.of_grown hg) fun k hk e => hap p hp k hk e.symm, hqL.2⟩, fun p hp k hk e => ?_⟩
  rcases hat with h1 | h1
  · exact hap p hp k e (h1 ▸ hk)
  · rw [h1] at hk
    injection hk with hk
    have := ((hqL.1 p hp).lt k e).2
    omega
/-- a row in new memory -/
structure HasR (w : World) (base : Nat) (v : Value) (l : List PairL) (xs : List (Value × Value)) : Prop where
  len : xs.length = l.length
  row : w.ownsRow base 88 2 v l.length (flR xs)
  own : OwnQs w base (pcR xs l)
  apt : ∀ p ∈ pcR xs l, Apt v p.1
/-- writes in new memory -/
structure HasW (w : World) (base : Nat) (v : Value) (l : List WrO) (xs : List (Value × Value)) : Prop where
  len : xs.length = l.length
  row : w.ownsRow base 125 3 v l.length (flWr xs l)
  own : OwnQs w base (pcWr xs l)
  apt : ∀ p ∈ pcWr xs l, Apt v p.1
theorem HasR.nil_ (w : World) (base : Nat) : HasR w base (.slice none 0 0) [] [] := ⟨rfl, World.ownsRow_nil w base _ 2, OwnQs.nil_ _ _, fun p hp => by simp [pcR] at hp⟩
theorem HasW.nil_ (w : World) (base : Nat) : HasW w base (.slice none 0 0) [] [] := ⟨rfl, World.ownsRow_nil w base _ 3, OwnQs.nil_ _ _, fun p hp => by simp [pcWr] at hp⟩
theorem HasR.chg {w w' : World} {base : Nat} {S : Nat → Prop} {v : Value} {l : List PairL} {xs : List (Value × Value)} (h : HasR w base v l xs) (hc : Chg S w w') (hS : ∀ k, base ≤ k → k < w.heap.size → ¬ S k) : HasR w' base v l xs :=
  ⟨h.len, row_chgO h.row hc fun k hk => hS k (World.ownsRow.lt h.row k hk).1 (World.ownsRow.lt h.row k hk).2, h.own.chg hc hS, h.apt⟩
theorem HasW.chg {w w' : World} {base : Nat} {S : Nat → Prop} {v : Value} {l : List WrO} {xs : List (Value × Value)} (h : HasW w base v l xs) (hc : Chg S w w') (hS : ∀ k, base ≤ k → k < w.heap.size → ¬ S k) : HasW w' base v l xs :=
  ⟨h.len, row_chgO h.row hc fun k hk => hS k (World.ownsRow.lt h.row k hk).1 (World.ownsRow.lt h.row k hk).2, h.own.chg hc hS, h.apt⟩
section
variable {w w1 w2 wL w4 : World} {b : Nat} {v v' u1 u2 : Value} {xs : List (Value × Value)}
theorem HasR.grow {l : List PairL} {o : PairL} (h : HasR w b v l xs) (hb : b ≤ w.heap.size) (hc1 : Chg Non w w1) (hu1 : OwnB w1 w.heap.size u1 o.1) (hc2 : Chg Non w1 w2) (hu2 : OwnB w2 w1.heap.size u2 o.2)
    (hcL : Chg Non w2 wL) (hrow : w4.ownsRow b 88 2 v' (l.length + 1) (flR xs ++ [u1, u2])) (hg : wL.grownBy w4 v.ownBlock) (hat : v'.ownBlock = v.ownBlock ∨ v'.ownBlock = some wL.heap.size) : HasR w4 b v' (l ++ [o]) (xs ++ [(u1, u2)]) := by
  have hp := pcs_grow h.own h.apt (fun k hk => (World.ownsRow.lt h.row k hk).2) hb hc1 hu1 hc2 hu2 hcL hg hat
  have e : pcR (xs ++ [(u1, u2)]) (l ++ [o]) = pcR xs l ++ [(u1, o.1), (u2, o.2)] := pcR_snoc h.len _ _
  rw [← e] at hp
  refine ⟨by rw [List.length_append, List.length_append, h.len]; rfl, ?_, hp.1, hp.2⟩
  rw [List.length_append, show flR (xs ++ [(u1, u2)]) = flR xs ++ [u1, u2] by unfold flR; rw [List.flatMap_append]; rfl]
  exact hrow
theorem HasW.grow {l : List WrO} {o : WrO} (h : HasW w b v l xs) (hb : b ≤ w.heap.size) (hc1 : Chg Non w w1) (hu1 : OwnB w1 w.heap.size u1 o.a) (hc2 : Chg Non w1 w2) (hu2 : OwnB w2 w1.heap.size u2 o.b)
    (hcL : Chg Non w2 wL) (hrow : w4.ownsRow b 125 3 v' (l.length + 1) (flWr xs l ++ [u1, u2, .bool o.f])) (hg : wL.grownBy w4 v.ownBlock) (hat : v'.ownBlock = v.ownBlock ∨ v'.ownBlock = some wL.heap.size) : HasW w4 b v' (l ++ [o]) (xs ++ [(u1, u2)]) := by
  have hp := pcs_grow h.own h.apt (fun k hk => (World.ownsRow.lt h.row k hk).2) hb hc1 hu1 hc2 hu2 hcL hg hat
  have e : pcWr (xs ++ [(u1, u2)]) (l ++ [o]) = pcWr xs l ++ [(u1, o.a), (u2, o.b)] := pcWr_snoc h.len _ _
  rw [← e] at hp
  refine ⟨by rw [List.length_append, List.length_append, h.len]; rfl, ?_, hp.1, hp.2⟩
  rw [List.length_append, flWr_snoc h.len]
  exact hrow
/-- as it reads -/
theorem HasR.rd {l : List PairL} (h : HasR w b v l xs) : RdRow w (fun k => b ≤ k ∧ k < w.heap.size) v l := by
  refine ⟨xs, h.len, (RdV.of_own h.row).mono fun k hk => World.ownsRow.lt h.row k hk, fun i x y hx hy => ?_⟩
  have hz : (xs.zip l)[i]? = some (x, y) := List.getElem?_zip_eq_some.2 ⟨hx, hy⟩
  have hmem := List.mem_of_getElem? hz
  exact ⟨(h.own.1 (x.1, y.1) (List.mem_flatMap.2 ⟨_, hmem, by simp⟩)).rdB, (h.own.1 (x.2, y.2) (List.mem_flatMap.2 ⟨_, hmem, by simp⟩)).rdB⟩
theorem HasW.rd {l : List WrO} (h : HasW w b v l xs) : RdWr w (fun k => b ≤ k ∧ k < w.heap.size) v l := by
  refine ⟨xs, h.len, (RdV.of_own h.row).mono fun k hk => World.ownsRow.lt h.row k hk, fun i x y hx hy => ?_⟩
  have hz : (xs.zip l)[i]? = some (x, y) := List.getElem?_zip_eq_some.2 ⟨hx, hy⟩
  have hmem := List.mem_of_getElem? hz
  exact ⟨(h.own.1 (x.1, y.a) (List.mem_flatMap.2 ⟨_, hmem, by simp⟩)).rdB, (h.own.1 (x.2, y.b) (List.mem_flatMap.2 ⟨_, hmem, by simp⟩)).rdB⟩
end
/-- rows in new memory: the row of rows is the call's own, and apart from what its rows are -/
structure HasRs (w : World) (base : Nat) (v : Value) (rs : List (List PairL)) (us : List Value) : Prop where
  len : us.length = rs.length
  row : w.ownsRow base 89 1 v rs.length us
  el : ∀ (i : Nat) (x : Value) (r : List PairL), us[i]? = some x → rs[i]? = some r → RdRow w (fun k => (base ≤ k ∧ k < w.heap.size) ∧ v.ownBlock ≠ some k) x r
theorem HasRs.nil_ (w : World) (base : Nat) : HasRs w base (.slice none 0 0) [] [] := ⟨rfl, World.ownsRow_nil w base _ 1, fun i x r h => by simp at h⟩
theorem HasRs.chg {w w' : World} {base : Nat} {S : Nat → Prop} {v : Value} {l : List (List PairL)} {xs : List Value} (h : HasRs w base v l xs) (hc : Chg S w w') (hS : ∀ k, base ≤ k → k < w.heap.size → ¬ S k) : HasRs w' base v l xs :=
  ⟨h.len, row_chgO h.row hc fun k hk => hS k (World.ownsRow.lt h.row k hk).1 (World.ownsRow.lt h.row k hk).2, fun i x r hx hr => ((h.el i x r hx hr).chg hc fun k hk => hS k hk.1.1 hk.1.2).mono fun k hk => ⟨⟨hk.1.1, Nat.lt_of_lt_of_le hk.1.2 hc.size⟩, hk.2⟩⟩
theorem HasRs.rd {w : World} {base : Nat} {v : Value} {l : List (List PairL)} {xs : List Value} (h : HasRs w base v l xs) : RdRows w (fun k => base ≤ k ∧ k < w.heap.size) v l :=
  ⟨xs, h.len, (RdV.of_own h.row).mono fun k hk => World.ownsRow.lt h.row k hk, fun i x r hx hr => (h.el i x r hx hr).mono fun k hk => hk.1⟩
/-- one row more, which was made behind the row of rows -/
theorem HasRs.grow {w wL w4 : World} {b m : Nat} {v v' u : Value} {rs : List (List PairL)} {us : List Value} {r : List PairL} (h : HasRs w b v rs us) (hr : RdRow w (fun k => m ≤ k ∧ k < w.heap.size) u r) (hm : ∀ k, v.ownBlock = some k → k < m) (hb : b ≤ m)
    (hcL : Chg Non w wL) (hrow : w4.ownsRow b 89 1 v' (rs.length + 1) (us ++ [u])) (hg : wL.grownBy w4 v.ownBlock) (hat : v'.ownBlock = v.ownBlock ∨ v'.ownBlock = some wL.heap.size) : HasRs w4 b v' (rs ++ [r]) (us ++ [u]) := by
  have hgc := Chg.of_grown hg
  have hsz := hcL.size
  have hs4 := hgc.size
  have key : ∀ {x : Value} {y : List PairL} {F : Nat → Prop}, RdRow w F x y → (∀ k, F k → (b ≤ k ∧ k < w.heap.size) ∧ v.ownBlock ≠ some k) → RdRow w4 (fun k => (b ≤ k ∧ k < w4.heap.size) ∧ v'.ownBlock ≠ some k) x y := fun hx hF =>
    (((hx.mono hF).chg hcL fun _ _ h => h).chg hgc fun k hk e => hk.2 e.symm).mono fun k hk => ⟨⟨hk.1.1, by omega⟩, fun e => by
      rcases hat with h1 | h1
      · exact hk.2 (h1 ▸ e)
      · rw [h1] at e; injection e with e; omega⟩
  refine ⟨by rw [List.length_append, List.length_append, h.len]; rfl, by rw [List.length_append]; exact hrow, fun i x y hx hy => ?_⟩
  rw [List.getElem?_append] at hx hy
  by_cases hi : i < us.length
  · rw [if_pos hi] at hx
    rw [if_pos (by rw [← h.len]; exact hi)] at hy
    exact key (h.el i x y hx hy) fun k hk => hk
  · rw [if_neg hi] at hx
    rw [if_neg (by rw [← h.len]; exact hi)] at hy
    obtain ⟨h1, h2⟩ := List.getElem?_eq_some_iff.1 hx
    obtain ⟨h3, h4⟩ := List.getElem?_eq_some_iff.1 hy
    simp at h2 h4
    rw [← h2, ← h4]
    exact key hr fun k hk => ⟨⟨by omega, hk.2⟩, fun e => by have := hm k e; omega⟩
end Go.Proofs.Ytncchbcoldgpbaa
