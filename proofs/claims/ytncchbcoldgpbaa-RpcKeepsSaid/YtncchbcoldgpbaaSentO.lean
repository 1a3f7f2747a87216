/- groynelaw12.Own: operations of their own. -/
import Derived.Test.YtncchbcoldgpbaaClM
import Derived.Test.YtncchbcoldgpbaaBaM
namespace Go.Proofs.Ytncchbcoldgpbaa
open Go.RowKit
set_option linter.unusedVariables false
set_option linter.unusedSimpArgs false

/-- operations as they come in -/
def RdOs (w : World) (F : Nat → Prop) (v : Value) (l : List OpS) : Prop :=
  ∃ xs : List (Value × Value), xs.length = l.length ∧ RdV w F 4 v l.length (flO xs l) ∧ ∀ (i : Nat) (x : Value × Value) (y : OpS), xs[i]? = some x → l[i]? = some y → RdB w F x.1 y.key ∧ RdB w F x.2 y.val
theorem RdOs.chg {w w' : World} {F S : Nat → Prop} {v : Value} {r : List OpS} (h : RdOs w F v r) (hc : Chg S w w') (hF : ∀ k, F k → ¬ S k) : RdOs w' F v r := by
  obtain ⟨xs, h1, h2, h3⟩ := h
  exact ⟨xs, h1, h2.chg hc hF, fun i x y hx hy => ⟨(h3 i x y hx hy).1.chg hc hF, (h3 i x y hx hy).2.chg hc hF⟩⟩
theorem RdOs.c0 {w w' : World} {F : Nat → Prop} {v : Value} {r : List OpS} (h : RdOs w F v r) (hc : Chg Non w w') : RdOs w' F v r := h.chg hc fun _ _ h => h
theorem RdOs.shape {w : World} {F : Nat → Prop} {v : Value} {r : List OpS} (h : RdOs w F v r) : ∃ A c, v = .slice A r.length c ∧ r.length ≤ c ∧ c ≤ maxLen := by
  obtain ⟨xs, h1, h2, h3⟩ := h
  exact h2.shape
theorem RdOs.at_ {w : World} {F : Nat → Prop} {A : Option Addr} {n c : Nat} {l : List OpS} (h : RdOs w F (.slice A n c) l) {k : Nat} (hk : k < l.length) :
    ∃ ad p q, A = some ad ∧ F ad.block ∧ w.cell? (ad.add (k * 4)) = some (.int .i64 l[k].kind) ∧ w.cell? ⟨(ad.add (k * 4)).block, (ad.add (k * 4)).off + 1, none⟩ = some p ∧ w.cell? ⟨(ad.add (k * 4)).block, (ad.add (k * 4)).off + 2, none⟩ = some q ∧
      w.cell? ⟨(ad.add (k * 4)).block, (ad.add (k * 4)).off + 3, none⟩ = some (.int .i64 l[k].most) ∧ RdB w F p l[k].key ∧ RdB w F q l[k].val := by
  obtain ⟨xs, h1, ⟨h2, A', c', e, _, _, h4⟩, h3⟩ := h
  injection e with e1 e2 e3
  subst e1
  obtain ⟨ad, e, hF, hc⟩ := h4 (by omega)
  have hkx : k < xs.length := by omega
  have hz : k < (xs.zip l).length := by rw [List.length_zip]; omega
  have hg : (xs.zip l)[k] = (xs[k], l[k]) := by rw [List.getElem_zip]
  have hcell := fun i (hi : i < 4) => flat4_get (fun p : (Value × Value) × OpS => Value.int .i64 p.2.kind) (fun p => p.1.1) (fun p => p.1.2) (fun p => Value.int .i64 p.2.most) (xs.zip l) k i hz hi
  rw [hg] at hcell
  obtain ⟨r1, r2⟩ := h3 k xs[k] l[k] (List.getElem?_eq_getElem hkx) (List.getElem?_eq_getElem hk)
  refine ⟨ad, xs[k].1, xs[k].2, e, hF, ?_, ?_, ?_, ?_, r1, r2⟩
  · exact hc (k * 4) _ (hcell 0 (by omega))
  · rw [← add_succ _ _ _ (by omega)]; exact hc (k * 4 + 1) _ (hcell 1 (by omega))
  · rw [← add_succ _ _ _ (by omega)]; exact hc (k * 4 + 2) _ (hcell 2 (by omega))
  · rw [← add_succ _ _ _ (by omega)]; exact hc (k * 4 + 3) _ (hcell 3 (by omega))
theorem RdOs.take {w : World} {F : Nat → Prop} {A : Option Addr} {n c : Nat} {l : List OpS} (h : RdOs w F (.slice A n c) l) {k : Nat} (hk : k ≤ l.length) : RdOs w F (.slice A k c) (l.take k) := by
  obtain ⟨xs, h1, ⟨h2, A', c', e, h5, h6, h4⟩, h3⟩ := h
  injection e with e1 e2 e3
  subst e1; subst e3
  have hl : (l.take k).length = k := by rw [List.length_take]; omega
  have hx : (xs.take k).length = k := by rw [List.length_take]; omega
  have hfl : flO (xs.take k) (l.take k) = (flO xs l).take (k * 4) := by
    have e1 : flO xs l = flO (xs.take k) (l.take k) ++ flO (xs.drop k) (l.drop k) := by
      unfold flO
      rw [← List.flatMap_append, ← List.zip_append (by rw [hx, hl]), List.take_append_drop, List.take_append_drop]
    have e2 := flO_len (xs.take k) (l.take k) (by rw [hx, hl])
    rw [hl] at e2
    rw [e1, ← e2, List.take_left]
  refine ⟨xs.take k, by rw [hx, hl], ⟨by rw [flO_len _ _ (by rw [hx, hl])], A, c, by rw [hl], by omega, h6, fun hn => ?_⟩, fun i x y hx hy => ?_⟩
  · obtain ⟨ad, e, hF, hc⟩ := h4 (by omega)
    refine ⟨ad, e, hF, fun j u hu => hc j u ?_⟩
    rw [hfl, List.getElem?_take] at hu
    split at hu
    · exact hu
    · cases hu
  · rw [List.getElem?_take] at hx hy
    split at hx
    · rename_i hik
      rw [if_pos hik] at hy
      exact h3 i x y hx hy
    · cases hx
theorem HasO.nil_ (w : World) (base : Nat) : HasO w base (.slice none 0 0) [] [] := ⟨rfl, World.ownsRow_nil w base _ 4, OwnQs.nil_ _ _, fun p hp => by simp [pcO] at hp⟩
/-- one operation more -/
theorem HasO.grow {w w1 w2 wL w4 : World} {b : Nat} {v v' u1 u2 : Value} {l : List OpS} {xs : List (Value × Value)} {o : OpS} (h : HasO w b v l xs) (hb : b ≤ w.heap.size) (hc1 : Chg Non w w1) (hu1 : OwnB w1 w.heap.size u1 o.key) (hc2 : Chg Non w1 w2) (hu2 : OwnB w2 w1.heap.size u2 o.val)
    (hcL : Chg Non w2 wL) (hrow : w4.ownsRow b 85 4 v' (l.length + 1) (flO xs l ++ [.int .i64 o.kind, u1, u2, .int .i64 o.most])) (hg : wL.grownBy w4 v.ownBlock) (hat : v'.ownBlock = v.ownBlock ∨ v'.ownBlock = some wL.heap.size) : HasO w4 b v' (l ++ [o]) (xs ++ [(u1, u2)]) := by
  have hvl := World.ownsRow.lt h.row
  have hq1 := h.own.add hc1 (fun _ _ _ h => h) hu1 hb
  have hq2 := hq1.add (t := o.val) hc2 (fun _ _ _ h => h) hu2 (Nat.le_trans hb hc1.size)
  have hqL := hq2.c0 hcL
  have hpc : pcO (xs ++ [(u1, u2)]) (l ++ [o]) = pcO xs l ++ [(u1, o.key)] ++ [(u2, o.val)] := by rw [pcO_snoc h.len, List.append_assoc]; rfl
  have hap : ∀ p ∈ pcO xs l ++ [(u1, o.key)] ++ [(u2, o.val)], ∀ k, p.1.ownBlock = some k → v.ownBlock ≠ some k := by
    intro p hp k hk e
    rcases List.mem_append.1 hp with hp | hp
    · rcases List.mem_append.1 hp with hp | hp
      · exact h.apt p hp k e hk
      · rw [List.mem_singleton] at hp
        subst hp
        have h1 := (hu1.lt k hk).1
        have h2 := (hvl k e).2
        omega
    · rw [List.mem_singleton] at hp
      subst hp
      have h1 := (hu2.lt k hk).1
      have h2 := (hvl k e).2
      have := hc1.size
      omega
  refine ⟨by rw [List.length_append, List.length_append, h.len]; rfl, ?_, ?_, ?_⟩
  · rw [List.length_append, flO_snoc h.len]
    exact hrow
  · rw [hpc]
    exact ⟨fun p hp => (hqL.1 p hp).chg (Chg.of_grown hg) fun k hk e => hap p hp k hk e.symm, hqL.2⟩
  · rw [hpc]
    intro p hp k hk e
    rcases hat with h1 | h1
    · exact hap p hp k e (h1 ▸ hk)
    · rw [h1] at hk
      injection hk with hk
      have := ((hqL.1 p hp).lt k e).2
      omega
end Go.Proofs.Ytncchbcoldgpbaa
