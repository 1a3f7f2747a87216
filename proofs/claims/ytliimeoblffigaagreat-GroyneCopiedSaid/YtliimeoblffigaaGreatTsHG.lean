/- The walk of btree's drop at a leaf. -/
import Derived.Test.YtliimeoblffigaaGreatTsE
set_option linter.unusedVariables false
set_option linter.unusedSimpArgs false
set_option maxRecDepth 100000
namespace Go.Proofs.YtliimeoblffigaaGreat
open Go.RowKit Go.Maps
set_option linter.unusedVariables false
set_option linter.unusedSimpArgs false

/-- what drop answers: the key is gone; true: nothing is left below id, and its page is gone too -/
def DropP (w : World) (T : Nat → Prop) (g hand : Nat) (pre : ByteArray) (q : Nat) (ids : List Nat) (ct : Nat → List UInt8) (ps : List Nat) (root : Int) (h id : Nat) (l : List KV) (e : Ending) (w' : World) : Prop :=
  ∃ (T' : Nat → Prop) (ids' : List Nat) (ct' : Nat → List UInt8), TS w' T' g hand pre (q + 3 * (h + 1)) ids' ct' ∧ (∀ b, T' b → Ext T w w' b) ∧ Chg T w w' ∧ ids'.length ≤ ids.length ∧
    ((e = .returned (.tuple #[.bool false, .int .i64 0]) ∧ ∃ h' ps', h' ≤ h ∧ ((id : Int) ≠ root → h' = h ∧ l ≠ []) ∧ Upd ids ids' ct ct' ps ps' ∧ TR ct' h' id ps' l) ∨
     (e = .returned (.tuple #[.bool true, .int .i64 0]) ∧ (id : Int) ≠ root ∧ l = [] ∧ Upd ids ids' ct ct' ps []))
section
variable {ids ids' ps : List Nat} {ct ct' : Nat → List UInt8} {id : Nat} {b : List UInt8}
/-- a page is gone -/
theorem Upd.gone_ {P : List Nat} (U : Upd ids ids' ct ct' ps P) {ids2 : List Nat} (hps : id ∈ ps) (hi : ∀ j, j ∈ ids2 ↔ j ∈ ids' ∧ j ≠ id) : Upd ids ids2 ct (upd ct' id b) ps [] :=
  ⟨fun j hj hn => by
    have hji : j ≠ id := fun e => hn (e ▸ hps)
    exact ⟨(hi j).2 ⟨(U.keep j hj hn).1, hji⟩, (upd_ne hji).trans (U.keep j hj hn).2⟩, fun j hj => by simp at hj, fun j hj => by simp at hj, List.nodup_nil⟩
end
section
variable {w : World} {T G : Nat → Prop} {g hand q gt id d h : Nat} {root : Int} {pre : ByteArray} {ids : List Nat} {ct : Nat → List UInt8} {k : List UInt8} {XA : Option Addr} {xn xc : Nat}
set_option maxHeartbeats 16000000 in
theorem tDropL {l : List KV} (hS : TS w T g hand pre q ids ct) (hb : Blk w gt 121 #[.pointer (some ⟨g, 0, none⟩), .int .i64 root]) (hgt : ¬ T gt) (hi : id ∈ ids) (hq : q + 3 ≤ 900000) (hd : d ≤ 64) (hx : RdB w G (.slice XA xn xc) k) (hG : ∀ b, G b → ¬ T b) (hct : ct id = pageKV l) (hil : id ≤ 65535) (hg : GoodKV l) (hs : sizeKV l ≤ 512) (hne : (id : Int) ≠ root → l ≠ []) :
    Calls Tryz.prog 88 #[.pointer (some ⟨gt, 0, none⟩), .int .i64 (id : Int), .int .i64 (d : Int), .slice XA xn xc] w (DropP w T g hand pre q ids ct [id] root 0 id (kvDel k l)) := by
  unfold DropP
  have hTl := hS.lt
  have hx1 := hx.lt
  have hch := tChildL hS hb hgt hi (by omega) hct hg hs
  have HTL := hide hTl
  have HX1 := hide hx1
  have HB1 := hide hb
  clear hS hb hTl hx1 hx
  go_enter Tryz.func88, Tryz.ntmps88
  go_upto_region 2 with (go_at_call 92; refine hch.mono ?_; rintro e w2 ⟨T2, B, KA, kn, kc, VA, vn, vc, NA, nn, nc, rfl, hO⟩)
  have hbb := Blk.new w2 125 #[.bool true, .slice KA kn kc, .slice VA vn vc, .slice NA nn nc]
  have hcB := (Chg.refl Non w2).alloc (.cells #[.bool true, .slice KA kn kc, .slice VA vn vc, .slice NA nn nc] 125)
  have hnB := sizeAl' w2 (.cells #[.bool true, .slice KA kn kc, .slice VA vn vc, .slice NA nn nc] 125)
  have hO3 := hO.c0 hcB
  obtain ⟨gb, hgb⟩ : ∃ g, g = w2.heap.size := ⟨_, rfl⟩
  have hnN : ¬ T2 gb ∧ w.heap.size ≤ gb := by
    have h2 := hO.chg.size
    refine ⟨fun h => ?_, by omega⟩
    have := hO.ts.lt gb h; omega
  have hx3 := (HX1.out.chg hO.chg fun b hb => hG b hb.1).c0 hcB
  have hb3 := (HB1.out.chg hO.chg hgt).c0 hcB
  have hgt2 : ¬ T2 gt := fun h => by
    rcases hO.sub gt h with h | h
    · exact hgt h
    · have := HB1.out.lt; omega
  have hGT : gt ≠ gb := fun e => by have := HB1.out.lt; have := hO.chg.size; omega
  have hkb := (hO.k.c0 hcB).mono (F' := fun b => B ≤ b ∧ b ≠ gb) fun b hb => ⟨hb.1, by omega⟩
  have hvb := (hO.v.c0 hcB).mono (F' := fun b => B ≤ b ∧ b ≠ gb) fun b hb => ⟨hb.1, by omega⟩
  have hnb := (hO.n.c0 hcB).mono (F' := fun b => B ≤ b ∧ b ≠ gb) fun b hb => ⟨hb.1, by omega⟩
  rw [← hgb] at hbb hnB ⊢
  have hlo9 : ∀ b, T2 b → b < B := hO.low
  have HGB := hide (show gt < B ∧ w.heap.size ≤ B from ⟨by have := HB1.out.lt; have := hO.lo; omega, hO.lo⟩)
  generalize World.alloc w2 _ = w3 at hbb hcB hO3 hx3 hb3 hkb hvb hnb hnB ⊢
  have hgb3 : gb < w3.heap.size := by omega
  have hlen : l.length ≤ 200 := by have := len_le_size l; omega
  have hfi := lfFind (lf := true) (VA := VA) (vn := vn) (vc := vc) (NA := NA) (nn := nn) (nc := nc) hkb hx3 (by have h := hg.upL; unfold UpL at h; unfold ksL; exact List.pairwise_map.2 h) (by rw [ksL_length]; omega)
  have hO9 : TS w3 T2 g hand pre (q + 1) ids ct ∧ Blk w3 gt 121 #[.pointer (some ⟨g, 0, none⟩), .int .i64 root] ∧ Chg T w w3 := ⟨hO3.ts, hb3, hO3.chg⟩
  have d1 : decide (64 < (d : Int)) = false := decide_eq_false (by omega)
  have d2 : decide ((d : Int) > 64) = false := decide_eq_false (by omega)
  obtain ⟨⟨b0, b1, b2, b3⟩, _⟩ := blk4 hbb
  have HBB := hide hbb
  have HN3 := hide (And.intro hkb (And.intro hvb hnb))
  have HO9 := hide hO9
  have HNN := hide hnN
  have HLT := hide hO9.1.lt
  have HSUB := hide hO3.sub
  have HLO := hide hlo9
  clear hch hO hO3 hcB hbb hx3 hkb hvb hnb hO9 hgb hlo9 hb3 HB1 HX1 hnN
  go_wp2_with fail
  refine hfi.mono ?_
  rintro e w4 ⟨i, ok, rfl, hf, hc4⟩
  have hdel := hf.del hg.upL
  have hfo := hf.ok
  have n34 := hc4.size
  have HDEL := hide hdel
  have HC4 := hide hc4
  clear hfi hf hdel hc4
  cases ok with
  | false =>
    clear hfo
    go_wp2_with fail
    go_ret2
    have e : kvDel k l = l := HDEL.out
    rw [e]
    have hc := HO9.out.2.2.trans0 HC4.out
    exact ⟨T2, ids, ct, (HO9.out.1.c0 HC4.out).le_q (by omega), fun b hb => (HSUB.out b hb).up n34, hc, Nat.le_refl _, .inl ⟨rfl, 0, [id], Nat.le_refl _, fun h => ⟨rfl, hne h⟩, Upd.refl (by simp) (fun j hj => by rw [List.mem_singleton.1 hj]; exact hi) fun _ _ => rfl, ⟨rfl, hil, hct, hg, hs⟩⟩⟩
  | true =>
    have hil9 : i < l.length := by
      obtain ⟨x, h1, _⟩ := hfo.1 rfl
      have := (List.getElem?_eq_some_iff.1 h1).1
      rwa [ksL_length] at this
    have hwo := lfWithout (i := i) (KA := KA) (kn := kn) (kc := kc) (VA := VA) (vn := vn) (vc := vc) (NA := NA) (nn := nn) (nc := nc) (HN3.out.1.c0 HC4.out) (HN3.out.2.1.c0 HC4.out) (HN3.out.2.2.c0 HC4.out) (by rw [ksL_length]; exact hil9) (by rw [vsL_length]; exact hil9) (by rw [ksL_length]; omega) (by rw [vsL_length]; omega) (by show 0 ≤ 10000; omega) hg.big
    rw [← ksL_rm i, ← vsL_rm i, ← HDEL.out] at hwo
    have hbb4 := HBB.out.c0 HC4.out
    obtain ⟨⟨c0, c1, c2, c3⟩, _⟩ := blk4 hbb4
    have HBB4 := hide hbb4
    clear hfo b0 b1 b2 b3 hbb4 HBB
    go_upto_region 11 with (go_at_call 126; refine hwo.mono ?_; rintro e w5 ⟨B1, m1, k1, B2, m2, k2, B3, m3, k3, rfl, hT5, hc5⟩; have hbb5 := HBB4.out.c0 hc5; obtain ⟨_, f0, f1, f2, f3⟩ := blk4 hbb5)
    obtain ⟨hr8, hc8⟩ := put4 hbb5 (.bool true) (.slice B1 m1 k1) (.slice B2 m2 k2) (.slice B3 m3 k3)
    have n45 := hc5.size
    have hnn := HNN.out
    have hc4 := HC4.out
    have FS : ∀ b, ((((B ≤ b ∧ b ≠ gb) ∧ b < w4.heap.size ∨ w4.heap.size ≤ b) ∨ w4.heap.size ≤ b) ∧ b < w5.heap.size) → ¬ T2 b ∧ b ≠ gb := fun b hb => by
      rcases hb.1 with (h | h) | h
      · exact ⟨fun h2 => by have := HLO.out b h2; omega, h.1.2⟩
      · exact ⟨fun h2 => by have := HLT.out b h2; omega, by omega⟩
      · exact ⟨fun h2 => by have := HLT.out b h2; omega, by omega⟩
    have ho5 : TS _ T2 g hand pre (q + 1) ids ct ∧ Blk _ gt 121 #[.pointer (some ⟨g, 0, none⟩), .int .i64 root] ∧ Chg T w _ := ⟨((HO9.out.1.c0 hc4).c0 hc5).chg hc8 fun b hb e => hnn.1 (by have e : b = gb := e; rw [← e]; exact hb), ((HO9.out.2.1.c0 hc4).c0 hc5).chg hc8 hGT, ((HO9.out.2.2.trans0 hc4).trans0 hc5).trans hc8 fun b hb e => by have e : b = gb := e; omega⟩
    have hk5 := (hT5.rdK.mono FS).chg hc8 fun b hb e => hb.2 e
    have hv5 := (hT5.rdV.mono FS).chg hc8 fun b hb e => hb.2 e
    have hn5 := (hT5.rdI.mono FS).chg hc8 fun b hb e => hb.2 e
    have hm1 : m1 = (kvDel k l).length := by
      obtain ⟨_, _, e, _, _⟩ := hk5.shape
      injection e with _ e _
      rw [e, ksL_length]
    have n8 := hc8.size
    clear hwo c0 c1 c2 c3 f0 f1 f2 f3 hbb5 hc5 hc4 hc8 HBB4 HC4 HN3 HO9 FS hT5 hnn
    generalize World.setCell _ _ _ = w5b at ho5 hk5 hv5 hn5 hr8 n8 ⊢
    obtain ⟨⟨b0, b1, b2, b3⟩, _⟩ := blk4 hr8
    have t0 : w5b.cell? ⟨gt, 0, none⟩ = some (.pointer (some ⟨g, 0, none⟩)) := ho5.2.1.cell 0
    have t1 : w5b.cell? ⟨gt, 1, none⟩ = some (.int .i64 root) := ho5.2.1.cell 1
    have hg' : GoodKV (kvDel k l) := kvDel_good hg
    have hs' : sizeKV (kvDel k l) ≤ 512 := Nat.le_trans (kvDel_size k l) hs
    have hsub : ∀ b, T2 b → T b ∨ (w.heap.size ≤ b ∧ b < w5b.heap.size) := fun b hb => (HSUB.out b hb).imp_right fun h => ⟨h.1, by omega⟩
    have HM1 := hide hm1
    have HO5 := hide ho5
    have HS5 := hide hsub
    have HN5 := hide (show w.heap.size ≤ w5b.heap.size from ho5.2.2.size)
    by_cases hcase : m1 = 0 ∧ (id : Int) ≠ root
    · have hfr := tFree ho5.1 hi
      have e1 : ((m1 : Int) == 0) = true := by rw [hcase.1]; rfl
      have e2 : ((id : Int) == root) = false := beq_eq_false_iff_ne.2 hcase.2
      have hz0 : kvDel k l = [] := by
        have := hcase.1
        rw [hm1] at this
        exact List.length_eq_zero_iff.1 this
      have HZ := hide (And.intro hz0 hcase.2)
      clear hr8 hk5 hv5 hn5 ho5 hm1 hsub n8 n45 hz0 hcase hg' hs'
      go_wp2_with fail
      refine hfr.mono ?_
      rintro e w6 ⟨ids6, rfl, hm6, hl6, hS6, hc6⟩
      have hwr := btWrong w6 0 (by decide)
      have HX := hide (And.intro hm6 (And.intro hl6 (And.intro hS6 hc6)))
      clear hfr hm6 hl6 hS6 hc6
      go_wp2_with fail
      refine hwr.mono ?_
      rintro e w7 ⟨rfl, hw7⟩
      subst hw7
      clear hwr
      go_wp2_with fail
      go_ret2
      have hx := HX.out
      have n6 := hx.2.2.2.size
      have n5 := HN5.out
      refine ⟨T2, ids6, _, hx.2.2.1.le_q (by omega), fun b hb => ?_, HO5.out.2.2.trans hx.2.2.2 fun b hb h => (HS5.out b h).elim (fun y => y) fun h9 => by omega, hx.2.1, .inr ⟨rfl, HZ.out.2, HZ.out.1, (Upd.refl (P := [id]) (by simp) (fun j hj => by rw [List.mem_singleton.1 hj]; exact hi) fun _ _ => rfl).gone_ (by simp) hx.1⟩⟩
      rcases HS5.out b hb with h | h
      · exact .inl h
      · exact .inr ⟨h.1, by omega⟩
    · have hsv := tSaveL ho5.1 ho5.2.1 hgt2 hi (by omega) hk5 hv5 hn5 hg' hs'
      have hor : (m1 ≠ 0) ∨ (m1 = 0 ∧ (id : Int) = root) := by
        by_cases h1 : m1 = 0
        · exact .inr ⟨h1, Decidable.byContradiction fun h2 => hcase ⟨h1, h2⟩⟩
        · exact .inl h1
      have fin : ∀ (e : Ending) (w6 : World), e = .returned (.tuple #[.bool false, .int .i64 0]) → TS w6 (Ext T2 w5b w6) g hand pre (q + 1 + 1) ids (upd ct id (pageKV (kvDel k l))) ∧ Chg T2 w5b w6 → DropP w T g hand pre q ids ct [id] root 0 id (kvDel k l) e w6 := fun e w6 he hx => by
        subst he
        have n6 := hx.2.size
        have n5 := HN5.out
        obtain ⟨U, hTR⟩ := putL_one (ct := ct) hi hil hg' hs'
        refine ⟨_, ids, _, hx.1.le_q (by omega), fun b hb => ?_, HO5.out.2.2.trans hx.2 fun b hb h => (HS5.out b h).elim (fun y => y) fun h9 => by omega, Nat.le_refl _, .inl ⟨rfl, 0, [id], Nat.le_refl _, fun h => ⟨rfl, fun e => ?_⟩, U, hTR⟩⟩
        · rcases hb with h | h
          · rcases HS5.out b h with h | h
            · exact .inl h
            · exact .inr ⟨h.1, by omega⟩
          · exact .inr (by omega)
        · rcases hor with h1 | h1
          · rw [hm1, e] at h1; exact h1 rfl
          · exact h h1.2
      have HFIN := hide fin
      rcases hor with h1 | h1
      · have e1 : ((m1 : Int) == 0) = false := beq_eq_false_iff_ne.2 (by omega)
        clear hr8 hk5 hv5 hn5 ho5 hm1 hsub n8 n45 hcase hg' hs' fin h1
        go_wp2_with fail
        refine hsv.mono ?_
        rintro e w6 ⟨rfl, hS6, hc6⟩
        have HX := hide (And.intro hS6 hc6)
        clear hsv hS6 hc6
        go_wp2_with fail
        go_ret2
        exact HFIN.out _ _ rfl HX.out
      · have e1 : ((m1 : Int) == 0) = true := by rw [h1.1]; rfl
        have e2 : ((id : Int) == root) = true := by rw [h1.2]; exact beq_self_eq_true _
        clear hr8 hk5 hv5 hn5 ho5 hm1 hsub n8 n45 hcase hg' hs' fin h1
        go_wp2_with fail
        refine hsv.mono ?_
        rintro e w6 ⟨rfl, hS6, hc6⟩
        have HX := hide (And.intro hS6 hc6)
        clear hsv hS6 hc6
        go_wp2_with fail
        go_ret2
        exact HFIN.out _ _ rfl HX.out
end
end Go.Proofs.YtliimeoblffigaaGreat

set_option maxRecDepth 100000
namespace Go.Proofs.YtliimeoblffigaaGreat
open Go.RowKit Go.Maps
set_option linter.unusedVariables false
set_option linter.unusedSimpArgs false

section
variable {ids ids' ids2 ps : List Nat} {ct ct' : Nat → List UInt8} {h id o : Nat} {E EA EB : List Ent} {k0 k : List UInt8} {x : Kid} {p' : List Nat}
theorem lE_ne {T : Nat → List Nat → List KV → Prop} (hB : Brn T E) : lE E ≠ [] := fun e => by
  cases E with
  | nil => exact hB.some_ rfl
  | cons a E =>
    rw [lE_cons] at e
    exact hB.ne a (by simp) (List.append_eq_nil_iff.1 e).1
theorem dropI_turn (n : Nod ct ids h id (EA ++ (k0, x) :: EB)) (w : Way EA EB k0 k) (U : Upd ids ids' ct ct' x.ps p') (hT : TR ct' h x.id p' (kvDel k x.l)) (hne : kvDel k x.l ≠ []) :
    ∃ ps', Upd ids ids' ct ct' (id :: psE (EA ++ (k0, x) :: EB)) ps' ∧ TR ct' (h + 1) id ps' (kvDel k (lE (EA ++ (k0, x) :: EB))) ∧ kvDel k (lE (EA ++ (k0, x) :: EB)) ≠ [] := by
  obtain ⟨a, b⟩ := n.turn U hT hne w fun p hp => .inr (kvDel_mem hp)
  refine ⟨_, a, by rw [n.brn.del_ w]; exact b, fun e => ?_⟩
  rw [n.brn.del_ w] at e
  exact hne (List.append_eq_nil_iff.1 (List.append_eq_nil_iff.1 e).2).1
theorem dropI_save (n : Nod ct ids h id (EA ++ (k0, x) :: EB)) (w : Way EA EB k0 k) (U : Upd ids ids' ct ct' x.ps []) (hz : kvDel k x.l = []) (hne : EA ++ EB ≠ []) :
    ∃ E', keysE E' = (keysE (EA ++ (k0, x) :: EB)).take (EA.length - 1) ++ (keysE (EA ++ (k0, x) :: EB)).drop (EA.length - 1 + 1) ∧ idsE E' = (idsE (EA ++ (k0, x) :: EB)).take EA.length ++ (idsE (EA ++ (k0, x) :: EB)).drop (EA.length + 1) ∧ Brn (TR ct' h) E' ∧ sizeIn (keysE E') E'.length ≤ 512 ∧
      Upd ids ids' ct (upd ct' id (pageIn (keysE E') (idsE E'))) (id :: psE (EA ++ (k0, x) :: EB)) (id :: psE E') ∧ TR (upd ct' id (pageIn (keysE E') (idsE E'))) (h + 1) id (id :: psE E') (kvDel k (lE (EA ++ (k0, x) :: EB))) ∧ kvDel k (lE (EA ++ (k0, x) :: EB)) ≠ [] ∧ id ∈ ids' := by
  obtain ⟨E', a, b, c, d, e, f, _⟩ := n.gone U w hz hne
  obtain ⟨V, hTR⟩ := putI_fit a c n.lim d
  exact ⟨E', e, f, a, d, V, by rw [← b]; exact hTR, by rw [← b]; exact lE_ne a, c.has id (by simp)⟩
theorem dropI_last (n : Nod ct ids h id ([] ++ (k0, x) :: [])) (w : Way [] [] k0 k) (U : Upd ids ids' ct ct' x.ps []) (hz : kvDel k x.l = []) :
    Upd ids ids' ct ct' (id :: psE ([] ++ (k0, x) :: [])) [id] ∧ kvDel k (lE ([] ++ (k0, x) :: [])) = [] ∧ id ∈ ids' := by
  obtain ⟨V, _⟩ := n.kid U
  exact ⟨V, by rw [n.brn.del_ w, hz]; rfl, V.has id (by simp [psE])⟩
end
/-- what drop does at a tree of height h -/
def DropAt (h : Nat) : Prop := ∀ {w : World} {T G : Nat → Prop} {g hand q gt id d : Nat} {root : Int} {pre : ByteArray} {ids : List Nat} {ct : Nat → List UInt8} {k : List UInt8} {XA : Option Addr} {xn xc : Nat} {ps : List Nat} {l : List KV} (_ : TS w T g hand pre q ids ct) (_ : Blk w gt 121 #[.pointer (some ⟨g, 0, none⟩), .int .i64 root]) (_ : ¬ T gt) (_ : TR ct h id ps l) (_ : ps.Nodup) (_ : ∀ j ∈ ps, j ∈ ids) (_ : q + 3 * (h + 1) ≤ 900000) (_ : d + h ≤ 64) (_ : RdB w G (.slice XA xn xc) k) (_ : ∀ b, G b → ¬ T b) (_ : ∀ j : Nat, j ∈ ps → (j : Int) = root → j = id) (_ : (id : Int) ≠ root → l ≠ []),
    Calls Tryz.prog 88 #[.pointer (some ⟨gt, 0, none⟩), .int .i64 (id : Int), .int .i64 (d : Int), .slice XA xn xc] w (DropP w T g hand pre q ids ct ps root h id (kvDel k l))
theorem tDrop0 : DropAt 0 := fun hS hb hgt hT hnd hin hq hd hx hG hr hne => by
  obtain ⟨rfl, hil, hct, hg, hs⟩ := hT
  exact tDropL hS hb hgt (hin _ (by simp)) (by omega) (by omega) hx hG hct hil hg hs hne
section
variable {w : World} {T G : Nat → Prop} {g hand q gt id d h : Nat} {root : Int} {pre : ByteArray} {ids : List Nat} {ct : Nat → List UInt8} {k : List UInt8} {XA : Option Addr} {xn xc : Nat}
set_option maxHeartbeats 16000000 in
theorem tDropI {E : List Ent} (IH : DropAt h) (hS : TS w T g hand pre q ids ct) (hb : Blk w gt 121 #[.pointer (some ⟨g, 0, none⟩), .int .i64 root]) (hgt : ¬ T gt) (n : Nod ct ids h id E) (hq : q + 3 * (h + 2) ≤ 900000) (hd : d + h + 1 ≤ 64) (hx : RdB w G (.slice XA xn xc) k) (hG : ∀ b, G b → ¬ T b) (hroot : ∀ j : Nat, j ∈ id :: psE E → (j : Int) = root → j = id) (hne : (id : Int) ≠ root → lE E ≠ []) :
    Calls Tryz.prog 88 #[.pointer (some ⟨gt, 0, none⟩), .int .i64 (id : Int), .int .i64 (d : Int), .slice XA xn xc] w (DropP w T g hand pre q ids ct (id :: psE E) root (h + 1) id (kvDel k (lE E))) := by
  have nf := nod_facts n
  have hi : id ∈ ids := n.sub id (by simp)
  have hTl := hS.lt
  have hx1 := hx.lt
  have hch := tChildI hS hb hgt hi (by omega) nf.1 nf.2.1 nf.2.2.1 nf.2.2.2.1 nf.2.2.2.2.1 nf.2.2.2.2.2
  have HTL := hide hTl
  have HX1 := hide hx1
  have HB1 := hide hb
  clear hS hb hTl hx1 hx
  go_enter Tryz.func88, Tryz.ntmps88
  go_upto_region 2 with (go_at_call 92; refine hch.mono ?_; rintro e w2 ⟨T2, B, KA, kn, kc, VA, vn, vc, NA, nn, nc, rfl, hO⟩)
  have hbb := Blk.new w2 125 #[.bool false, .slice KA kn kc, .slice VA vn vc, .slice NA nn nc]
  have hcB := (Chg.refl Non w2).alloc (.cells #[.bool false, .slice KA kn kc, .slice VA vn vc, .slice NA nn nc] 125)
  have hnB := sizeAl' w2 (.cells #[.bool false, .slice KA kn kc, .slice VA vn vc, .slice NA nn nc] 125)
  have hO3 := hO.c0 hcB
  obtain ⟨gb, hgb⟩ : ∃ g, g = w2.heap.size := ⟨_, rfl⟩
  have hnN : ¬ T2 gb ∧ w.heap.size ≤ gb := by
    have h2 := hO.chg.size
    refine ⟨fun h => ?_, by omega⟩
    have := hO.ts.lt gb h; omega
  have hx3 := (HX1.out.chg hO.chg fun b hb => hG b hb.1).c0 hcB
  have hb3 := (HB1.out.chg hO.chg hgt).c0 hcB
  have hgt2 : ¬ T2 gt := fun h => by
    rcases hO.sub gt h with h | h
    · exact hgt h
    · have := HB1.out.lt; omega
  have hGT : gt ≠ gb := fun e => by have := HB1.out.lt; have := hO.chg.size; omega
  have hkb := (hO.k.c0 hcB).mono (F' := fun b => B ≤ b ∧ b ≠ gb) fun b hb => ⟨hb.1, by omega⟩
  have hvb := (hO.v.c0 hcB).mono (F' := fun b => B ≤ b ∧ b ≠ gb) fun b hb => ⟨hb.1, by omega⟩
  have hnb := (hO.n.c0 hcB).mono (F' := fun b => B ≤ b ∧ b ≠ gb) fun b hb => ⟨hb.1, by omega⟩
  rw [← hgb] at hbb hnB ⊢
  have hlo9 : ∀ b, T2 b → b < B := hO.low
  have HGB := hide (show gt < B ∧ w.heap.size ≤ B from ⟨by have := HB1.out.lt; have := hO.lo; omega, hO.lo⟩)
  generalize World.alloc w2 _ = w3 at hbb hcB hO3 hx3 hb3 hkb hvb hnb hnB ⊢
  have hgb3 : gb < w3.heap.size := by omega
  have hkl : (keysE E).length ≤ 600 := by have := sizeIn_len (keysE E) (idsE E).length; have := nf.2.2.2.2.2; omega
  have hwy := btWay (lf := false) (VA := VA) (vn := vn) (vc := vc) (NA := NA) (nn := nn) (nc := nc) hkb hx3 (keysE_up n.brn) (by omega)
  have d1 : decide (64 < (d : Int)) = false := decide_eq_false (by omega)
  have d2 : decide ((d : Int) > 64) = false := decide_eq_false (by omega)
  have hT2 := (hO.own rfl).fit
  have ob : (∀ b, (Value.slice KA kn kc).ownBlock = some b → B ≤ b ∧ b < gb) ∧ (∀ b, (Value.slice VA vn vc).ownBlock = some b → B ≤ b ∧ b < gb) ∧ (∀ b, (Value.slice NA nn nc).ownBlock = some b → B ≤ b ∧ b < gb) := by
    rw [hgb]
    exact ⟨hT2.k.lt, hT2.v.lt, hT2.i.lt⟩
  rw [← hgb] at hT2
  have hT3 := hT2.c0 hcB
  have HOB := hide ob
  have HT3 := hide hT3
  have HNF := hide nf
  have hgx : ∀ b, (G b ∧ b < w.heap.size) → ¬ T2 b := fun b hb h => by
    rcases hO.sub b h with h | h
    · exact hG b hb.1 h
    · omega
  have HGX := hide hgx
  have HLO := hide hlo9
  have hO9 : TS w3 T2 g hand pre (q + 1) ids ct ∧ Blk w3 gt 121 #[.pointer (some ⟨g, 0, none⟩), .int .i64 root] ∧ Chg T w w3 := ⟨hO3.ts, hb3, hO3.chg⟩
  have HSUB := hide hO3.sub
  obtain ⟨⟨b0, b1, b2, b3⟩, _⟩ := blk4 hbb
  have HBB := hide hbb
  have HX3 := hide hx3
  have HO9 := hide hO9
  have HNN := hide hnN
  clear hch hO hO3 hcB hbb hx3 hkb hvb hnb hO9 hgb hlo9 hb3 HB1 HX1 hnN hT2 ob hT3 nf hgx
  go_upto_region 15 with (go_at_call 93; refine hwy.mono ?_; rintro e w4 ⟨i, ok, he, hf, hc4⟩; obtain ⟨EA, EB, k0, x, hE, hlen, wy⟩ := n.brn.way hf; rw [← hlen] at he; subst he; clear hlen)
  subst hE
  obtain ⟨kx1, kx2, kx3, kx4, kx5⟩ := kid_at n
  obtain ⟨m, hm⟩ : ∃ m, m = EA.length := ⟨_, rfl⟩
  rw [← hm] at kx1 kx2 ⊢
  obtain ⟨ng, nc', hna, hng, hcl0⟩ := HT3.out.i.at_ (k := m) (by rw [izs_len]; exact kx2)
  injection hna with hna hnn hnc'
  subst hna
  have hmn : m < nn := by rw [hnn, izs_len]; exact kx2
  have hm5 : m ≤ 600 := by rw [HNF.out.2.1] at kx2; omega
  have HM := hide (And.intro hm (And.intro hnn kx1))
  obtain ⟨d1x, hd1x⟩ : ∃ d', d' = d + 1 := ⟨_, rfl⟩
  have wd : IntKind.i64.wrap ((d : Int) + 1) = (d1x : Int) := by rw [IntWalk.i64_in _ (by omega)]; omega
  have hxid : id ∉ x.ps := by
    have h1 := (List.nodup_cons.1 n.once).1
    rw [psE_app, psE_cons] at h1
    exact fun h2 => h1 (List.mem_append_right _ (List.mem_append_left _ h2))
  have hsubx : ∀ j ∈ x.ps, j ∈ id :: psE (EA ++ (k0, x) :: EB) := fun j hj => by
    rw [psE_app, psE_cons]
    exact List.mem_cons_of_mem _ (List.mem_append_right _ (List.mem_append_left _ hj))
  have hnr : ∀ j ∈ x.ps, (j : Int) ≠ root := fun j hj e => hxid (by rw [← hroot j (hsubx j hj) e]; exact hj)
  have hxr : (x.id : Int) ≠ root := hnr x.id kx3.root.1
  have hxl : x.l ≠ [] := n.brn.ne (k0, x) (by simp)
  have y5 := (HT3.out.i.c0 hc4).cellX kx1
  have hcc := IH (d := d1x) (HO9.out.1.c0 hc4) (HO9.out.2.1.c0 hc4) hgt2 kx3 kx4 kx5 (by omega) (by omega) (HX3.out.c0 hc4) HGX.out (fun j hj e => absurd e (hnr j hj)) (fun _ => hxl)
  obtain ⟨⟨b0, b1, b2, b3⟩, _⟩ := blk4 (HBB.out.c0 hc4)
  have HXR := hide (And.intro hxr kx4)
  have HC4 := hide hc4
  clear hcl0 hm hnn hnc' kx1 kx2 kx3 kx4 kx5 hd1x hf hwy hc4 hxid hsubx hnr hxr hxl
  go_upto_region 16 with (go_at_call 88; refine hcc.mono ?_; rintro e x1 ⟨T6, ids6, ct6, hS6, hsub6, hc6, hlen6, hor⟩; obtain ⟨z, rfl⟩ : ∃ z : Bool, e = .returned (.tuple #[.bool z, .int .i64 0]) := (by (rcases hor with ⟨h, _⟩ | ⟨h, _⟩; exact ⟨_, h⟩; exact ⟨_, h⟩)))
  have hc4 := HC4.out
  have hT2B : ∀ b, B ≤ b → ¬ T2 b := fun b hb h => by have := HLO.out b h; omega
  have hbb1 := (HBB.out.c0 hc4).chg hc6 HNN.out.1
  have nw := hc4.size
  have n6x := hc6.size
  have hT6a : ∀ b, b < w4.heap.size → ¬ T2 b → ¬ T6 b := fun b h1 h2 h => (hsub6 b h).elim h2 fun h => by omega
  have hth := (((HT3.out.c0 hc4).chg hc6 hT2B fun b hb => hT2B b hb.1).mono (P' := fun b => B ≤ b ∧ b ≠ gb ∧ ¬ T6 b) fun b hb => ⟨hb.1, by omega, hT6a b (by omega) (hT2B b hb.1)⟩)
  have hgt1 := (HO9.out.2.1.c0 hc4).chg hc6 hgt2
  have hgt6 : ¬ T6 gt := hT6a gt (HO9.out.2.1.c0 hc4).lt hgt2
  have hgb6 : ¬ T6 gb := hT6a gb (by omega) HNN.out.1
  have hcT : Chg T w x1 := (HO9.out.2.2.trans0 hc4).trans hc6 fun b hb h => by
    rcases HSUB.out b h with h | h
    · exact h
    · omega
  have hsub : ∀ b, T6 b → T b ∨ (w.heap.size ≤ b ∧ b < x1.heap.size) := fun b hb => by
    rcases hsub6 b hb with h | h
    · exact (HSUB.out b h).imp_right fun h => ⟨h.1, by omega⟩
    · have := HO9.out.2.2.size
      exact .inr ⟨by omega, h.2⟩
  have hng2 := HOB.out.2.2 ng rfl
  have HS6 := hide hS6
  have HL6 := hide hlen6
  have HTH := hide hth
  have HGT1 := hide hgt1
  have HCT := hide hcT
  have HSU := hide hsub
  have HT6A := hide hT6a
  have HX01 := hide (And.intro nw n6x)
  have HOR := hide hor
  clear b0 b1 b2 b3 y5 hcc
  obtain ⟨⟨b0, b1, b2, b3⟩, f0, f1, f2, f3⟩ := blk4 hbb1
  have HBB1 := hide hbb1
  clear hc4 hc6 hT2B hbb1 nw n6x hT6a hth hgt1 hcT hsub HT3 hsub6 HBB HX3 HO9 HSUB HC4 hS6 hlen6 hor
  rcases HOR.out with ⟨he, h', ps6, hle6, hnr6, U6, t6⟩ | ⟨he, hr6, hz6, U6⟩
  · have hz : z = false := by simpa using he
    subst hz
    obtain ⟨rfl, hne6⟩ := hnr6 HXR.out.1
    have HU := hide (And.intro U6 (And.intro t6 hne6))
    clear HOR he U6 t6 f0 f1 f2 f3 hnr6 hne6 hle6
    unfold DropP
    go_wp2_with fail
    go_ret2
    obtain ⟨ps', V, hTR, hne'⟩ := dropI_turn n wy HU.out.1 HU.out.2.1 HU.out.2.2
    exact ⟨T6, ids6, ct6, HS6.out.le_q (by omega), fun b hb => HSU.out b hb, HCT.out, HL6.out, .inl ⟨rfl, _, ps', Nat.le_refl _, fun _ => ⟨rfl, hne'⟩, V, hTR⟩⟩
  · have hz : z = true := by simpa using he
    subst hz
    have HU := hide (And.intro U6 hz6)
    obtain ⟨m1, hm1⟩ : ∃ m', m' = m + 1 := ⟨_, rfl⟩
    have wm : IntKind.i64.wrap ((m : Int) + 1) = (m1 : Int) := by rw [IntWalk.i64_in _ (by omega)]; omega
    have hdl := delI (i := m) HTH.out.i (by have := HM.out.2.1; omega) (by rw [izs_len, HNF.out.2.1]; omega)
    rw [← hm1] at hdl
    have HM1 := hide hm1
    clear HOR he U6 hz6 hm1
    unfold DropP
    go_upto_region 19 with (go_at_call 128; refine hdl.mono ?_; rintro e x6 ⟨u, rfl, hu, hc6, hat6⟩; obtain ⟨ZA, zn, zc, rfl⟩ : ∃ A n c, u = .slice A n c := (by obtain ⟨A, c, h, _, _⟩ := hu.shape; exact ⟨A, _, c, h⟩); have hnk : (Value.slice (some ⟨ng, 0, none⟩) nn nc).ownBlock ≠ some gb := (fun e => by have := (HOB.out.2.2 gb e).2; omega); have hbb6 := HBB1.out.chg hc6 hnk; obtain ⟨⟨b0, b1, b2, b3⟩, f0, f1, f2, f3⟩ := blk4 hbb6)
    have hob := HOB.out
    have hX := HX01.out
    have n6 := hc6.size
    have hzn : zn + 1 = nn := by
      obtain ⟨_, _, e, _, _⟩ := hu.shape
      injection e with _ e _
      rw [e, List.length_append, List.length_take, List.length_drop, ← HM.out.2.1, HM1.out]; omega
    have hth6 := HTH.out.putI hu hc6 (.inl hat6)
    have hbb7 := hbb6.set_ 3 (.slice ZA zn zc)
    have hc7 : Chg (fun b => b = gb) x6 (x6.setCell ⟨gb, 3, none⟩ (.slice ZA zn zc)) := Chg.setCell (p := ⟨gb, 3, none⟩) (Chg.refl (fun b => b = gb) x6) (fun _ => rfl) _
    have ho7 : ∀ b, (Value.slice ZA zn zc).ownBlock = some b → b ≠ gb ∧ ¬ T6 b := fun b e => by
      rw [hat6] at e
      have h4 := hob.2.2 b e
      exact ⟨by omega, HT6A.out b (by omega) (fun h => by have := HLO.out b h; omega)⟩
    have hth7 := hth6.chgO hc7 (fun b e => by have := hob.1 b e; show ¬ b = gb; omega) (fun b e => by have := hob.2.1 b e; show ¬ b = gb; omega) (fun b e => (ho7 b e).1) fun b hb => hb.2.1
    have hS7 := (HS6.out.chg hc6 fun b hb e => by
      have h4 := hob.2.2 b e
      exact HT6A.out b (by omega) (fun h => by have := HLO.out b h; omega) hb).chg hc7 fun b hb e => hgb6 (by have e : b = gb := e; rw [← e]; exact hb)
    have hGT7 := (HGT1.out.chg hc6 (fun e => by have := (HOB.out.2.2 gt e).1; have := HGB.out; omega)).chg hc7 hGT
    have n7 := hc7.size
    have hch : Chg T w (x6.setCell ⟨gb, 3, none⟩ (.slice ZA zn zc)) := (HCT.out.trans hc6 fun b hb e => by have := (hob.2.2 b e).1; have := HGB.out; omega).trans hc7 fun b hb e => by have e : b = gb := e; have := HNN.out.2; omega
    simp at hbb7
    clear hdl hc6 hat6 hnk hbb6 hu hth6 b0 b1 b2 b3 f0 f1 f2 f3 hc7 HTH HBB1
    generalize World.setCell x6 _ _ = x7 at hbb7 hth7 hS7 hGT7 n7 hch ⊢
    obtain ⟨⟨b0, b1, b2, b3⟩, f0, f1, f2, f3⟩ := blk4 hbb7
    have hkn : kn + 1 = nn := by
      obtain ⟨_, _, e, _, _⟩ := hth7.rdK.shape
      injection e with _ e _
      have h1 := HM.out.2.1
      rw [izs_len, HNF.out.2.1] at h1
      omega
    have HZN := hide (And.intro hzn hkn)
    have HTH7 := hide hth7
    have HS7 := hide (And.intro hS7 (And.intro hGT7 hch))
    have HO7 := hide ho7
    have HBB7 := hide hbb7
    have HN7 := hide (show x1.heap.size ≤ x7.heap.size ∧ w.heap.size ≤ x7.heap.size from ⟨by omega, hch.size⟩)
    clear hob hX n6 hzn hbb7 ho7 hth7 hS7 hGT7 n7 hch hkn
    by_cases hk0 : kn = 0
    · have hEE : EA = [] ∧ EB = [] := by
        have h1 := HM.out.2.1
        have h2 := HZN.out
        rw [izs_len, idsE_len, List.length_append, List.length_cons] at h1
        exact ⟨List.length_eq_zero_iff.1 (by omega), List.length_eq_zero_iff.1 (by omega)⟩
      obtain ⟨rfl, rfl⟩ := hEE
      obtain ⟨V, hz0, hid6⟩ := dropI_last n wy HU.out.1 HU.out.2
      have hzn0 : zn = 0 := by have := HZN.out; omega
      have e1 : decide (0 < (kn : Int)) = false := decide_eq_false (by omega)
      have e2 : decide ((kn : Int) > 0) = false := decide_eq_false (by omega)
      have e3 : decide (0 < (zn : Int)) = false := decide_eq_false (by omega)
      have e4 : decide ((zn : Int) > 0) = false := decide_eq_false (by omega)
      have e6 : ¬ 0 < kn := by omega
      have e7 : ¬ 0 < zn := by omega
      have e8 : decide (0 < kn) = false := decide_eq_false e6
      have e9 : decide (0 < zn) = false := decide_eq_false e7
      have g0 : x7.cell? ⟨gt, 0, none⟩ = some (.pointer (some ⟨g, 0, none⟩)) := HS7.out.2.1.cell 0
      have g1 : x7.cell? ⟨gt, 1, none⟩ = some (.int .i64 root) := HS7.out.2.1.cell 1
      have HV := hide (And.intro V (And.intro hz0 hid6))
      clear V hz0 hk0 hzn0 f0 f1 f2 f3
      by_cases hr : (id : Int) = root
      · have e5 : ((id : Int) == root) = true := by rw [hr]; exact beq_self_eq_true _
        have hsv := tSaveL (l := []) HS7.out.1 HS7.out.2.1 hgt6 hid6 (by omega) (RdBB.nil_ x7 (fun _ => False)) (RdBB.nil_ x7 (fun _ => False)) (RdV.nil_ x7 (fun _ => False) 1) GoodKV.nil_ (by decide)
        have HR := hide hr
        clear hid6 hr
        go_wp2_with fail
        refine hsv.mono ?_
        rintro e w8 ⟨rfl, hS8, hc8⟩
        have HX := hide (And.intro hS8 hc8)
        clear hsv hS8 hc8
        go_wp2_with fail
        go_ret2
        have hx := HX.out
        have n8 := hx.2.size
        have hn := HN7.out
        rw [HV.out.2.1]
        refine ⟨_, ids6, _, hx.1.le_q (by omega), fun b hb => ?_, HS7.out.2.2.trans hx.2 fun b hb h => (HSU.out b h).elim (fun y => y) fun h9 => by omega, HL6.out, .inl ⟨rfl, 0, [id], by omega, fun h => absurd HR.out h, HV.out.1.write (by simp) (by simp), TR.writeL n.lim GoodKV.nil_ (by decide) rfl⟩⟩
        rcases hb with h | h
        · rcases HSU.out b h with h | h
          · exact .inl h
          · exact .inr ⟨h.1, by omega⟩
        · exact .inr (by omega)
      · have e5 : ((id : Int) == root) = false := beq_eq_false_iff_ne.2 hr
        have hfr := tFree HS7.out.1 hid6
        have HR := hide hr
        clear hid6 hr
        go_wp2_with fail
        refine hfr.mono ?_
        rintro e w8 ⟨ids8, rfl, hm8, hl8, hS8, hc8⟩
        have hwr := btWrong w8 0 (by decide)
        have HX := hide (And.intro hm8 (And.intro hl8 (And.intro hS8 hc8)))
        clear hfr hm8 hl8 hS8 hc8
        go_wp2_with fail
        refine hwr.mono ?_
        rintro e w9 ⟨rfl, hw9⟩
        subst hw9
        clear hwr
        go_wp2_with fail
        go_ret2
        have hx := HX.out
        have n8 := hx.2.2.2.size
        have hn := HN7.out
        refine ⟨T6, ids8, _, hx.2.2.1.le_q (by omega), fun b hb => ?_, HS7.out.2.2.trans hx.2.2.2 fun b hb h => (HSU.out b h).elim (fun y => y) fun h9 => by omega, Nat.le_trans hx.2.1 HL6.out, .inr ⟨rfl, HR.out, HV.out.2.1, HV.out.1.gone_ (by simp) hx.1⟩⟩
        rcases HSU.out b hb with h | h
        · exact .inl h
        · exact .inr ⟨h.1, by omega⟩
    · have hEE : EA ++ EB ≠ [] := fun e => by
        have h1 := HM.out.2.1
        have h2 := HZN.out
        have h3 := congrArg List.length e
        rw [izs_len, idsE_len, List.length_append, List.length_cons] at h1
        rw [List.length_append, List.length_nil] at h3
        omega
      obtain ⟨E2, hke2, hie2, hB2, hs2, V, hTR, hne2, hid6⟩ := dropI_save n wy HU.out.1 HU.out.2 hEE
      have e1 : decide (0 < (kn : Int)) = true := decide_eq_true (by omega)
      have e2 : decide ((kn : Int) > 0) = true := decide_eq_true (by omega)
      have e3 : decide (0 < (zn : Int)) = true := decide_eq_true (by have := HZN.out; omega)
      have e4 : decide ((zn : Int) > 0) = true := decide_eq_true (by have := HZN.out; omega)
      have e6 : 0 < kn := by omega
      have e7 : 0 < zn := by have := HZN.out; omega
      have e8 : decide (0 < kn) = true := decide_eq_true e6
      have e9 : decide (0 < zn) = true := decide_eq_true e7
      obtain ⟨m2, hm2⟩ : ∃ m', m' = m - 1 := ⟨_, rfl⟩
      obtain ⟨m3, hm3⟩ : ∃ m', m' = m2 + 1 := ⟨_, rfl⟩
      have ws : IntKind.i64.wrap ((m : Int) - 1) = (m : Int) - 1 := IntWalk.i64_in _ (by omega)
      have hmax : max ((m : Int) - 1) 0 = (m2 : Int) := by omega
      have wm2 : IntKind.i64.wrap ((m2 : Int) + 1) = (m3 : Int) := by rw [IntWalk.i64_in _ (by omega)]; omega
      have hdk := delBB (i := m2) HTH7.out.k (by have := HM.out.2.1; have := HZN.out; rw [izs_len, HNF.out.2.1] at *; omega) (by omega)
      rw [← hm3] at hdk
      have HM2 := hide (And.intro hm2 hm3)
      have HE2 := hide (And.intro hke2 (And.intro hie2 (And.intro hB2 hs2)))
      have HV := hide (And.intro V (And.intro hTR hne2))
      clear V hTR hne2 hk0 f0 f1 f2 f3 hke2 hie2 hB2 hs2 hm2 hm3 hEE
      go_upto_region 22 with (go_at_call 129; refine hdk.mono ?_; rintro e x8 ⟨u, rfl, hu, hc8, hat8⟩; obtain ⟨UA, un, uc, rfl⟩ := hu.shapeH; have hnk : (Value.slice KA kn kc).ownBlock ≠ some gb := (fun e => by have := (HOB.out.1 gb e).2; omega); have hbb8 := HBB7.out.chg hc8 hnk; obtain ⟨⟨b0, b1, b2, b3⟩, f0, f1, f2, f3⟩ := blk4 hbb8)
      have hob := HOB.out
      have hX := HX01.out
      have hN7 := HN7.out
      have n8 := hc8.size
      have hth8 := HTH7.out.putK hu hc8 (.inl hat8)
      have hbb9 := hbb8.set_ 1 (.slice UA un uc)
      have hc9 : Chg (fun b => b = gb) x8 (x8.setCell ⟨gb, 1, none⟩ (.slice UA un uc)) := Chg.setCell (p := ⟨gb, 1, none⟩) (Chg.refl (fun b => b = gb) x8) (fun _ => rfl) _
      have ho9 : ∀ b, (Value.slice UA un uc).ownBlock = some b → b ≠ gb ∧ ¬ T6 b := fun b e => by
        rw [hat8] at e
        have h4 := hob.1 b e
        exact ⟨by omega, HT6A.out b (by omega) (fun h => by have := HLO.out b h; omega)⟩
      have hth9 := hth8.chgO hc9 (fun b e => (ho9 b e).1) (fun b e => by have := hob.2.1 b e; show ¬ b = gb; omega) (fun b e => (HO7.out b e).1) fun b hb => hb.2.1
      have hS9 := (HS7.out.1.chg hc8 fun b hb e => by
        have h4 := hob.1 b e
        exact HT6A.out b (by omega) (fun h => by have := HLO.out b h; omega) hb).chg hc9 fun b hb e => hgb6 (by have e : b = gb := e; rw [← e]; exact hb)
      have hGT9 := (HS7.out.2.1.chg hc8 (fun e => by have := (HOB.out.1 gt e).1; have := HGB.out; omega)).chg hc9 hGT
      have n9 := hc9.size
      have hch : Chg T w (x8.setCell ⟨gb, 1, none⟩ (.slice UA un uc)) := (HS7.out.2.2.trans hc8 fun b hb e => by have := (hob.1 b e).1; have := HGB.out; omega).trans hc9 fun b hb e => by have e : b = gb := e; have := HNN.out.2; omega
      simp at hbb9
      clear hdk hc8 hat8 hnk hbb8 hu hth8 b0 b1 b2 b3 f0 f1 f2 f3 hc9 HS7 HTH7 HBB7
      generalize World.setCell x8 _ _ = x9 at hbb9 hth9 hS9 hGT9 n9 hch ⊢
      obtain ⟨⟨b0, b1, b2, b3⟩, _⟩ := blk4 hbb9
      have hE := HE2.out
      have hm0 := HM.out.1
      have hm1 := HM1.out
      have hm2 := HM2.out
      have ek : (keysE (EA ++ (k0, x) :: EB)).take m2 ++ (keysE (EA ++ (k0, x) :: EB)).drop m3 = keysE E2 := by rw [hm2.2, hm2.1, hm0]; exact hE.1.symm
      have ei : (izs (idsE (EA ++ (k0, x) :: EB))).take m ++ (izs (idsE (EA ++ (k0, x) :: EB))).drop m1 = izs (idsE E2) := by rw [hm1, hm0, hE.2.1]; simp [izs, List.map_take, List.map_drop]
      rw [ek, ei] at hth9
      have hE2n : (idsE E2).length = (keysE E2).length + 1 := by rw [idsE_len, hE.2.2.1.len]
      have hE2z : ∀ y ∈ idsE E2, y ≤ 65535 := fun y hy => by
        obtain ⟨e, he, rfl⟩ := List.mem_map.1 hy
        exact (hE.2.2.1.kid e he).root.2
      have hE2s : sizeIn (keysE E2) (idsE E2).length ≤ 512 := by rw [idsE_len]; exact hE.2.2.2
      have hsv := tSaveI hS9 hGT9 hgt6 hid6 (by omega) hth9.rdK hth9.rdV hth9.rdI hE2n hE2z (upK_pw (keysE_up hE.2.2.1)) (keysE_len64 hE.2.2.1) hE2s
      have HFIN := hide (And.intro hch n9)
      have HN9 := hide (show x1.heap.size ≤ x9.heap.size ∧ w.heap.size ≤ x9.heap.size from ⟨by omega, hch.size⟩)
      clear hob hX hN7 n8 hbb9 hth9 hS9 hGT9 n9 hch ho9 HO7 hE hm0 hm1 hm2 ek ei hE2n hE2z hE2s hid6
      go_wp2_with fail
      refine hsv.mono ?_
      rintro e w8 ⟨rfl, hS8, hc8⟩
      have HX := hide (And.intro hS8 hc8)
      clear hsv hS8 hc8
      go_wp2_with fail
      go_ret2
      have hx := HX.out
      have n8 := hx.2.size
      have hn := HN9.out
      refine ⟨_, ids6, _, hx.1.le_q (by omega), fun b hb => ?_, HFIN.out.1.trans hx.2 fun b hb h => (HSU.out b h).elim (fun y => y) fun h9 => by omega, HL6.out, .inl ⟨rfl, h + 1, _, Nat.le_refl _, fun _ => ⟨rfl, HV.out.2.2⟩, HV.out.1, HV.out.2.1⟩⟩
      rcases hb with h | h
      · rcases HSU.out b h with h | h
        · exact .inl h
        · exact .inr ⟨h.1, by omega⟩
      · exact .inr (by omega)
end
theorem tDropT : ∀ h, DropAt h
  | 0 => tDrop0
  | h + 1 => fun hS hb hgt hT hnd hin hq hd hx hG hr hne => by
    obtain ⟨E, n, rfl, rfl⟩ := hT.nod hnd hin
    exact tDropI (tDropT h) hS hb hgt n (by omega) (by omega) hx hG hr hne
end Go.Proofs.YtliimeoblffigaaGreat

set_option maxRecDepth 100000
namespace Go.Proofs.YtliimeoblffigaaGreat
open Go.RowKit Go.Maps
set_option linter.unusedVariables false
set_option linter.unusedSimpArgs false

theorem upd_upd {ct : Nat → List UInt8} {i : Nat} {a b : List UInt8} : upd (upd ct i a) i b = upd ct i b := by
  funext j
  unfold upd
  by_cases h : j = i <;> simp [h]
theorem RdI.of_blk2 {w : World} {g : Nat} {t : TypeId} {a b : Int} (h : Blk w g t #[.int .i64 a, .int .i64 b]) : RdI w (fun k => k = g) (.slice (some ⟨g, 0, none⟩) 2 2) [a, b] := by
  refine ⟨rfl, some ⟨g, 0, none⟩, 2, rfl, Nat.le_refl _, by simp [maxLen], fun _ => ⟨_, rfl, rfl, fun j u hu => ?_⟩⟩
  rw [add_none, Nat.zero_add, h.cell]
  simpa using hu
theorem blk2 {w : World} {g : Nat} {t : TypeId} {a b : Value} (h : Blk w g t #[a, b]) : w.cell? ⟨g, 0, none⟩ = some a ∧ w.cell? ⟨g, 1, none⟩ = some b := ⟨h.cell 0, h.cell 1⟩
theorem blk2f {w : World} {g : Nat} {t : TypeId} {a b : Value} (h : Blk w g t #[a, b]) : (w.cell? ⟨g, 0, none⟩ = some a ∧ w.cell? ⟨g, 1, none⟩ = some b) ∧ w.frozen? ⟨g, 0, none⟩ = false ∧ w.frozen? ⟨g, 1, none⟩ = false := ⟨⟨h.cell 0, h.cell 1⟩, h.frozen 0, h.frozen 1⟩
section
variable {w : World} {T K : Nat → Prop} {g hand q gt r o : Nat} {pre : ByteArray} {ids : List Nat} {ct : Nat → List UInt8} {kk : List UInt8} {KA : Option Addr} {kn kc : Nat}
set_option maxHeartbeats 16000000 in
theorem tGrow (hS : TS w T g hand pre q ids ct) (hb : Blk w gt 121 #[.pointer (some ⟨g, 0, none⟩), .int .i64 (r : Int)]) (hgt : ¬ T gt) (hn : ids.length < 65536) (hq : q ≤ 900000) (hk : RdB w K (.slice KA kn kc) kk) (hK : ∀ b, K b → ¬ T b) (h64 : kk.length ≤ 64) (hr : r ≤ 65535) (ho : o ≤ 65535) :
    Calls Tryz.prog 91 #[.pointer (some ⟨gt, 0, none⟩), .slice KA kn kc, .int .i64 (o : Int)] w fun e w' => ∃ (i : Nat) (ids' : List Nat), e = .returned (.int .i64 0) ∧ i ∉ ids ∧ i ≤ 65535 ∧ (∀ j, j ∈ ids' ↔ j = i ∨ j ∈ ids) ∧ ids'.length = ids.length + 1 ∧ (∃ T' : Nat → Prop, TS w' T' g hand pre (q + 1) ids' (upd ct i (pageIn [kk] [r, o])) ∧ (∀ b, T' b → Ext T w w' b) ∧ ¬ T' gt) ∧ Blk w' gt 121 #[.pointer (some ⟨g, 0, none⟩), .int .i64 (i : Int)] ∧ Chg (fun b => T b ∨ b = gt) w w' := by
  have hal := tAlloc hS hn
  obtain ⟨t0, t1⟩ := blk2 hb
  have HB := hide hb
  have HK := hide hk.lt
  have HTL := hide hS.lt
  clear hS hb hk
  go_enter Tryz.func91, Tryz.ntmps91
  go_wp2_with fail
  refine hal.mono ?_
  rintro e w2 ⟨i, ids2, rfl, hi1, hi2, hi3, hi4, hS2, hc2⟩
  have hb2 := HB.out.chg hc2 hgt
  have hk2 := HK.out.chg hc2 fun b hb => hK b hb.1
  have HI := hide (And.intro hi1 (And.intro hi2 (And.intro hi3 hi4)))
  have HS2 := hide hS2
  have HC2 := hide hc2
  have hka := RdBB.one hk2 30
  have hca := (Chg.refl Non w2).alloc (.cells #[.slice KA kn kc] 30)
  have hna := sizeAl' w2 (.cells #[.slice KA kn kc] 30)
  obtain ⟨t0', t1'⟩ := blk2 hb2
  obtain ⟨t0b, t1b⟩ := blk2 (hb2.c0 hca)
  have HB2 := hide hb2
  clear hal t0 t1 hi1 hi2 hi3 hi4 hS2 hc2 hk2 hb2
  go_wp2_with fail
  clear t0' t1' t0b t1b
  obtain ⟨gk, hgk⟩ : ∃ x, x = w2.heap.size := ⟨_, rfl⟩
  rw [← hgk] at hka hna ⊢
  generalize World.alloc w2 _ = w3 at hka hca hna ⊢
  have hnb := Blk.new w3 3 #[.int .i64 (r : Int), .int .i64 (o : Int)]
  have hcb := (Chg.refl Non w3).alloc (.cells #[.int .i64 (r : Int), .int .i64 (o : Int)] 3)
  rw [hna] at hnb
  have hki := RdI.of_blk2 hnb
  generalize World.alloc w3 _ = w4 at hki hcb ⊢
  clear hnb
  have hS4 := (HS2.out.c0 hca).c0 hcb
  have hb4 := (HB2.out.c0 hca).c0 hcb
  have hsv := tSaveI (ks := [kk]) (kd := [r, o]) hS4 hb4 hgt ((HI.out.2.2.1 i).2 (.inl rfl)) hq (hka.c0 hcb) (RdBB.nil_ w4 (fun _ => False)) hki rfl (fun y hy => by simp at hy; omega) (fun i p q hp hq => by simp at hq) (fun y hy => by simp at hy; rw [hy]; exact h64) (by unfold sizeIn; simp; omega)
  rw [upd_upd] at hsv
  have HC4 := hide ((HC2.out.trans0 hca).trans0 hcb)
  have HB4 := hide hb4
  have hn4 := HC4.out.size
  have HT4 := hide hS4.lt
  clear hka hca hna hgk hki hcb hS4 hb4 HB2 HC2 HS2
  go_upto_region 5 with (refine hsv.mono ?_; rintro e w5 ⟨rfl, hS5, hc5⟩)
  have hb5 := HB4.out.chg hc5 hgt
  obtain ⟨⟨p0, p1⟩, f0, f1⟩ := blk2f hb5
  have hb6 := hb5.set_ 1 (.int .i64 (i : Int))
  have hc6 : Chg (fun b => b = gt) w5 (w5.setCell ⟨gt, 1, none⟩ (.int .i64 (i : Int))) := Chg.setCell (p := ⟨gt, 1, none⟩) (Chg.refl (fun b => b = gt) w5) (fun _ => rfl) _
  have hn6 := hc5.size
  have hg5 : ¬ Ext T w4 w5 gt := fun h => h.elim hgt fun h => by have := HB4.out.lt; omega
  have hS6 := hS5.chg hc6 fun b hb e => hg5 (by have e : b = gt := e; rw [← e]; exact hb)
  simp at hb6
  have HF := hide (And.intro hS6 (And.intro hb6 (And.intro hc5 hc6)))
  clear hsv hS5 hc5 hb5 hb6 hc6 hS6
  go_wp2_with fail
  go_ret
  have hf := HF.out
  have n6 := hf.2.2.2.size
  refine ⟨i, ids2, rfl, HI.out.1, HI.out.2.1, HI.out.2.2.1, HI.out.2.2.2, ⟨_, hf.1, fun b hb => ?_, hg5⟩, hf.2.1, ((HC4.out.mono fun b _ h => .inl h).trans (hf.2.2.1.mono fun b _ h => .inl h) fun b _ h => h).trans (hf.2.2.2.mono fun b _ h => .inr h) fun b _ h => h⟩
  rcases hb with h | h
  · exact .inl h
  · exact .inr (by omega)
end
end Go.Proofs.YtliimeoblffigaaGreat

