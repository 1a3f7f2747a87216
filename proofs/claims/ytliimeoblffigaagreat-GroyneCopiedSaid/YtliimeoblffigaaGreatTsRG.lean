/- The walk of btree's shrink. -/
import Derived.Test.YtliimeoblffigaaGreatTsHG
open List renaming getElem_toArray → lz1, getElem_cons_succ → lz2, getElem_cons_zero → lz3, setIfInBounds_toArray → lz4, set_cons_zero → lz5, set_cons_succ → lz6
set_option linter.unusedVariables false
set_option linter.unusedSimpArgs false
set_option maxRecDepth 100000
namespace Go.Proofs.YtliimeoblffigaaGreat
open Go.RowKit Go.Maps
set_option linter.unusedVariables false
set_option linter.unusedSimpArgs false

open Classical in
/-- the least number below a bound that has a property -/
noncomputable def least (P : Nat → Prop) : Nat → Nat
 | 0 => 0
 | b + 1 => if ∃ n, n ≤ b ∧ P n then least P b else b + 1
theorem least_spec {P : Nat → Prop} : ∀ {b h : Nat}, P h → h ≤ b → P (least P b) ∧ least P b ≤ h
 | 0, h, hp, hb => by
  have : h = 0 := by omega
  subst this
  exact ⟨hp, Nat.le_refl _⟩
 | b + 1, h, hp, hb => by
  unfold least
  by_cases hc : ∃ n, n ≤ b ∧ P n
  ·rw [if_pos hc]
   obtain ⟨n, hn, hpn⟩ := hc
   have h1 := least_spec hpn hn
   refine ⟨h1.1, ?_⟩
   by_cases hh : h ≤ b
   ·exact (least_spec hp hh).2
   ·omega
  ·rw [if_neg hc]
   have : h = b + 1 := by
    by_cases hh : h ≤ b
    ·exact absurd ⟨h, hh, hp⟩ hc
    ·omega
   exact ⟨by rw [← this]; exact hp, by omega⟩
/-- a tree at a root, in a pool -/
def TreeSt (w : World) (T : Nat → Prop) (g hand : Nat) (pre : ByteArray) (q n0 gt : Nat) (l : List KV) (h0 : Nat) (w' : World) (h : Nat) : Prop :=
 ∃ (T' : Nat → Prop) (ids' : List Nat) (ct' : Nat → List UInt8) (r : Nat) (ps : List Nat), h ≤ h0 ∧ TS w' T' g hand pre (q + (h0 - h)) ids' ct' ∧ (∀ b, T' b → Ext T w w' b) ∧ ¬ T' gt ∧ Blk w' gt 121 #[.pointer (some ⟨g, 0, none⟩), .int .i64 (r : Int)] ∧ Chg (fun b => T b ∨ b = gt) w w' ∧ TR ct' h r ps l ∧ ps.Nodup ∧ (∀ j ∈ ps, j ∈ ids') ∧ ids'.length ≤ n0
section
variable {w : World} {T : Nat → Prop} {g hand q gt h0 n0 : Nat} {pre : ByteArray} {l : List KV}
set_option maxHeartbeats 16000000 in
theorem tShrink (hst : TreeSt w T g hand pre q n0 gt l h0 w h0) (hh : h0 ≤ 64) (hq : q + h0 + 1 ≤ 900000) :
  Calls Tryz.prog 89 #[.pointer (some ⟨gt, 0, none⟩)] w fun e w' => e = .returned (.int .i64 0) ∧ ∃ h, TreeSt w T g hand pre (q + 1) n0 gt l h0 w' h := by
 go_enter Tryz.func89, Tryz.ntmps89
 go_wp2_with fail
 go_loopw [2] (fun v wr => v = .int .i64 0 ∧ ∃ h, TreeSt w T g hand pre q n0 gt l h0 wr h) (fun _ wr => least (TreeSt w T g hand pre q n0 gt l h0 wr) 64)
 case atStart => exact ⟨rfl, h0, hst⟩
 case round =>
  obtain ⟨rfl, hx, hst'⟩ := hrel
  have hl64 : hx ≤ 64 := by obtain ⟨_, _, _, _, _, h1, _⟩ := hst'; omega
  obtain ⟨hm, hme⟩ : ∃ n, n = least (TreeSt w T g hand pre q n0 gt l h0 wr) 64 := ⟨_, rfl⟩
  have hst0 : TreeSt w T g hand pre q n0 gt l h0 wr hm := by rw [hme]; exact (least_spec hst' hl64).1
  rw [← hme]
  clear hst' hl64 hme hst
  obtain ⟨T1, ids1, ct1, r, ps, hle, hS, hsub, hgt1, hb, hc, hT, hnd, hin, hlen⟩ := hst0
  obtain ⟨t0, t1⟩ := blk2 hb
  cases hm with
  | zero =>
   obtain ⟨rfl, hil, hct, hg, hs⟩ := hT
   have hch := tChildL hS hb hgt1 (hin r (by simp)) (by omega) hct hg hs
   have HB := hide hb
   have HX := hide (And.intro hsub (And.intro hc hlen))
   clear hb hS hsub hc hlen
   go_upto_region 2 with (go_at_call 92; refine hch.mono ?_; rintro e w2 ⟨T2, B, KA, kn, kc, VA, vn, vc, NA, nn, nc, rfl, hO⟩)
   have hbb := Blk.new w2 125 #[.bool true, .slice KA kn kc, .slice VA vn vc, .slice NA nn nc]
   have hcB := (Chg.refl Non w2).alloc (.cells #[.bool true, .slice KA kn kc, .slice VA vn vc, .slice NA nn nc] 125)
   have hb3 := (HB.out.chg hO.chg hgt1).c0 hcB
   have hS3 := hO.ts.c0 hcB
   have hcc : Chg (fun b => T1 b ∨ b = gt) wr _ := (hO.chg.trans0 hcB).mono fun b _ h => .inl h
   have hc3 := HX.out.2.1.trans hcc fun b hb h => by
    rcases h with h | h
    ·rcases HX.out.1 b h with h | h
     ·exact .inl h
     ·omega
    ·exact .inr h
   have hnr := HX.out.2.1.size
   have hs2 : ∀ b, T2 b → Ext T w w2 b := fun b hb => by
    rcases hO.sub b hb with h | h
    ·exact (HX.out.1 b h).up hO.chg.size
    ·exact .inr ⟨by omega, h.2⟩
   have hg2 : ¬ T2 gt := fun h => by
    rcases hO.sub gt h with h | h
    ·exact hgt1 h
    ·have := HB.out.lt; omega
   have n2 := hcB.size
   have HF := hide (And.intro hS3 (And.intro hb3 (And.intro hc3 (And.intro (fun b (hb : T2 b) => (hs2 b hb).up n2) hg2))))
   obtain ⟨⟨b0, b1, b2, b3⟩, _⟩ := blk4 hbb
   clear hch hbb hcB hcc hb3 hS3 hc3 hnr hs2 hg2 n2 hO
   generalize World.alloc w2 _ = w3 at b0 b1 b2 b3 HF ⊢
   go_wp2_with fail
   go_ret
   have hf := HF.out
   exact ⟨rfl, 0, T2, ids1, ct1, r, [r], by omega, hf.1.le_q (by omega), hf.2.2.2.1, hf.2.2.2.2, hf.2.1, hf.2.2.1, ⟨rfl, hil, hct, hg, hs⟩, hnd, hin, HX.out.2.2⟩
  | succ h =>
   obtain ⟨E, n, rfl, rfl⟩ := hT.nod hnd hin
   have nf := nod_facts n
   have hch := tChildI hS hb hgt1 (n.sub r (by simp)) (by omega) nf.1 nf.2.1 nf.2.2.1 nf.2.2.2.1 nf.2.2.2.2.1 nf.2.2.2.2.2
   have HB := hide hb
   have HX := hide (And.intro hsub (And.intro hc hlen))
   clear hb hS hsub hc hlen
   go_upto_region 2 with (go_at_call 92; refine hch.mono ?_; rintro e w2 ⟨T2, B, KA, kn, kc, VA, vn, vc, NA, nn, nc, rfl, hO⟩)
   have hnn : nn = E.length := by
    obtain ⟨_, _, e, _, _⟩ := hO.n.shape
    injection e with _ e _
    rw [e, izs_len, idsE_len]
   have hni := hO.n
   have HBB0 := hide hO
   have hbb := Blk.new w2 125 #[.bool false, .slice KA kn kc, .slice VA vn vc, .slice NA nn nc]
   have hcB := (Chg.refl Non w2).alloc (.cells #[.bool false, .slice KA kn kc, .slice VA vn vc, .slice NA nn nc] 125)
   have hb3 := (HB.out.chg hO.chg hgt1).c0 hcB
   have hS3 := hO.ts.c0 hcB
   have hcc : Chg (fun b => T1 b ∨ b = gt) wr _ := (hO.chg.trans0 hcB).mono fun b _ h => .inl h
   have hc3 := HX.out.2.1.trans hcc fun b hb h => by
    rcases h with h | h
    ·rcases HX.out.1 b h with h | h
     ·exact .inl h
     ·omega
    ·exact .inr h
   have hnr := HX.out.2.1.size
   have hs2 : ∀ b, T2 b → Ext T w w2 b := fun b hb => by
    rcases hO.sub b hb with h | h
    ·exact (HX.out.1 b h).up hO.chg.size
    ·exact .inr ⟨by omega, h.2⟩
   have hg2 : ¬ T2 gt := fun h => by
    rcases hO.sub gt h with h | h
    ·exact hgt1 h
    ·have := HB.out.lt; omega
   have n2 := hcB.size
   have HF := hide (And.intro hS3 (And.intro hb3 (And.intro hc3 (And.intro (fun b (hb : T2 b) => (hs2 b hb).up n2) hg2))))
   obtain ⟨⟨b0, b1, b2, b3⟩, _⟩ := blk4 hbb
   have HNI := hide (And.intro ((hO.own rfl).i.c0 hcB) (And.intro hO.low hO.ts.lt))
   have HBB := hide hbb
   clear hni HBB0 hch hbb hcB hcc hb3 hS3 hc3 hnr hs2 hg2 n2 hO
   generalize World.alloc w2 _ = w3 at b0 b1 b2 b3 HF HNI HBB ⊢
   by_cases h1 : 1 < nn
   ·have e1 : decide (1 < (nn : Int)) = true := decide_eq_true (by omega)
    have e2 : decide ((nn : Int) > 1) = true := decide_eq_true (by omega)
    have e3 : decide (1 < nn) = true := decide_eq_true h1
    clear hnn
    go_wp2_with fail
    go_ret
    have hf := HF.out
    exact ⟨rfl, h + 1, T2, ids1, ct1, r, _, hle, hf.1.le_q (by omega), hf.2.2.2.1, hf.2.2.2.2, hf.2.1, hf.2.2.1, n.tr, hnd, hin, HX.out.2.2⟩
   ·have e1 : decide (1 < (nn : Int)) = false := decide_eq_false (by omega)
    have e2 : decide ((nn : Int) > 1) = false := decide_eq_false (by omega)
    have e3 : decide (1 < nn) = false := decide_eq_false h1
    go_upto_region 4 with fail
    refine wp_region_T (Chg Non w3) 8 (by kernel_rfl) ?_
    have HW0 := hide ((Chg.refl Non w3).drew)
    generalize World.drew w3 = x0 at HW0 ⊢
    refine AnyT.takeM (i := 0) (v := ?_) rfl (by kernel_rfl) (by kernel_rfl) (fun _ _ _ h => h) (by kernel_rfl) (by kernel_rfl) (Or.inl ⟨by rfl, ?_⟩) HW0.out ?_
    rotate_left
    ·(intro w9 h9; go_simp; try with_reducible rfl)
    try simp only [lz1, lz2, lz3, Act.put, lz4, lz5, lz6]
    refine AnyT.takeM (i := 1) (v := ?_) rfl (by kernel_rfl) (by kernel_rfl) (fun _ _ _ h => h) (by kernel_rfl) (by kernel_rfl) (Or.inl ⟨by rfl, ?_⟩) HW0.out ?_
    rotate_left
    ·(intro w9 h9; go_simp; try with_reducible rfl)
    try simp only [lz1, lz2, lz3, Act.put, lz4, lz5, lz6]
    refine AnyT.takeM (i := 2) (v := ?_) rfl (by kernel_rfl) (by kernel_rfl) (fun _ _ _ h => h) (by kernel_rfl) (by kernel_rfl) (Or.inl ⟨by rfl, ?_⟩) HW0.out ?_
    rotate_left
    ·(intro w9 h9; go_simp; try with_reducible rfl)
    try simp only [lz1, lz2, lz3, Act.put, lz4, lz5, lz6]
    refine AnyT.takeM (i := 3) (v := ?_) rfl (by kernel_rfl) (by kernel_rfl) (fun _ _ _ h => h) (by kernel_rfl) (by kernel_rfl) (Or.inl ⟨by rfl, ?_⟩) HW0.out ?_
    rotate_left
    ·(intro w9 h9; obtain ⟨y0, y1⟩ := blk2 (HF.out.2.1.c0 h9); go_simp; try with_reducible rfl)
    try simp only [lz1, lz2, lz3, Act.put, lz4, lz5, lz6]
    refine AnyT.takeM (i := 4) (v := ?_) rfl (by kernel_rfl) (by kernel_rfl) (fun _ _ _ h => h) (by kernel_rfl) (by kernel_rfl) (Or.inl ⟨by rfl, ?_⟩) HW0.out ?_
    rotate_left
    ·(intro w9 h9; go_simp; try with_reducible rfl)
    try simp only [lz1, lz2, lz3, Act.put, lz4, lz5, lz6]
    refine AnyT.takeM (i := 5) (v := ?_) rfl (by kernel_rfl) (by kernel_rfl) (fun _ _ _ h => h) (by kernel_rfl) (by kernel_rfl) (Or.inl ⟨by rfl, ?_⟩) HW0.out ?_
    rotate_left
    ·(intro w9 h9; go_simp; try with_reducible rfl)
    try simp only [lz1, lz2, lz3, Act.put, lz4, lz5, lz6]
    refine AnyT.takeM (i := 6) (v := ?_) rfl (by kernel_rfl) (by kernel_rfl) (fun _ _ _ h => h) (by kernel_rfl) (by kernel_rfl) (Or.inl ⟨by rfl, ?_⟩) HW0.out ?_
    rotate_left
    ·(intro w9 h9; go_simp; try with_reducible rfl)
    try simp only [lz1, lz2, lz3, Act.put, lz4, lz5, lz6]
    refine AnyT.takeM (i := 7) (v := ?_) rfl (by kernel_rfl) (by kernel_rfl) (fun _ _ _ h => h) (by kernel_rfl) (by kernel_rfl) (Or.inl ⟨by rfl, ?_⟩) HW0.out ?_
    rotate_left
    ·(intro w9 h9; obtain ⟨y0, y1⟩ := blk2 (HF.out.2.1.c0 h9); go_simp; try with_reducible rfl)
    try simp only [lz1, lz2, lz3, Act.put, lz4, lz5, lz6]
    refine AnyT.one (i := 8) (by kernel_rfl) rfl (fun K hK => ?_)
    rw [if_pos (by rfl)]
    try simp only [lz1, lz2, lz3, Act.put, lz4, lz5, lz6]
    have hcc := tFree (HF.out.1.c0 HW0.out) (n.sub r (by simp))
    go_wp2_with (go_at_call 127; refine hcc.mono ?_; rintro e x1 ⟨ids2, rfl, hm2, hl2, hS2, hc2⟩)
    refine hK.out _ _ (fun h => absurd h (by decide)) ?_
    have HW1 := hide (And.intro hm2 (And.intro hl2 (And.intro hS2 (HW0.out.mono (fun _ _ h => (h : False).elim) |>.trans hc2 fun _ _ h => h))))
    clear hcc hm2 hl2 hS2 hc2
    clear hK K
    try simp only [lz1, lz2, lz3, Act.put, lz4, lz5, lz6]
    refine AnyT.one (i := 9) (by kernel_rfl) rfl (fun K hK => ?_)
    rw [if_pos (by rfl)]
    try simp only [lz1, lz2, lz3, Act.put, lz4, lz5, lz6]
    have hcc := btWrong x1 0 (by decide)
    go_wp2_with (go_at_call 124; refine hcc.mono ?_; rintro e x2 ⟨rfl, hx2⟩; subst hx2)
    refine hK.out _ _ (fun h => absurd h (by decide)) ?_
    clear hcc
    clear hK K
    try simp only [lz1, lz2, lz3, Act.put, lz4, lz5, lz6]
    refine AnyT.takeL (i := 10) (v := ?_) rfl (by kernel_rfl) (by kernel_rfl) (fun _ _ _ h => h) (by kernel_rfl) (by kernel_rfl) (Or.inl ⟨by rfl, ?_⟩) ?_
    rotate_left
    ·(intro w9; go_simp; try with_reducible rfl)
    try simp only [lz1, lz2, lz3, Act.put, lz4, lz5, lz6]
    refine AnyT.nil (by kernel_rfl) ?_
    obtain ⟨k0, x, rfl⟩ : ∃ k0 x, E = [] ++ (k0, x) :: [] := by
     cases E with
     | nil => exact absurd rfl n.brn.some_
     | cons a E' =>
      cases E' with
      | nil => exact ⟨a.1, a.2, rfl⟩
      | cons b E'' => rw [List.length_cons, List.length_cons] at hnn; omega
    obtain ⟨kx1, kx2, kx3, kx4, kx5⟩ := kid_at n
    have hon := n.once
    rw [psE_app, psE_cons] at hon
    have hrx : r ∉ x.ps := fun h => (List.nodup_cons.1 hon).1 (by simp [psE, h])
    obtain ⟨ng, nc', hna, hng, hcl0⟩ := HNI.out.1.at_ (k := 0) (by rw [izs_len]; exact kx2)
    injection hna with hna hnn2 hnc'
    subst hna
    have hz : 0 < nn := by rw [hnn2, izs_len]; exact kx2
    have hw := HW1.out
    have hni := HNI.out
    have hf := HF.out
    have y5 : x2.cell? ⟨ng, 0, none⟩ = some (.int .i64 (x.id : Int)) := (hni.1.chg hw.2.2.2 (fun b e h => by have h1 := hni.2.1 b h; have h2 := (hni.1.lt b e).1; omega)).cellX kx1
    have hbx := HBB.out.chg hw.2.2.2 fun h => by have := hni.2.2 _ h; omega
    have hgx := hf.2.1.chg hw.2.2.2 hf.2.2.2.2
    obtain ⟨⟨c0, c1, c2, c3⟩, _⟩ := blk4 hbx
    obtain ⟨⟨p0, p1⟩, f0, f1⟩ := blk2f hgx
    have hg9 := hgx.set_ 1 (.int .i64 (x.id : Int))
    have hc9 : Chg (fun b => b = gt) x2 (x2.setCell ⟨gt, 1, none⟩ (.int .i64 (x.id : Int))) := Chg.setCell (p := ⟨gt, 1, none⟩) (Chg.refl (fun b => b = gt) x2) (fun _ => rfl) _
    simp at hg9
    have hs9 := hw.2.2.1.chg hc9 fun b hb e => hf.2.2.2.2 (by have e : b = gt := e; rw [← e]; exact hb)
    have n3 := hw.2.2.2.size
    have n9 := hc9.size
    have hcx : Chg (fun b => T b ∨ b = gt) w x2 := hf.2.2.1.trans hw.2.2.2 fun b hb h => by
     rcases hf.2.2.2.1 b h with h | h
     ·exact .inl h
     ·omega
    have hts : TreeSt w T g hand pre q n0 gt (lE ([] ++ (k0, x) :: [])) h0 (x2.setCell ⟨gt, 1, none⟩ (.int .i64 (x.id : Int))) h :=
     ⟨T2, ids2, upd ct1 r [], x.id, x.ps, by omega, hs9.le_q (by omega), fun b hb => (hf.2.2.2.1 b hb).up (by omega), hf.2.2.2.2, hg9, hcx.trans hc9 fun b _ e => .inr e, by
      have e : lE ([] ++ (k0, x) :: []) = x.l := by simp [lE]
      rw [e]
      exact kx3.congr fun j hj => upd_ne fun e => hrx (e ▸ hj), kx4, fun j hj => (hw.1 j).2 ⟨kx5 j hj, fun e => hrx (e ▸ hj)⟩, Nat.le_trans hw.2.1 HX.out.2.2⟩
    have HTS := hide hts
    clear kx1 kx2 kx3 kx4 kx5 hon hrx hcl0 hnn2 hnc' hw hni hf hbx hgx hg9 hc9 hs9 n3 n9 hcx hts hnn b0 b1 b2 b3
    go_wp2_with fail
    go_roundw
    case rel => exact ⟨rfl, h, HTS.out⟩
    case measure =>
     have := (least_spec HTS.out (b := 64) (by omega)).2
     omega
end
end Go.Proofs.YtliimeoblffigaaGreat

set_option maxRecDepth 100000
namespace Go.Proofs.YtliimeoblffigaaGreat
open Go.RowKit Go.Maps
set_option linter.unusedVariables false
set_option linter.unusedSimpArgs false

section
variable {ids ids' ps p1 p2 : List Nat} {ct ct' : Nat → List UInt8} {h r o i : Nat} {l1 l2 : List KV} {key : List UInt8}
theorem grow_brn {T : Nat → List Nat → List KV → Prop} (t1 : T r p1 l1) (t2 : T o p2 l2) (n1 : l1 ≠ []) (n2 : l2 ≠ []) (k1 : ∀ p ∈ l1, cmpB p.1 key < 0) (k2 : ∀ p ∈ l2, cmpB key p.1 ≤ 0) (hk : key.length ≤ 64) : Brn T [([], ⟨r, p1, l1⟩), (key, ⟨o, p2, l2⟩)] := by
 refine ⟨by simp, fun e he => ?_, fun e he => ?_, fun e he p hp => ?_, ?_, fun e he => ?_, fun e he => ?_⟩
 ·simp at he; rw [← he]
 ·simp at he; rcases he with rfl | rfl
  ·simp
  ·exact hk
 ·simp at he; rcases he with rfl | rfl
  ·exact cmpB_nil_le _
  ·exact k2 p hp
 ·refine List.pairwise_cons.2 ⟨fun b hb => ?_, List.pairwise_singleton _ _⟩
  simp at hb
  subst hb
  obtain ⟨p, hp⟩ := List.exists_mem_of_ne_nil _ n1
  exact ⟨cmpB_le_lt (cmpB_nil_le p.1) (k1 p hp), k1⟩
 ·simp at he; rcases he with rfl | rfl
  ·exact n1
  ·exact n2
 ·simp at he; rcases he with rfl | rfl
  ·exact t1
  ·exact t2
theorem grow_tr (U : Upd ids ids' ct ct' ps (p1 ++ p2)) (t1 : TR ct' h r p1 l1) (t2 : TR ct' h o p2 l2) (n1 : l1 ≠ []) (n2 : l2 ≠ []) (k1 : ∀ p ∈ l1, cmpB p.1 key < 0) (k2 : ∀ p ∈ l2, cmpB key p.1 ≤ 0) (hk : key.length ≤ 64) (hi : i ∉ ids') (hil : i ≤ 65535) :
  TR (upd ct' i (pageIn [key] [r, o])) (h + 1) i (i :: (p1 ++ p2)) (l1 ++ l2) ∧ (i :: (p1 ++ p2)).Nodup := by
 have hp : psE [([], (⟨r, p1, l1⟩ : Kid)), (key, (⟨o, p2, l2⟩ : Kid))] = p1 ++ p2 := by simp [psE]
 have hl : lE [([], (⟨r, p1, l1⟩ : Kid)), (key, (⟨o, p2, l2⟩ : Kid))] = l1 ++ l2 := by simp [lE]
 have hnot : i ∉ p1 ++ p2 := fun e => hi (U.has i e)
 have h1 := TR.write (id := i) (b := pageIn [key] [r, o]) (grow_brn t1 t2 n1 n2 k1 k2 hk) hil (by unfold sizeIn keysE; simp; omega) (by rw [hp]; exact hnot) (by rfl)
 rw [hp, hl] at h1
 exact ⟨h1, List.nodup_cons.2 ⟨hnot, U.once⟩⟩
end
/-- a tree of height h in a pool with at most n pages: its pairs l -/
def Tree (w : World) (T : Nat → Prop) (g hand : Nat) (pre : ByteArray) (q n gt h : Nat) (l : List KV) : Prop :=
 ∃ (ids : List Nat) (ct : Nat → List UInt8) (r : Nat) (ps : List Nat), TS w T g hand pre q ids ct ∧ ¬ T gt ∧ Blk w gt 121 #[.pointer (some ⟨g, 0, none⟩), .int .i64 (r : Int)] ∧ TR ct h r ps l ∧ ps.Nodup ∧ (∀ j ∈ ps, j ∈ ids) ∧ ids.length ≤ n
end Go.Proofs.YtliimeoblffigaaGreat

set_option maxRecDepth 100000
namespace Go.Proofs.YtliimeoblffigaaGreat
open Go.RowKit Go.Maps
set_option linter.unusedVariables false
set_option linter.unusedSimpArgs false

section
variable {w : World} {T G : Nat → Prop} {g hand q n gt h : Nat} {pre : ByteArray} {l : List KV} {k v : List UInt8} {XA YA : Option Addr} {xn xc yn yc : Nat}
set_option maxHeartbeats 16000000 in
theorem tOnePut (hT : Tree w T g hand pre q n gt h l) (hh : h ≤ 63) (hq : q + 3 * (h + 1) ≤ 900000) (hn : n + h + 1 < 65536) (hx : RdB w G (.slice XA xn xc) k) (hy : RdB w G (.slice YA yn yc) v) (hG : ∀ b, G b → ¬ T b) (hk64 : k.length ≤ 64) (hv128 : v.length ≤ 128) :
  Calls Tryz.prog 58 #[.pointer (some ⟨gt, 0, none⟩), .agg #[.slice XA xn xc, .slice YA yn yc, .bool false]] w fun e w' => e = .returned (.int .i64 0) ∧ ∃ (T' : Nat → Prop) (h' : Nat), h' ≤ h + 1 ∧ Tree w' T' g hand pre (q + 3 * (h + 1) + 1) (n + h + 2) gt h' (kvPut k v l) ∧ (∀ b, T' b → Ext T w w' b) ∧ Chg (fun b => T b ∨ b = gt) w w' := by
 obtain ⟨ids, ct, r, ps, hS, hgt, hb, hTR, hnd, hin, hlen⟩ := hT
 have hr := Blk.new w 86 #[.slice XA xn xc, .slice YA yn yc, .bool false]
 have hcr := (Chg.refl Non w).alloc (.cells #[.slice XA xn xc, .slice YA yn yc, .bool false] 86)
 have hTl := hS.lt
 go_enter Tryz.func58, Tryz.ntmps58
 go_upto_region 1 with fail
 have hS1 := hS.c0 hcr
 have hb1 := hb.c0 hcr
 have hx1 := hx.c0 hcr
 have hy1 := hy.c0 hcr
 obtain ⟨N, hN⟩ : ∃ N, N = w.heap.size := ⟨_, rfl⟩
 rw [← hN] at hr ⊢
 generalize World.alloc w _ = w1 at hr hcr hS1 hb1 hx1 hy1 ⊢
 obtain ⟨r0, r1, r2⟩ := blk3 hr
 have HW := hide (And.intro hr (And.intro hS1 (And.intro hb1 (And.intro hx1 hy1))))
 have HC := hide hcr
 have HTL := hide hTl
 clear hr hcr hS1 hb1 hx1 hy1 hS hb hx hy hTl hN
 go_upto_region 6 with fail
 clear r0 r1 r2
 refine wp_region_T (Chg Non w1) 6 (by kernel_rfl) ?_
 have HW0 := hide ((Chg.refl Non w1).drew)
 generalize World.drew w1 = x0 at HW0 ⊢
 refine AnyT.takeM (i := 0) (v := ?_) rfl (by kernel_rfl) (by kernel_rfl) (fun _ _ _ h => h) (by kernel_rfl) (by kernel_rfl) (Or.inl ⟨by rfl, ?_⟩) HW0.out ?_
 rotate_left
 ·(intro w9 h9; go_simp; try with_reducible rfl)
 try simp only [lz1, lz2, lz3, Act.put, lz4, lz5, lz6]
 refine AnyT.takeM (i := 1) (v := ?_) rfl (by kernel_rfl) (by kernel_rfl) (fun _ _ _ h => h) (by kernel_rfl) (by kernel_rfl) (Or.inl ⟨by rfl, ?_⟩) HW0.out ?_
 rotate_left
 ·(intro w9 h9; go_simp; try with_reducible rfl)
 try simp only [lz1, lz2, lz3, Act.put, lz4, lz5, lz6]
 refine AnyT.takeM (i := 2) (v := ?_) rfl (by kernel_rfl) (by kernel_rfl) (fun _ _ _ h => h) (by kernel_rfl) (by kernel_rfl) (Or.inl ⟨by rfl, ?_⟩) HW0.out ?_
 rotate_left
 ·(intro w9 h9; go_simp; try with_reducible rfl)
 try simp only [lz1, lz2, lz3, Act.put, lz4, lz5, lz6]
 refine AnyT.takeM (i := 3) (v := ?_) rfl (by kernel_rfl) (by kernel_rfl) (fun _ _ _ h => h) (by kernel_rfl) (by kernel_rfl) (Or.inl ⟨by rfl, ?_⟩) HW0.out ?_
 rotate_left
 ·(intro w9 h9; go_simp; try with_reducible rfl)
 try simp only [lz1, lz2, lz3, Act.put, lz4, lz5, lz6]
 refine AnyT.takeM (i := 4) (v := ?_) rfl (by kernel_rfl) (by kernel_rfl) (fun _ _ _ h => h) (by kernel_rfl) (by kernel_rfl) (Or.inl ⟨by rfl, ?_⟩) HW0.out ?_
 rotate_left
 ·(intro w9 h9; obtain ⟨y0, y1⟩ := blk2 (HW.out.2.2.1.c0 h9); go_simp; try with_reducible rfl)
 try simp only [lz1, lz2, lz3, Act.put, lz4, lz5, lz6]
 refine AnyT.takeM (i := 5) (v := ?_) rfl (by kernel_rfl) (by kernel_rfl) (fun _ _ _ h => h) (by kernel_rfl) (by kernel_rfl) (Or.inl ⟨by rfl, ?_⟩) HW0.out ?_
 rotate_left
 ·(intro w9 h9; obtain ⟨y0, y1, y2⟩ := blk3 (HW.out.1.c0 h9); go_simp; try with_reducible rfl)
 try simp only [lz1, lz2, lz3, Act.put, lz4, lz5, lz6]
 refine AnyT.one (i := 6) (by kernel_rfl) rfl (fun K hK => ?_)
 rw [if_pos (by rfl)]
 try simp only [lz1, lz2, lz3, Act.put, lz4, lz5, lz6]
 have hcc := tPutT h (d := 1) (HW.out.2.1.c0 HW0.out) (HW.out.2.2.1.c0 HW0.out) hgt hTR hnd hin (by omega) (by omega) (by omega) (HW.out.2.2.2.1.c0 HW0.out) (HW.out.2.2.2.2.c0 HW0.out) hG hk64 hv128
 go_wp2_with (go_at_call 90; refine hcc.mono ?_; rintro e x1 ⟨T6, ids6, ct6, hS6, hsub6, hc6, hlen6, hin6, hor⟩; obtain ⟨A6, n6, c6, z, rfl⟩ : ∃ (A : Option Addr) (n c : Nat) (z : Int), e = .returned (.tuple #[.slice A n c, .int .i64 z, .int .i64 0]) := by (rcases hor with ⟨h, _⟩ | ⟨o, _, _, _, _, A, n, c, _, h, _⟩; exact ⟨_, _, _, _, h⟩; exact ⟨A, n, c, _, h⟩))
 refine hK.out _ _ (fun h => absurd h (by decide)) ?_
 have HS6 := hide hS6
 have HSB6 := hide hsub6
 have HC6 := hide hc6
 have HL6 := hide (And.intro hlen6 hin6)
 have HOR := hide hor
 clear hcc hS6 hsub6 hc6 hlen6 hin6 hor
 clear hK K
 try simp only [lz1, lz2, lz3, Act.put, lz4, lz5, lz6]
 refine AnyT.takeL (i := 7) (v := ?_) rfl (by kernel_rfl) (by kernel_rfl) (fun _ _ _ h => h) (by kernel_rfl) (by kernel_rfl) (Or.inl ⟨by rfl, ?_⟩) ?_
 rotate_left
 ·(intro w9; go_simp; try with_reducible rfl)
 try simp only [lz1, lz2, lz3, Act.put, lz4, lz5, lz6]
 refine AnyT.takeL (i := 8) (v := ?_) rfl (by kernel_rfl) (by kernel_rfl) (fun _ _ _ h => h) (by kernel_rfl) (by kernel_rfl) (Or.inl ⟨by rfl, ?_⟩) ?_
 rotate_left
 ·(intro w9; go_simp; try with_reducible rfl)
 try simp only [lz1, lz2, lz3, Act.put, lz4, lz5, lz6]
 refine AnyT.takeL (i := 11) (v := ?_) rfl (by kernel_rfl) (by kernel_rfl) (fun _ _ _ h => h) (by kernel_rfl) (by kernel_rfl) (Or.inl ⟨by rfl, ?_⟩) ?_
 rotate_left
 ·(intro w9; go_simp; try with_reducible rfl)
 try simp only [lz1, lz2, lz3, Act.put, lz4, lz5, lz6]
 refine AnyT.takeL (i := 9) (v := ?_) rfl (by kernel_rfl) (by kernel_rfl) (fun _ _ _ h => h) (by kernel_rfl) (by kernel_rfl) (Or.inl ⟨by rfl, ?_⟩) ?_
 rotate_left
 ·(intro w9; go_simp; try with_reducible rfl)
 try simp only [lz1, lz2, lz3, Act.put, lz4, lz5, lz6]
 refine AnyT.takeL (i := 12) (v := ?_) rfl (by kernel_rfl) (by kernel_rfl) (fun _ _ _ h => h) (by kernel_rfl) (by kernel_rfl) (Or.inl ⟨by rfl, ?_⟩) ?_
 rotate_left
 ·(intro w9; go_simp; try with_reducible rfl)
 try simp only [lz1, lz2, lz3, Act.put, lz4, lz5, lz6]
 refine AnyT.takeL (i := 10) (v := ?_) rfl (by kernel_rfl) (by kernel_rfl) (fun _ _ _ h => h) (by kernel_rfl) (by kernel_rfl) (Or.inl ⟨by rfl, ?_⟩) ?_
 rotate_left
 ·(intro w9; go_simp; try with_reducible rfl)
 try simp only [lz1, lz2, lz3, Act.put, lz4, lz5, lz6]
 refine AnyT.takeL (i := 13) (v := ?_) rfl (by kernel_rfl) (by kernel_rfl) (fun _ _ _ h => h) (by kernel_rfl) (by kernel_rfl) (Or.inl ⟨by rfl, ?_⟩) ?_
 rotate_left
 ·(intro w9; go_simp; try with_reducible rfl)
 try simp only [lz1, lz2, lz3, Act.put, lz4, lz5, lz6]
 refine AnyT.nil (by kernel_rfl) ?_
 have hb1 := (HW.out.2.2.1.c0 HW0.out).chg HC6.out hgt
 have hgt6 : ¬ T6 gt := fun h => (HSB6.out gt h).elim hgt fun h => by have := (HW.out.2.2.1.c0 HW0.out).lt; omega
 have hcw := (HC.out.trans0 HW0.out)
 have nw := hcw.size
 have n6x := HC6.out.size
 have hcT : Chg T w x1 := (hcw.mono fun _ _ h => (h : False).elim).trans HC6.out fun _ _ h => h
 have hsub : ∀ b, T6 b → Ext T w x1 b := fun b hb => (HSB6.out b hb).back nw
 have HB1 := hide hb1
 have HCT := hide (And.intro hcT hsub)
 clear hb1 hcw hcT hsub
 rcases HOR.out with ⟨he, ps6, U6, t6⟩ | ⟨o, p1, p2, l1, l2, KA9, kn9, kc9, key, he, U6, t1, t2, hl12, u1, u2, u3, u4, u5, hky⟩
 ·obtain ⟨⟨rfl, rfl, rfl⟩, rfl⟩ : (A6 = none ∧ n6 = 0 ∧ c6 = 0) ∧ z = -1 := by simpa using he
  have HU := hide (And.intro U6 t6)
  clear HOR he U6 t6
  go_wp2_with fail
  go_ret
  exact ⟨rfl, T6, h, by omega, ⟨ids6, ct6, r, ps6, HS6.out.le_q (by omega), hgt6, HB1.out, HU.out.2, HU.out.1.once, HU.out.1.has, by have := HL6.out.1; omega⟩, HCT.out.2, HCT.out.1.mono fun b _ h => .inl h⟩
 ·obtain ⟨⟨rfl, rfl, rfl⟩, rfl⟩ : (A6 = KA9 ∧ n6 = kn9 ∧ c6 = kc9) ∧ z = (o : Int) := by simpa using he
  have hgr := tGrow HS6.out HB1.out hgt6 (by have := HL6.out.1; omega) (by omega) hky (fun b hb => hb.2.1) u5 t1.root.2 t2.root.2
  have HU := hide (And.intro U6 (And.intro t1 (And.intro t2 (And.intro hl12 (And.intro u1 (And.intro u2 (And.intro u3 (And.intro u4 u5))))))))
  have d1 : decide ((o : Int) ≥ 0) = true := decide_eq_true (by omega)
  have d2 : decide (0 ≤ (o : Int)) = true := decide_eq_true (by omega)
  clear HOR he U6 t1 t2 hl12 u1 u2 u3 u4 u5 hky
  go_wp2_with fail
  refine hgr.mono ?_
  rintro e w8 ⟨i, ids8, rfl, hi1, hi2, hi3, hi4, ⟨T8, hS8, hs8, hg8⟩, hb8, hc8⟩
  have HX := hide (And.intro hi1 (And.intro hi2 (And.intro hi3 (And.intro hi4 (And.intro hS8 (And.intro hs8 (And.intro hg8 (And.intro hb8 hc8))))))))
  clear hgr hi1 hi2 hi3 hi4 hS8 hs8 hg8 hb8 hc8
  go_wp2_with fail
  go_ret
  obtain ⟨hi1, hi2, hi3, hi4, hS8, hs8, hg8, hb8, hc8⟩ := HX.out
  obtain ⟨U6, t1, t2, hl12, u1, u2, u3, u4, u5⟩ := HU.out
  obtain ⟨g1, g2⟩ := grow_tr U6 t1 t2 u1 u2 u3 u4 u5 hi1 hi2
  have n8 := hc8.size
  have hcc : Chg (fun b => T b ∨ b = gt) w x1 := HCT.out.1.mono fun b _ h => .inl h
  refine ⟨rfl, T8, h + 1, Nat.le_refl _, ⟨ids8, _, i, _, hS8, hg8, hb8, by rw [← hl12]; exact g1, g2, fun j hj => ?_, by have := HL6.out.1; omega⟩, fun b hb => ?_, hcc.trans hc8 fun b hb h => ?_⟩
  ·rcases List.mem_cons.1 hj with rfl | hj
   ·exact (hi3 _).2 (.inl rfl)
   ·exact (hi3 j).2 (.inr (U6.has j hj))
  ·rcases hs8 b hb with h | h
   ·exact (HCT.out.2 b h).up n8
   ·exact .inr ⟨by omega, h.2⟩
  ·rcases h with h | h
   ·rcases HCT.out.2 b h with h | h
    ·exact .inl h
    ·omega
   ·exact .inr h
end
end Go.Proofs.YtliimeoblffigaaGreat

set_option maxRecDepth 100000
namespace Go.Proofs.YtliimeoblffigaaGreat
open Go.RowKit Go.Maps
set_option linter.unusedVariables false
set_option linter.unusedSimpArgs false

section
variable {w : World} {T G : Nat → Prop} {g hand q n gt h : Nat} {pre : ByteArray} {l : List KV} {k : List UInt8} {XA YA : Option Addr} {xn xc yn yc : Nat}
set_option maxHeartbeats 16000000 in
theorem tOneGone (hT : Tree w T g hand pre q n gt h l) (hh : h ≤ 63) (hq : q + 3 * (h + 1) + h + 1 ≤ 900000) (hx : RdB w G (.slice XA xn xc) k) (hG : ∀ b, G b → ¬ T b) :
  Calls Tryz.prog 58 #[.pointer (some ⟨gt, 0, none⟩), .agg #[.slice XA xn xc, .slice YA yn yc, .bool true]] w fun e w' => e = .returned (.int .i64 0) ∧ ∃ (T' : Nat → Prop) (h' : Nat), h' ≤ h ∧ Tree w' T' g hand pre (q + 3 * (h + 1) + h + 1) n gt h' (kvDel k l) ∧ (∀ b, T' b → Ext T w w' b) ∧ Chg (fun b => T b ∨ b = gt) w w' := by
 obtain ⟨ids, ct, r, ps, hS, hgt, hb, hTR, hnd, hin, hlen⟩ := hT
 have hr := Blk.new w 86 #[.slice XA xn xc, .slice YA yn yc, .bool true]
 have hcr := (Chg.refl Non w).alloc (.cells #[.slice XA xn xc, .slice YA yn yc, .bool true] 86)
 have hTl := hS.lt
 go_enter Tryz.func58, Tryz.ntmps58
 go_upto_region 1 with fail
 have hS1 := hS.c0 hcr
 have hb1 := hb.c0 hcr
 have hx1 := hx.c0 hcr
 obtain ⟨N, hN⟩ : ∃ N, N = w.heap.size := ⟨_, rfl⟩
 rw [← hN] at hr ⊢
 generalize World.alloc w _ = w1 at hr hcr hS1 hb1 hx1 ⊢
 obtain ⟨r0, r1, r2⟩ := blk3 hr
 have HW := hide (And.intro hr (And.intro hS1 (And.intro hb1 hx1)))
 have HC := hide hcr
 have HTL := hide hTl
 clear hr hcr hS1 hb1 hx1 hS hb hx hTl hN
 go_upto_region 2 with fail
 clear r0 r1 r2
 refine wp_region_T (Chg Non w1) 7 (by kernel_rfl) ?_
 have HW0 := hide ((Chg.refl Non w1).drew)
 generalize World.drew w1 = x0 at HW0 ⊢
 refine AnyT.takeM (i := 0) (v := ?_) rfl (by kernel_rfl) (by kernel_rfl) (fun _ _ _ h => h) (by kernel_rfl) (by kernel_rfl) (Or.inl ⟨by rfl, ?_⟩) HW0.out ?_
 rotate_left
 ·(intro w9 h9; go_simp; try with_reducible rfl)
 try simp only [lz1, lz2, lz3, Act.put, lz4, lz5, lz6]
 refine AnyT.takeM (i := 1) (v := ?_) rfl (by kernel_rfl) (by kernel_rfl) (fun _ _ _ h => h) (by kernel_rfl) (by kernel_rfl) (Or.inl ⟨by rfl, ?_⟩) HW0.out ?_
 rotate_left
 ·(intro w9 h9; go_simp; try with_reducible rfl)
 try simp only [lz1, lz2, lz3, Act.put, lz4, lz5, lz6]
 refine AnyT.takeM (i := 2) (v := ?_) rfl (by kernel_rfl) (by kernel_rfl) (fun _ _ _ h => h) (by kernel_rfl) (by kernel_rfl) (Or.inl ⟨by rfl, ?_⟩) HW0.out ?_
 rotate_left
 ·(intro w9 h9; go_simp; try with_reducible rfl)
 try simp only [lz1, lz2, lz3, Act.put, lz4, lz5, lz6]
 refine AnyT.takeM (i := 3) (v := ?_) rfl (by kernel_rfl) (by kernel_rfl) (fun _ _ _ h => h) (by kernel_rfl) (by kernel_rfl) (Or.inl ⟨by rfl, ?_⟩) HW0.out ?_
 rotate_left
 ·(intro w9 h9; go_simp; try with_reducible rfl)
 try simp only [lz1, lz2, lz3, Act.put, lz4, lz5, lz6]
 refine AnyT.takeM (i := 4) (v := ?_) rfl (by kernel_rfl) (by kernel_rfl) (fun _ _ _ h => h) (by kernel_rfl) (by kernel_rfl) (Or.inl ⟨by rfl, ?_⟩) HW0.out ?_
 rotate_left
 ·(intro w9 h9; obtain ⟨y0, y1⟩ := blk2 (HW.out.2.2.1.c0 h9); go_simp; try with_reducible rfl)
 try simp only [lz1, lz2, lz3, Act.put, lz4, lz5, lz6]
 refine AnyT.takeM (i := 5) (v := ?_) rfl (by kernel_rfl) (by kernel_rfl) (fun _ _ _ h => h) (by kernel_rfl) (by kernel_rfl) (Or.inl ⟨by rfl, ?_⟩) HW0.out ?_
 rotate_left
 ·(intro w9 h9; go_simp; try with_reducible rfl)
 try simp only [lz1, lz2, lz3, Act.put, lz4, lz5, lz6]
 refine AnyT.takeM (i := 6) (v := ?_) rfl (by kernel_rfl) (by kernel_rfl) (fun _ _ _ h => h) (by kernel_rfl) (by kernel_rfl) (Or.inl ⟨by rfl, ?_⟩) HW0.out ?_
 rotate_left
 ·(intro w9 h9; obtain ⟨y0, y1, y2⟩ := blk3 (HW.out.1.c0 h9); go_simp; try with_reducible rfl)
 try simp only [lz1, lz2, lz3, Act.put, lz4, lz5, lz6]
 refine AnyT.one (i := 7) (by kernel_rfl) rfl (fun K hK => ?_)
 rw [if_pos (by rfl)]
 try simp only [lz1, lz2, lz3, Act.put, lz4, lz5, lz6]
 have hcc := tDropT h (d := 1) (HW.out.2.1.c0 HW0.out) (HW.out.2.2.1.c0 HW0.out) hgt hTR hnd hin (by omega) (by omega) (HW.out.2.2.2.c0 HW0.out) hG (fun j _ e => by omega) (fun e => absurd rfl e)
 go_wp2_with (go_at_call 88; refine hcc.mono ?_; rintro e x1 ⟨T6, ids6, ct6, hS6, hsub6, hc6, hlen6, hor⟩; obtain ⟨z, rfl⟩ : ∃ z : Bool, e = .returned (.tuple #[.bool z, .int .i64 0]) := (by (rcases hor with ⟨h, _⟩ | ⟨h, _⟩; exact ⟨_, h⟩; exact ⟨_, h⟩)))
 refine hK.out _ _ (fun h => absurd h (by decide)) ?_
 have HS6 := hide hS6
 have HSB6 := hide hsub6
 have HC6 := hide hc6
 have HL6 := hide hlen6
 have HOR := hide hor
 clear hcc hS6 hsub6 hc6 hlen6 hor
 clear hK K
 try simp only [lz1, lz2, lz3, Act.put, lz4, lz5, lz6]
 refine AnyT.takeL (i := 8) (v := ?_) rfl (by kernel_rfl) (by kernel_rfl) (fun _ _ _ h => h) (by kernel_rfl) (by kernel_rfl) (Or.inl ⟨by rfl, ?_⟩) ?_
 rotate_left
 ·(intro w9; go_simp; try with_reducible rfl)
 try simp only [lz1, lz2, lz3, Act.put, lz4, lz5, lz6]
 refine AnyT.takeL (i := 9) (v := ?_) rfl (by kernel_rfl) (by kernel_rfl) (fun _ _ _ h => h) (by kernel_rfl) (by kernel_rfl) (Or.inl ⟨by rfl, ?_⟩) ?_
 rotate_left
 ·(intro w9; go_simp; try with_reducible rfl)
 try simp only [lz1, lz2, lz3, Act.put, lz4, lz5, lz6]
 refine AnyT.takeL (i := 11) (v := ?_) rfl (by kernel_rfl) (by kernel_rfl) (fun _ _ _ h => h) (by kernel_rfl) (by kernel_rfl) (Or.inl ⟨by rfl, ?_⟩) ?_
 rotate_left
 ·(intro w9; go_simp; try with_reducible rfl)
 try simp only [lz1, lz2, lz3, Act.put, lz4, lz5, lz6]
 refine AnyT.takeL (i := 10) (v := ?_) rfl (by kernel_rfl) (by kernel_rfl) (fun _ _ _ h => h) (by kernel_rfl) (by kernel_rfl) (Or.inl ⟨by rfl, ?_⟩) ?_
 rotate_left
 ·(intro w9; go_simp; try with_reducible rfl)
 try simp only [lz1, lz2, lz3, Act.put, lz4, lz5, lz6]
 refine AnyT.takeL (i := 12) (v := ?_) rfl (by kernel_rfl) (by kernel_rfl) (fun _ _ _ h => h) (by kernel_rfl) (by kernel_rfl) (Or.inl ⟨by rfl, ?_⟩) ?_
 rotate_left
 ·(intro w9; go_simp; try with_reducible rfl)
 try simp only [lz1, lz2, lz3, Act.put, lz4, lz5, lz6]
 refine AnyT.nil (by kernel_rfl) ?_
 have hb1 := (HW.out.2.2.1.c0 HW0.out).chg HC6.out hgt
 have hgt6 : ¬ T6 gt := fun h => (HSB6.out gt h).elim hgt fun h => by have := (HW.out.2.2.1.c0 HW0.out).lt; omega
 have hcw := (HC.out.trans0 HW0.out)
 have nw := hcw.size
 have n6x := HC6.out.size
 have hcT : Chg T w x1 := (hcw.mono fun _ _ h => (h : False).elim).trans HC6.out fun _ _ h => h
 have hsub : ∀ b, T6 b → Ext T w x1 b := fun b hb => (HSB6.out b hb).back nw
 rcases HOR.out with ⟨he, h', ps6, hle6, _, U6, t6⟩ | ⟨_, hr6, _, _⟩
 ·have hz : z = false := by simpa using he
  subst hz
  have hsh := tShrink (q := q + 3 * (h + 1)) (n0 := n) (h0 := h') (w := x1) (T := T6) (l := kvDel k l) ⟨T6, ids6, ct6, r, ps6, Nat.le_refl _, HS6.out.le_q (by omega), fun b hb => .inl hb, hgt6, hb1, Chg.refl _ _, t6, U6.once, U6.has, by have := HL6.out; omega⟩ (by omega) (by omega)
  have HCT := hide (And.intro hcT (And.intro hsub hle6))
  clear HOR he U6 t6 hb1 hcw hcT hsub hle6
  go_wp2_with fail
  refine hsh.mono ?_
  rintro e w8 ⟨rfl, h2, hts⟩
  have HX := hide hts
  clear hsh hts
  go_wp2_with fail
  go_ret
  obtain ⟨T8, ids8, ct8, r8, ps8, hle, hS8, hs8, hg8, hb8, hc8, hT8, hnd8, hin8, hl8⟩ := HX.out
  have n8 := hc8.size
  have hcc : Chg (fun b => T b ∨ b = gt) w x1 := HCT.out.1.mono fun b _ h => .inl h
  have hle6 := HCT.out.2.2
  refine ⟨rfl, T8, h2, by omega, ⟨ids8, ct8, r8, ps8, hS8.le_q (by omega), hg8, hb8, hT8, hnd8, hin8, hl8⟩, fun b hb => ?_, hcc.trans hc8 fun b hb h => ?_⟩
  ·rcases hs8 b hb with h | h
   ·exact (HCT.out.2.1 b h).up n8
   ·exact .inr ⟨by omega, h.2⟩
  ·rcases h with h | h
   ·rcases HCT.out.2.1 b h with h | h
    ·exact .inl h
    ·omega
   ·exact .inr h
 ·exact absurd rfl hr6
end
end Go.Proofs.YtliimeoblffigaaGreat

set_option maxRecDepth 100000
namespace Go.Proofs.YtliimeoblffigaaGreat
open Go.RowKit Go.Maps
set_option linter.unusedVariables false
set_option linter.unusedSimpArgs false

/-- a write: key, value, gone -/
structure WrS where
 a : List UInt8
 b : List UInt8
 f : Bool
theorem flat3_get {α β : Type} (f0 f1 f2 : α → β) : ∀ (l : List α) (k i : Nat) (h : k < l.length), i < 3 → (l.flatMap fun p => [f0 p, f1 p, f2 p])[k * 3 + i]? = [f0 l[k], f1 l[k], f2 l[k]][i]?
 | a :: l, 0, i, _, hi => by
  rw [Nat.zero_mul, Nat.zero_add, List.flatMap_cons, List.getElem?_append_left (by simpa using hi)]
  rfl
 | a :: l, k + 1, i, h, hi => by
  rw [List.flatMap_cons, show (k + 1) * 3 + i = (k * 3 + i) + 3 by omega, List.getElem?_append_right (by simp)]
  simp only [List.length_cons, List.length_nil, Nat.zero_add, Nat.add_sub_cancel]
  rw [flat3_get f0 f1 f2 l k i (by simpa using h) hi]
  rfl

def RdW (w : World) (F : Nat → Prop) (v : Value) (l : List WrS) : Prop :=
 ∃ xs : List (Value × Value), xs.length = l.length ∧ RdV w F 3 v l.length ((xs.zip l).flatMap fun p => [p.1.1, p.1.2, .bool p.2.f]) ∧
  ∀ (i : Nat) (x : Value × Value) (y : WrS), xs[i]? = some x → l[i]? = some y → RdB w F x.1 y.a ∧ RdB w F x.2 y.b
section
variable {w w' : World} {F F' S : Nat → Prop} {v : Value} {l : List WrS}
theorem RdW.mono (h : RdW w F v l) (hF : ∀ k, F k → F' k) : RdW w F' v l := by
 obtain ⟨xs, h1, h2, h3⟩ := h
 exact ⟨xs, h1, h2.mono hF, fun i x y hx hy => ⟨(h3 i x y hx hy).1.mono hF, (h3 i x y hx hy).2.mono hF⟩⟩
theorem RdW.chg (h : RdW w F v l) (hc : Chg S w w') (hF : ∀ k, F k → ¬ S k) : RdW w' F v l := by
 obtain ⟨xs, h1, h2, h3⟩ := h
 exact ⟨xs, h1, h2.chg hc hF, fun i x y hx hy => ⟨(h3 i x y hx hy).1.chg hc hF, (h3 i x y hx hy).2.chg hc hF⟩⟩
theorem RdW.c0 (h : RdW w F v l) (hc : Chg Non w w') : RdW w' F v l := h.chg hc fun _ _ h => h
theorem RdW.nil_ (w : World) (F : Nat → Prop) : RdW w F (.slice none 0 0) [] := ⟨[], rfl, RdV.nil_ w F 3, fun i x y hx _ => by simp at hx⟩
theorem RdW.shape (h : RdW w F v l) : ∃ A c, v = .slice A l.length c ∧ l.length ≤ c ∧ c ≤ maxLen := by
 obtain ⟨xs, h1, h2, h3⟩ := h
 exact h2.shape
theorem RdW.at_ {A : Option Addr} {n c : Nat} (h : RdW w F (.slice A n c) l) {k : Nat} (hk : k < l.length) :
  ∃ ad a b, A = some ad ∧ F ad.block ∧ w.cell? (ad.add (k * 3)) = some a ∧ w.cell? ⟨(ad.add (k * 3)).block, (ad.add (k * 3)).off + 1, none⟩ = some b ∧ w.cell? ⟨(ad.add (k * 3)).block, (ad.add (k * 3)).off + 2, none⟩ = some (.bool l[k].f) ∧ RdB w F a l[k].a ∧ RdB w F b l[k].b := by
 obtain ⟨xs, h1, h2, h3⟩ := h
 obtain ⟨A', c', e, _, _⟩ := RdV.shape h2
 injection e with e1 e2 e3
 subst e1; subst e2; subst e3
 have hkx : k < xs.length := by omega
 have hz : k < (xs.zip l).length := by rw [List.length_zip]; omega
 have hg : (xs.zip l)[k] = (xs[k], l[k]) := by rw [List.getElem_zip]
 have hc := fun i (hi : i < 3) => flat3_get (fun p : (Value × Value) × WrS => p.1.1) (fun p => p.1.2) (fun p => Value.bool p.2.f) (xs.zip l) k i hz hi
 rw [hg] at hc
 obtain ⟨ad, u, hA, hf, hu, hcell⟩ := RdV.at_ h2 hk (i := 0) (by omega)
 obtain ⟨ad1, u1, hA1, _, hu1, hcell1⟩ := RdV.at_ h2 hk (i := 1) (by omega)
 obtain ⟨ad2, u2, hA2, _, hu2, hcell2⟩ := RdV.at_ h2 hk (i := 2) (by omega)
 rw [hA] at hA1 hA2
 injection hA1 with hA1
 injection hA2 with hA2
 subst hA1; subst hA2
 rw [hc 0 (by omega)] at hu
 rw [hc 1 (by omega)] at hu1
 rw [hc 2 (by omega)] at hu2
 simp at hu hu1 hu2
 subst hu; subst hu1; subst hu2
 obtain ⟨r1, r2⟩ := h3 k xs[k] l[k] (List.getElem?_eq_getElem hkx) (List.getElem?_eq_getElem hk)
 refine ⟨ad, _, _, hA, hf, ?_, ?_, ?_, r1, r2⟩
 ·simpa using hcell
 ·rw [← add_succ ad (k * 3) 1 (by omega)]; exact hcell1
 ·rw [← add_succ ad (k * 3) 2 (by omega)]; exact hcell2
end
end Go.Proofs.YtliimeoblffigaaGreat

