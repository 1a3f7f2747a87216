/- The walk of btree's put at an inner node. -/
import Derived.Test.YtliimeoblffigaaGreatTsD
open List renaming getElem_toArray → lz1, getElem_cons_succ → lz2, getElem_cons_zero → lz3, setIfInBounds_toArray → lz4, set_cons_zero → lz5, set_cons_succ → lz6
set_option linter.unusedVariables false
set_option linter.unusedSimpArgs false
set_option maxRecDepth 100000
namespace Go.Proofs.YtliimeoblffigaaGreat
open Go.RowKit Go.Maps
set_option linter.unusedVariables false
set_option linter.unusedSimpArgs false

section
variable {ids ids' ids2 ps : List Nat} {ct ct' : Nat → List UInt8} {h id o : Nat} {E EA EB : List Ent} {k0 k v key : List UInt8} {x : Kid} {p' p1 p2 : List Nat} {l' l1 l2 : List KV}
theorem putI_none (n : Nod ct ids h id (EA ++ (k0, x) :: EB)) (w : Way EA EB k0 k) (U : Upd ids ids' ct ct' x.ps p') (hT : TR ct' h x.id p' (kvPut k v x.l)) :
  ∃ ps', Upd ids ids' ct ct' (id :: psE (EA ++ (k0, x) :: EB)) ps' ∧ TR ct' (h + 1) id ps' (kvPut k v (lE (EA ++ (k0, x) :: EB))) := by
 obtain ⟨a, b⟩ := n.turn U hT (kvPut_ne _ _ _) w fun p hp => by
  rcases kvPut_mem hp with rfl | hm
  ·exact .inl rfl
  ·exact .inr hm
 exact ⟨_, a, by rw [n.brn.put w]; exact b⟩
theorem putI_part (n : Nod ct ids h id (EA ++ (k0, x) :: EB)) (w : Way EA EB k0 k) (U : Upd ids ids' ct ct' x.ps (p1 ++ p2)) (h1 : TR ct' h x.id p1 l1) (h2 : TR ct' h o p2 l2) (hl : l1 ++ l2 = kvPut k v x.l) (n1 : l1 ≠ []) (n2 : l2 ≠ [])
  (k1 : ∀ p ∈ l1, cmpB p.1 key < 0) (k2 : ∀ p ∈ l2, cmpB key p.1 ≤ 0) (hk : key.length ≤ 64) :
  ∃ E2, Brn (TR ct' h) E2 ∧ lE E2 = kvPut k v (lE (EA ++ (k0, x) :: EB)) ∧ Upd ids ids' ct ct' (id :: psE (EA ++ (k0, x) :: EB)) (id :: psE E2) ∧ sizeIn (keysE E2) E2.length ≤ 579 ∧
   keysE E2 = (keysE (EA ++ (k0, x) :: EB)).take EA.length ++ key :: (keysE (EA ++ (k0, x) :: EB)).drop EA.length ∧ idsE E2 = (idsE (EA ++ (k0, x) :: EB)).take (EA.length + 1) ++ o :: (idsE (EA ++ (k0, x) :: EB)).drop (EA.length + 1) := by
 obtain ⟨a, b, c, d⟩ := n.part U h1 h2 hl n1 n2 w k1 k2 hk
 exact ⟨_, a, b, c, d, keys_ins _ _, ids_ins _ _ rfl⟩
theorem putI_fit (hB : Brn (TR ct' h) E) (U : Upd ids ids' ct ct' (id :: ps) (id :: psE E)) (hl : id ≤ 65535) (hs : sizeIn (keysE E) E.length ≤ 512) :
  Upd ids ids' ct (upd ct' id (pageIn (keysE E) (idsE E))) (id :: ps) (id :: psE E) ∧ TR (upd ct' id (pageIn (keysE E) (idsE E))) (h + 1) id (id :: psE E) (lE E) :=
 ⟨U.write (by simp) (by simp), TR.write hB hl hs (List.nodup_cons.1 U.once).1 rfl⟩
theorem putI_split {j : Nat} (hB : Brn (TR ct' h) E) (U : Upd ids ids' ct ct' (id :: ps) (id :: psE E)) (hl : id ≤ 65535) (ho : o ∉ ids') (hol : o ≤ 65535) (hids : ∀ j, j ∈ ids2 ↔ j = o ∨ j ∈ ids') (hsub : ∀ j ∈ ids, j ∈ ids') (hps : ∀ j ∈ id :: ps, j ∈ ids)
  (h1 : 1 ≤ j) (h2 : j + 2 ≤ (keysE E).length) (s1 : sizeIn ((keysE E).take j) (j + 1) ≤ 512) (s2 : sizeIn ((keysE E).drop (j + 1)) ((keysE E).length - j) ≤ 512) (hk : (keysE E)[j]? = some key)
  {ct3 : Nat → List UInt8} (h3 : ct3 = upd (upd ct' id (pageIn ((keysE E).take j) ((idsE E).take (j + 1)))) o (pageIn ((keysE E).drop (j + 1)) ((idsE E).drop (j + 1)))) :
  ∃ p1 p2 l1 l2, Upd ids ids2 ct ct3 (id :: ps) (p1 ++ p2) ∧ TR ct3 (h + 1) id p1 l1 ∧ TR ct3 (h + 1) o p2 l2 ∧ l1 ++ l2 = lE E ∧ l1 ≠ [] ∧ l2 ≠ [] ∧ (∀ p ∈ l1, cmpB p.1 key < 0) ∧ (∀ p ∈ l2, cmpB key p.1 ≤ 0) ∧ key.length ≤ 64 := by
 subst h3
 obtain ⟨EC, ED, kk, w, rfl, c1, c2, c3, c4, c5, c6, c7, c8, c9⟩ := cut_ent hB h1 h2
 rw [hk] at c4
 injection c4 with c4
 subst c4
 have hnot := List.nodup_cons.1 U.once
 have hoE : o ∉ psE (EC ++ (key, w) :: ED) := fun e => ho (U.has o (List.mem_cons_of_mem _ e))
 have hio : id ≠ o := fun e => ho (e ▸ U.has id (by simp))
 rw [← c8] at s1
 rw [← c3] at s1
 rw [← c9, ← c5] at s2
 obtain ⟨t1, t2, t3, t4, t5, t6, t7⟩ := split_tr (b1 := pageIn ((keysE (EC ++ (key, w) :: ED)).take j) ((idsE (EC ++ (key, w) :: ED)).take (j + 1))) (b2 := pageIn ((keysE (EC ++ (key, w) :: ED)).drop (j + 1)) ((idsE (EC ++ (key, w) :: ED)).drop (j + 1))) hB c1 hl hol hnot.1 hoE hio s1 s2 (by rw [c3, c6]) (by rw [c5, c7])
 have V := U.write (id := id) (b := pageIn ((keysE (EC ++ (key, w) :: ED)).take j) ((idsE (EC ++ (key, w) :: ED)).take (j + 1))) (by simp) (by simp)
 rw [ps_cut] at V
 have W := Upd.fresh (P := id :: psE EC) (Q := psE (([], w) :: ED)) (b := pageIn ((keysE (EC ++ (key, w) :: ED)).drop (j + 1)) ((idsE (EC ++ (key, w) :: ED)).drop (j + 1))) V ho hids hps fun e => ho (hsub o (hps o e))
 exact ⟨_, _, _, _, W, t1, t2, l_cut.symm, t6, t7, t3, t4, t5⟩
theorem nod_facts (n : Nod ct ids h id E) : ct id = pageIn (keysE E) (idsE E) ∧ (idsE E).length = (keysE E).length + 1 ∧ (∀ x ∈ idsE E, x ≤ 65535) ∧ UpK (keysE E) ∧ (∀ x ∈ keysE E, x.length ≤ 64) ∧ sizeIn (keysE E) (idsE E).length ≤ 512 :=
 ⟨n.page, by rw [idsE_len, n.brn.len], fun y hy => by
  obtain ⟨e, he, rfl⟩ := List.mem_map.1 hy
  exact (n.brn.kid e he).root.2, upK_pw (keysE_up n.brn), keysE_len64 n.brn, by rw [idsE_len]; exact n.size⟩
theorem kid_at (n : Nod ct ids h id (EA ++ (k0, x) :: EB)) : (izs (idsE (EA ++ (k0, x) :: EB)))[EA.length]? = some (x.id : Int) ∧ EA.length < (idsE (EA ++ (k0, x) :: EB)).length ∧ TR ct h x.id x.ps x.l ∧ x.ps.Nodup ∧ (∀ j ∈ x.ps, j ∈ ids) := by
 have ho := n.once
 have hs := n.sub
 rw [psE_mid] at ho hs
 obtain ⟨n1, n2, n3⟩ := List.nodup_append.1 ho
 refine ⟨?_, ?_, n.brn.kid (k0, x) (by simp), (List.nodup_append.1 n2).1, fun j hj => hs j (by simp [hj])⟩
 ·unfold izs idsE
  rw [List.map_append, List.map_append, List.getElem?_append_right (by simp)]
  simp
 ·rw [idsE_len, List.length_append, List.length_cons]; omega
theorem OwnI.cellX {w : World} {base g n c i : Nat} {l : List Int} {z : Int} (h : OwnI w base (.slice (some ⟨g, 0, none⟩) n c) l) (hk : l[i]? = some z) : w.cell? ⟨g, i, none⟩ = some (.int .i64 z) := by
 obtain ⟨hi, rfl⟩ := List.getElem?_eq_some_iff.1 hk
 obtain ⟨g', c', e, _, h2⟩ := h.at_ hi
 injection e with e1
 injection e1 with e1
 injection e1 with e1
 subst e1
 exact h2
theorem sizeIn_len (ks : List (List UInt8)) (n : Nat) : 3 + ks.length + 2 * n ≤ sizeIn ks n := by
 have := sizeIn_sK ks n
 have := sK_ge ks
 omega
end
/-- what put does at a tree of height h -/
def PutAt (h : Nat) : Prop := ∀ {w : World} {T G : Nat → Prop} {g hand q gt id d : Nat} {root : Int} {pre : ByteArray} {ids : List Nat} {ct : Nat → List UInt8} {k v : List UInt8} {XA YA : Option Addr} {xn xc yn yc : Nat} {ps : List Nat} {l : List KV} (_ : TS w T g hand pre q ids ct) (_ : Blk w gt 121 #[.pointer (some ⟨g, 0, none⟩), .int .i64 root]) (_ : ¬ T gt) (_ : TR ct h id ps l) (_ : ps.Nodup) (_ : ∀ j ∈ ps, j ∈ ids) (_ : q + 3 * (h + 1) ≤ 900000) (_ : ids.length + h < 65536) (_ : d + h ≤ 64) (_ : RdB w G (.slice XA xn xc) k) (_ : RdB w G (.slice YA yn yc) v) (_ : ∀ b, G b → ¬ T b) (_ : k.length ≤ 64) (_ : v.length ≤ 128),
  Calls Tryz.prog 90 #[.pointer (some ⟨gt, 0, none⟩), .int .i64 (id : Int), .int .i64 (d : Int), .agg #[.slice XA xn xc, .slice YA yn yc, .bool false]] w (PutP w T g hand pre q ids ct ps h id (kvPut k v l))
theorem tPut0 : PutAt 0 := fun hS hb hgt hT hnd hin hq hid hd hx hy hG hk hv => by
 obtain ⟨rfl, hil, hct, hg, hs⟩ := hT
 exact tPutL hS hb hgt (hin _ (by simp)) (by omega) (by omega) (by omega) hx hy hG hk hv hct hil hg hs
section
variable {w : World} {T G : Nat → Prop} {g hand q gt id d h : Nat} {root : Int} {pre : ByteArray} {ids : List Nat} {ct : Nat → List UInt8} {k v : List UInt8} {XA YA : Option Addr} {xn xc yn yc : Nat}
set_option maxHeartbeats 16000000 in
theorem tPutI {E : List Ent} (IH : PutAt h) (hS : TS w T g hand pre q ids ct) (hb : Blk w gt 121 #[.pointer (some ⟨g, 0, none⟩), .int .i64 root]) (hgt : ¬ T gt) (n : Nod ct ids h id E) (hq : q + 3 * (h + 2) ≤ 900000) (hid : ids.length + h + 1 < 65536) (hd : d + h + 1 ≤ 64) (hx : RdB w G (.slice XA xn xc) k) (hy : RdB w G (.slice YA yn yc) v) (hG : ∀ b, G b → ¬ T b) (hk64 : k.length ≤ 64) (hv128 : v.length ≤ 128) :
  Calls Tryz.prog 90 #[.pointer (some ⟨gt, 0, none⟩), .int .i64 (id : Int), .int .i64 (d : Int), .agg #[.slice XA xn xc, .slice YA yn yc, .bool false]] w (PutP w T g hand pre q ids ct (id :: psE E) (h + 1) id (kvPut k v (lE E))) := by
 unfold PutP
 have nf := nod_facts n
 have hi : id ∈ ids := n.sub id (by simp)
 have hr := Blk.new w 86 #[.slice XA xn xc, .slice YA yn yc, .bool false]
 have hcr := (Chg.refl Non w).alloc (.cells #[.slice XA xn xc, .slice YA yn yc, .bool false] 86)
 have hnr := sizeAl' w (.cells #[.slice XA xn xc, .slice YA yn yc, .bool false] 86)
 have hTl := hS.lt
 go_enter Tryz.func90, Tryz.ntmps90
 go_upto_region 1 with fail
 obtain ⟨N, hN⟩ : ∃ N, N = w.heap.size := ⟨_, rfl⟩
 have hS1 := hS.c0 hcr
 have hb1 := hb.c0 hcr
 have hx1 := (hx.c0 hcr).lt
 have hy1 := (hy.c0 hcr).lt
 rw [← hN] at hr hnr ⊢
 have HN := hide (And.intro hN hnr)
 clear hS hb hN hnr
 generalize World.alloc w _ = w1 at hr hcr hS1 hb1 hx1 hy1 HN ⊢
 have hch := tChildI hS1 hb1 hgt hi (by omega) nf.1 nf.2.1 nf.2.2.1 nf.2.2.2.1 nf.2.2.2.2.1 nf.2.2.2.2.2
 have HR := hide hr
 have HC1 := hide hcr
 have HTL := hide hTl
 have HX1 := hide (And.intro hx1 hy1)
 have HB1 := hide hb1
 clear hr hcr hS1 hb1 hTl hx1 hy1 hx hy
 go_upto_region 2 with (go_at_call 92; refine hch.mono ?_; rintro e w2 ⟨T2, B, KA, kn, kc, VA, vn, vc, NA, nn, nc, rfl, hO⟩)
 have hbb := Blk.new w2 125 #[.bool false, .slice KA kn kc, .slice VA vn vc, .slice NA nn nc]
 have hcB := (Chg.refl Non w2).alloc (.cells #[.bool false, .slice KA kn kc, .slice VA vn vc, .slice NA nn nc] 125)
 have hnB := sizeAl' w2 (.cells #[.bool false, .slice KA kn kc, .slice VA vn vc, .slice NA nn nc] 125)
 have hO3 := (hO.back HC1.out).c0 hcB
 obtain ⟨gb, hgb⟩ : ∃ g, g = w2.heap.size := ⟨_, rfl⟩
 have hnN : N ≠ gb ∧ ¬ T2 gb ∧ w.heap.size ≤ gb ∧ ¬ T N ∧ w1.heap.size ≤ gb := by
  have h1 := HN.out
  have h2 := hO.chg.size
  refine ⟨by omega, fun h => ?_, by omega, fun h => ?_, by omega⟩
  ·have := hO.ts.lt gb h; omega
  ·have := HTL.out N h; omega
 have hr3 := (HR.out.chg hO.chg hnN.2.2.2.1).c0 hcB
 have hx3 := (HX1.out.1.chg hO.chg fun b hb => hG b hb.1).c0 hcB
 have hy3 := (HX1.out.2.chg hO.chg fun b hb => hG b hb.1).c0 hcB
 have hb3 := (HB1.out.chg hO.chg hgt).c0 hcB
 have hgt2 : ¬ T2 gt := fun h => by
  rcases hO.sub gt h with h | h
  ·exact hgt h
  ·have := HB1.out.lt; omega
 have hGT : gt ≠ gb := fun e => by have := HB1.out.lt; have := hO.chg.size; omega
 have hkb := (hO.k.c0 hcB).mono (F' := fun b => B ≤ b ∧ b ≠ gb) fun b hb => ⟨hb.1, by omega⟩
 have hvb := (hO.v.c0 hcB).mono (F' := fun b => B ≤ b ∧ b ≠ gb) fun b hb => ⟨hb.1, by omega⟩
 have hnb := (hO.n.c0 hcB).mono (F' := fun b => B ≤ b ∧ b ≠ gb) fun b hb => ⟨hb.1, by omega⟩
 rw [← hgb] at hbb hnB ⊢
 have hlo9 : ∀ b, T2 b → b < B := hO.low
 generalize World.alloc w2 _ = w3 at hbb hcB hO3 hr3 hx3 hy3 hb3 hkb hvb hnb hnB ⊢
 have hgb3 : gb < w3.heap.size := by omega
 have hkl : (keysE E).length ≤ 600 := by have := sizeIn_len (keysE E) (idsE E).length; have := nf.2.2.2.2.2; omega
 have hwy := btWay (lf := false) (VA := VA) (vn := vn) (vc := vc) (NA := NA) (nn := nn) (nc := nc) hkb hx3 (keysE_up n.brn) (by omega)
 have d1 : decide (64 < (d : Int)) = false := decide_eq_false (by omega)
 have d2 : decide ((d : Int) > 64) = false := decide_eq_false (by omega)
 have hT2 := (hO.own rfl).fit
 have ob : (∀ b, (Value.slice KA kn kc).ownBlock = some b → B ≤ b ∧ b < gb) ∧ (∀ b, (Value.slice VA vn vc).ownBlock = some b → B ≤ b ∧ b < gb) ∧ (∀ b, (Value.slice NA nn nc).ownBlock = some b → B ≤ b ∧ b < gb) := by
  rw [hgb]
  exact ⟨hT2.k.lt, hT2.v.lt, hT2.i.lt⟩
 rw [← hgb] at hT2
 have hT3 := hT2.c0 hcB
 have HOB := hide ob
 have HT3 := hide hT3
 have HNF := hide nf
 have HGB := hide (show gt < B ∧ w.heap.size ≤ B from ⟨by have := HB1.out.lt; have := hO.lo; omega, by have := hO.lo; have := HN.out; omega⟩)
 have hgx : ∀ b, (G b ∧ b < w1.heap.size) → ¬ T2 b := fun b hb h => by
  rcases hO.sub b h with h | h
  ·exact hG b hb.1 h
  ·omega
 have HGX := hide hgx
 clear hgx
 have HLO := hide hlo9
 have hO9 : TS w3 T2 g hand pre (q + 1) ids ct ∧ Blk w3 gt 121 #[.pointer (some ⟨g, 0, none⟩), .int .i64 root] ∧ Chg T w w3 := ⟨hO3.ts, hb3, hO3.chg⟩
 have HSUB := hide hO3.sub
 obtain ⟨r0, r1, r2⟩ := blk3 hr3
 obtain ⟨⟨b0, b1, b2, b3⟩, _⟩ := blk4 hbb
 have HBB := hide hbb
 have HR3 := hide hr3
 have HX3 := hide (And.intro hx3 hy3)
 have HO9 := hide hO9
 have HNN := hide hnN
 clear hch hO hO3 hcB hbb hr3 hx3 hy3 hkb hvb hnb hO9 hgb hlo9 hb3 HB1 HX1 HR HC1 hnN hT2 ob hT3 nf
 go_upto_region 12 with (go_at_call 93; refine hwy.mono ?_; rintro e w4 ⟨i, ok, he, hf, hc4⟩; obtain ⟨EA, EB, k0, x, hE, hlen, wy⟩ := n.brn.way hf; rw [← hlen] at he; subst he; clear hlen)
 subst hE
 obtain ⟨kx1, kx2, kx3, kx4, kx5⟩ := kid_at n
 obtain ⟨m, hm⟩ : ∃ m, m = EA.length := ⟨_, rfl⟩
 rw [← hm] at kx1 kx2 ⊢
 obtain ⟨ng, nc', hna, hng, hcl0⟩ := HT3.out.i.at_ (k := m) (by rw [izs_len]; exact kx2)
 injection hna with hna hnn hnc'
 subst hna
 have hmn : m < nn := by rw [hnn, izs_len]; exact kx2
 have hm5 : m ≤ 600 := by rw [HNF.out.2.1] at kx2; omega
 have HM := hide (And.intro hm (And.intro hnn kx1))
 have HKX := hide (And.intro kx3 (And.intro kx4 kx5))
 obtain ⟨d1x, hd1x⟩ : ∃ d', d' = d + 1 := ⟨_, rfl⟩
 have wd : IntKind.i64.wrap ((d : Int) + 1) = (d1x : Int) := by rw [IntWalk.i64_in _ (by omega)]; omega
 have HD := hide hd1x
 have HC4 := hide hc4
 clear hcl0 hm hnn hnc' kx1 kx2 kx3 kx4 kx5 hd1x hf b0 b1 b2 b3 r0 r1 r2 hwy hc4
 refine wp_region_T (Chg Non w4) 9 (by kernel_rfl) ?_
 have HW0 := hide ((Chg.refl Non w4).drew)
 generalize World.drew w4 = x0 at HW0 ⊢
 refine AnyT.takeM (i := 0) (v := ?_) rfl (by kernel_rfl) (by kernel_rfl) (fun _ _ _ h => h) (by kernel_rfl) (by kernel_rfl) (Or.inl ⟨by rfl, ?_⟩) HW0.out ?_
 rotate_left
 ·(intro w9 h9; go_simp; try with_reducible rfl)
 try simp only [lz1, lz2, lz3, Act.put, lz4, lz5, lz6]
 refine AnyT.takeM (i := 1) (v := ?_) rfl (by kernel_rfl) (by kernel_rfl) (fun _ _ _ h => h) (by kernel_rfl) (by kernel_rfl) (Or.inl ⟨by rfl, ?_⟩) HW0.out ?_
 rotate_left
 ·(intro w9 h9; go_simp; try with_reducible rfl)
 try simp only [lz1, lz2, lz3, Act.put, lz4, lz5, lz6]
 refine AnyT.takeM (i := 2) (v := ?_) rfl (by kernel_rfl) (by kernel_rfl) (fun _ _ _ h => h) (by kernel_rfl) (by kernel_rfl) (Or.inl ⟨by rfl, ?_⟩) HW0.out ?_
 rotate_left
 ·(intro w9 h9; obtain ⟨⟨y0, y1, y2, y3⟩, _⟩ := blk4 ((HBB.out.c0 HC4.out).c0 h9); go_simp; try with_reducible rfl)
 try simp only [lz1, lz2, lz3, Act.put, lz4, lz5, lz6]
 refine AnyT.takeM (i := 3) (v := ?_) rfl (by kernel_rfl) (by kernel_rfl) (fun _ _ _ h => h) (by kernel_rfl) (by kernel_rfl) (Or.inl ⟨by rfl, ?_⟩) HW0.out ?_
 rotate_left
 ·(intro w9 h9; go_simp; try with_reducible rfl)
 try simp only [lz1, lz2, lz3, Act.put, lz4, lz5, lz6]
 refine AnyT.takeM (i := 4) (v := ?_) rfl (by kernel_rfl) (by kernel_rfl) (fun _ _ _ h => h) (by kernel_rfl) (by kernel_rfl) (Or.inl ⟨by rfl, ?_⟩) HW0.out ?_
 rotate_left
 ·(intro w9 h9; go_simp; try with_reducible rfl)
 try simp only [lz1, lz2, lz3, Act.put, lz4, lz5, lz6]
 refine AnyT.takeM (i := 5) (v := ?_) rfl (by kernel_rfl) (by kernel_rfl) (fun _ _ _ h => h) (by kernel_rfl) (by kernel_rfl) (Or.inl ⟨by rfl, ?_⟩) HW0.out ?_
 rotate_left
 ·(intro w9 h9; have y5 := ((HT3.out.i.c0 HC4.out).c0 h9).cellX HM.out.2.2; go_simp; try with_reducible rfl)
 try simp only [lz1, lz2, lz3, Act.put, lz4, lz5, lz6]
 refine AnyT.takeM (i := 6) (v := ?_) rfl (by kernel_rfl) (by kernel_rfl) (fun _ _ _ h => h) (by kernel_rfl) (by kernel_rfl) (Or.inl ⟨by rfl, ?_⟩) HW0.out ?_
 rotate_left
 ·(intro w9 h9; go_simp; try with_reducible rfl)
 try simp only [lz1, lz2, lz3, Act.put, lz4, lz5, lz6]
 refine AnyT.takeM (i := 7) (v := ?_) rfl (by kernel_rfl) (by kernel_rfl) (fun _ _ _ h => h) (by kernel_rfl) (by kernel_rfl) (Or.inl ⟨by rfl, ?_⟩) HW0.out ?_
 rotate_left
 ·(intro w9 h9; go_simp; try with_reducible rfl)
 try simp only [lz1, lz2, lz3, Act.put, lz4, lz5, lz6]
 refine AnyT.takeM (i := 8) (v := ?_) rfl (by kernel_rfl) (by kernel_rfl) (fun _ _ _ h => h) (by kernel_rfl) (by kernel_rfl) (Or.inl ⟨by rfl, ?_⟩) HW0.out ?_
 rotate_left
 ·(intro w9 h9; obtain ⟨y0, y1, y2⟩ := blk3 ((HR3.out.c0 HC4.out).c0 h9); go_simp; try with_reducible rfl)
 try simp only [lz1, lz2, lz3, Act.put, lz4, lz5, lz6]
 refine AnyT.one (i := 9) (by kernel_rfl) rfl (fun K hK => ?_)
 rw [if_pos (by rfl)]
 try simp only [lz1, lz2, lz3, Act.put, lz4, lz5, lz6]
 have hcw := HC4.out.trans0 HW0.out
 have hS6 := HO9.out.1.c0 hcw
 have hcc := IH (d := d1x) hS6 (HO9.out.2.1.c0 hcw) hgt2 HKX.out.1 HKX.out.2.1 HKX.out.2.2 (by omega) (by omega) (by have := HD.out; omega) ((HX3.out.1.c0 hcw).mono fun b hb => hb) ((HX3.out.2.c0 hcw).mono fun b hb => hb) HGX.out hk64 hv128
 have HCW := hide hcw
 clear hS6 hcw
 go_wp2_with (go_at_call 90; refine hcc.mono ?_; rintro e x1 ⟨T6, ids6, ct6, hS6, hsub6, hc6, hlen6, hin6, hor⟩; obtain ⟨A6, n6, c6, z, rfl⟩ : ∃ (A : Option Addr) (n c : Nat) (z : Int), e = .returned (.tuple #[.slice A n c, .int .i64 z, .int .i64 0]) := by (rcases hor with ⟨h, _⟩ | ⟨o, _, _, _, _, A, n, c, _, h, _⟩; exact ⟨_, _, _, _, h⟩; exact ⟨A, n, c, _, h⟩))
 refine hK.out _ _ (fun h => absurd h (by decide)) ?_
 have HS6 := hide hS6
 have HSB6 := hide hsub6
 have HC6 := hide hc6
 have HL6 := hide (And.intro hlen6 hin6)
 have HOR := hide hor
 clear hcc hS6 hsub6 hc6 hlen6 hin6 hor
 clear hK K
 try simp only [lz1, lz2, lz3, Act.put, lz4, lz5, lz6]
 refine AnyT.takeL (i := 10) (v := ?_) rfl (by kernel_rfl) (by kernel_rfl) (fun _ _ _ h => h) (by kernel_rfl) (by kernel_rfl) (Or.inl ⟨by rfl, ?_⟩) ?_
 rotate_left
 ·(intro w9; go_simp; try with_reducible rfl)
 try simp only [lz1, lz2, lz3, Act.put, lz4, lz5, lz6]
 refine AnyT.takeL (i := 11) (v := ?_) rfl (by kernel_rfl) (by kernel_rfl) (fun _ _ _ h => h) (by kernel_rfl) (by kernel_rfl) (Or.inl ⟨by rfl, ?_⟩) ?_
 rotate_left
 ·(intro w9; go_simp; try with_reducible rfl)
 try simp only [lz1, lz2, lz3, Act.put, lz4, lz5, lz6]
 refine AnyT.takeL (i := 14) (v := ?_) rfl (by kernel_rfl) (by kernel_rfl) (fun _ _ _ h => h) (by kernel_rfl) (by kernel_rfl) (Or.inl ⟨by rfl, ?_⟩) ?_
 rotate_left
 ·(intro w9; go_simp; try with_reducible rfl)
 try simp only [lz1, lz2, lz3, Act.put, lz4, lz5, lz6]
 refine AnyT.takeL (i := 12) (v := ?_) rfl (by kernel_rfl) (by kernel_rfl) (fun _ _ _ h => h) (by kernel_rfl) (by kernel_rfl) (Or.inl ⟨by rfl, ?_⟩) ?_
 rotate_left
 ·(intro w9; go_simp; try with_reducible rfl)
 try simp only [lz1, lz2, lz3, Act.put, lz4, lz5, lz6]
 refine AnyT.takeL (i := 15) (v := ?_) rfl (by kernel_rfl) (by kernel_rfl) (fun _ _ _ h => h) (by kernel_rfl) (by kernel_rfl) (Or.inl ⟨by rfl, ?_⟩) ?_
 rotate_left
 ·(intro w9; go_simp; try with_reducible rfl)
 try simp only [lz1, lz2, lz3, Act.put, lz4, lz5, lz6]
 refine AnyT.takeL (i := 13) (v := ?_) rfl (by kernel_rfl) (by kernel_rfl) (fun _ _ _ h => h) (by kernel_rfl) (by kernel_rfl) (Or.inl ⟨by rfl, ?_⟩) ?_
 rotate_left
 ·(intro w9; go_simp; try with_reducible rfl)
 try simp only [lz1, lz2, lz3, Act.put, lz4, lz5, lz6]
 refine AnyT.takeL (i := 16) (v := ?_) rfl (by kernel_rfl) (by kernel_rfl) (fun _ _ _ h => h) (by kernel_rfl) (by kernel_rfl) (Or.inl ⟨by rfl, ?_⟩) ?_
 rotate_left
 ·(intro w9; go_simp; try with_reducible rfl)
 try simp only [lz1, lz2, lz3, Act.put, lz4, lz5, lz6]
 refine AnyT.nil (by kernel_rfl) ?_
 have hcw := HCW.out
 have hc6 := HC6.out
 have hT2B : ∀ b, B ≤ b → ¬ T2 b := fun b hb h => by have := HLO.out b h; omega
 have hbb1 := (HBB.out.c0 hcw).chg hc6 HNN.out.2.1
 have nw := hcw.size
 have n6x := hc6.size
 have hT6a : ∀ b, b < x0.heap.size → ¬ T2 b → ¬ T6 b := fun b h1 h2 h => (HSB6.out b h).elim h2 fun h => by omega
 have hth := (((HT3.out.c0 hcw).chg hc6 hT2B fun b hb => hT2B b hb.1).mono (P' := fun b => B ≤ b ∧ b ≠ gb ∧ ¬ T6 b) fun b hb => ⟨hb.1, by omega, hT6a b (by omega) (hT2B b hb.1)⟩)
 have hgt1 := (HO9.out.2.1.c0 hcw).chg hc6 hgt2
 have hgt6 : ¬ T6 gt := hT6a gt (HO9.out.2.1.c0 hcw).lt hgt2
 have hgb6 : ¬ T6 gb := hT6a gb (by omega) HNN.out.2.1
 have hcT : Chg T w x1 := (HO9.out.2.2.trans0 hcw).trans hc6 fun b hb h => by
  rcases HSUB.out b h with h | h
  ·exact h
  ·omega
 have hsub : ∀ b, T6 b → T b ∨ (w.heap.size ≤ b ∧ b < x1.heap.size) := fun b hb => by
  rcases HSB6.out b hb with h | h
  ·exact (HSUB.out b h).imp_right fun h => ⟨h.1, by omega⟩
  ·have := HO9.out.2.2.size
   exact .inr ⟨by omega, h.2⟩
 have hng2 := HOB.out.2.2 ng rfl
 have HTH := hide hth
 have HGT1 := hide hgt1
 have HCT := hide hcT
 have HSU := hide hsub
 have HT6A := hide hT6a
 have HX01 := hide (And.intro nw n6x)
 obtain ⟨⟨b0, b1, b2, b3⟩, f0, f1, f2, f3⟩ := blk4 hbb1
 have HBB1 := hide hbb1
 clear hcw hc6 hT2B hbb1 nw n6x hT6a hth hgt1 hcT hsub HT3 HCW HC6 HSB6 HBB HR3 HX3 HO9 HSUB HC4 HW0
 rcases HOR.out with ⟨he, ps6, U6, t6⟩ | ⟨o, p1, p2, l1, l2, KA9, kn9, kc9, key, he, U6, t1, t2, hl12, u1, u2, u3, u4, u5, hky⟩
 ·obtain ⟨⟨rfl, rfl, rfl⟩, rfl⟩ : (A6 = none ∧ n6 = 0 ∧ c6 = 0) ∧ z = -1 := by simpa using he
  have HU := hide (And.intro U6 t6)
  clear HOR he U6 t6 f0 f1 f2 f3
  go_wp2_with fail
  go_ret3
  exact ⟨T6, ids6, ct6, HS6.out.le_q (by omega), fun b hb => HSU.out b hb, HCT.out, by have := HL6.out.1; omega, HL6.out.2, .inl ⟨rfl, putI_none n wy HU.out.1 HU.out.2⟩⟩
 ·obtain ⟨⟨rfl, rfl, rfl⟩, rfl⟩ : (A6 = KA9 ∧ n6 = kn9 ∧ c6 = kc9) ∧ z = (o : Int) := by simpa using he
  obtain ⟨E2, hB2, hlE2, U2, hs2, hke2, hie2⟩ := putI_part n wy U6 t1 t2 hl12 u1 u2 u3 u4 u5
  have hgx := Blk.new x1 30 #[.slice A6 n6 c6]
  have hcx := (Chg.refl Non x1).alloc (.cells #[.slice A6 n6 c6] 30)
  have hnx := sizeAl' x1 (.cells #[.slice A6 n6 c6] 30)
  have hd0 : decide ((o : Int) < 0) = false := decide_eq_false (by omega)
  have HE2 := hide (And.intro hB2 (And.intro hlE2 (And.intro U2 (And.intro hs2 (And.intro hke2 hie2)))))
  have HKY := hide hky
  clear HOR he U6 t1 t2 hl12 u1 u2 u3 u4 u5 hB2 hlE2 U2 hs2 hke2 hie2 hky
  go_wp2_with fail
  obtain ⟨gx, hgxe⟩ : ∃ g, g = x1.heap.size := ⟨_, rfl⟩
  rw [← hgxe] at hgx hnx ⊢
  generalize World.alloc x1 _ = x2 at hgx hcx hnx ⊢
  have hX := HX01.out
  have hT6l := HS6.out.lt
  have hob := HOB.out
  have hth2 := HTH.out.c0 hcx
  have hkx : RdB x2 (fun b => ((B ≤ b ∧ b ≠ gb ∧ ¬ T6 b) ∧ (Value.slice VA vn vc).ownBlock ≠ some b ∧ (Value.slice (some ⟨ng, 0, none⟩) nn nc).ownBlock ≠ some b) ∧ b < x2.heap.size ∧ (Value.slice KA kn kc).ownBlock ≠ some b) (.slice A6 n6 c6) key :=
   (HKY.out.c0 hcx).mono fun b hb => ⟨⟨⟨by omega, by omega, hb.2.1⟩, fun e => by have := (hob.2.1 b e).2; omega, fun e => by have := (hob.2.2 b e).2; omega⟩, by omega, fun e => by have := (hob.1 b e).2; omega⟩
  have hins := insBB (i := m) hth2.k (by have := HM.out.2.1; rw [izs_len, HNF.out.2.1] at this; omega) (by omega) hgx (fun e => by have := (hob.1 gx e).2; omega) hkx (by omega)
  have HC2 := hide hcx
  have HTH2 := hide hth2
  have HX2 := hide (show x1.heap.size ≤ x2.heap.size by omega)
  clear b0 b1 b2 b3 f0 f1 f2 f3 hgx hcx hnx hX hT6l hob hth2 hkx hgxe
  go_upto_region 16 with (refine hins.mono ?_; rintro e x3 ⟨u, rfl, hu, hc3, hat3⟩; obtain ⟨UA, un, uc, rfl⟩ := hu.shapeH; have hnk : (Value.slice KA kn kc).ownBlock ≠ some gb := (fun e => by have := (HOB.out.1 gb e).2; omega); have hbb3 := (HBB1.out.c0 HC2.out).chg hc3 hnk; obtain ⟨⟨b0, b1, b2, b3⟩, f0, f1, f2, f3⟩ := blk4 hbb3)
  have hob := HOB.out
  have hX := HX01.out
  have hX2 := HX2.out
  have n3 := hc3.size
  have hth3 := HTH2.out.putK hu hc3 hat3
  have hbb4 := hbb3.set_ 1 (.slice UA un uc)
  have hc4 : Chg (fun b => b = gb) x3 (x3.setCell ⟨gb, 1, none⟩ (.slice UA un uc)) := Chg.setCell (p := ⟨gb, 1, none⟩) (Chg.refl (fun b => b = gb) x3) (fun _ => rfl) _
  have ho4 : ∀ b, (Value.slice UA un uc).ownBlock = some b → b ≠ gb ∧ ¬ T6 b ∧ b < x3.heap.size := fun b e => by
   have h3 := (hth3.k.lt b e).2
   rcases hat3 with h | ⟨kk, h, h2⟩
   ·rw [h] at e
    have h4 := hob.1 b e
    exact ⟨by omega, HT6A.out b (by omega) (fun h => by have := HLO.out b h; omega), h3⟩
   ·rw [h] at e
    injection e with e
    exact ⟨by omega, fun h => by have := HS6.out.lt b h; omega, h3⟩
  have hth4 := hth3.chgO hc4 (fun b e => (ho4 b e).1) (fun b e => by have := hob.2.1 b e; show ¬ b = gb; omega) (fun b e => by have := hob.2.2 b e; show ¬ b = gb; omega) fun b hb => hb.2.1
  have hS4 := ((HS6.out.c0 HC2.out).chg hc3 fun b hb e => by
   have h4 := hob.1 b e
   exact HT6A.out b (by omega) (fun h => by have := HLO.out b h; omega) hb).chg hc4 fun b hb e => hgb6 (by have e : b = gb := e; rw [← e]; exact hb)
  have hGT4 := ((HGT1.out.c0 HC2.out).chg hc3 (fun e => by have := (HOB.out.1 gt e).1; have := HGB.out; omega)).chg hc4 hGT
  have n4 := hc4.size
  have hch : Chg T w (x3.setCell ⟨gb, 1, none⟩ (.slice UA un uc)) := ((HCT.out.trans0 HC2.out).trans hc3 fun b hb e => by have := (hob.1 b e).1; have := HGB.out; omega).trans hc4 fun b hb e => by have e : b = gb := e; have := HNN.out.2.2.1; omega
  simp at hbb4
  clear hins hc3 hat3 hnk hbb3 hu hth3 b0 b1 b2 b3 f0 f1 f2 f3 hc4 HC2 HTH2
  generalize World.setCell x3 _ _ = x4 at hbb4 hth4 hS4 hGT4 n4 hch ⊢
  have HO4 := hide ho4
  have HBB4 := hide hbb4
  obtain ⟨⟨b0, b1, b2, b3⟩, f0, f1, f2, f3⟩ := blk4 hbb4
  have HTH4 := hide hth4
  have HS4 := hide (And.intro hS4 hGT4)
  have HCH4 := hide hch
  have HN4 := hide (show x1.heap.size ≤ x4.heap.size by omega)
  have HN3 := hide (show x3.heap.size ≤ x4.heap.size from n4)
  obtain ⟨m1, hm1⟩ : ∃ m', m' = m + 1 := ⟨_, rfl⟩
  have wm : IntKind.i64.wrap ((m : Int) + 1) = (m1 : Int) := by rw [IntWalk.i64_in _ (by omega)]; omega
  have HM1 := hide hm1
  have hgx := Blk.new x4 3 #[.int .i64 (o : Int)]
  have hcx := (Chg.refl Non x4).alloc (.cells #[.int .i64 (o : Int)] 3)
  have hnx := sizeAl' x4 (.cells #[.int .i64 (o : Int)] 3)
  clear hob hX hX2 n3 hbb4 hth4 hS4 hGT4 n4 hch hm1 ho4 HX2
  go_wp2_with fail
  obtain ⟨gy, hgye⟩ : ∃ g, g = x4.heap.size := ⟨_, rfl⟩
  rw [← hgye] at hgx hnx ⊢
  generalize World.alloc x4 _ = x5 at hgx hcx hnx ⊢
  have hth5 := HTH4.out.c0 hcx
  have hins := insI (i := m1) (n := (o : Int)) hth5.i (by have := HM.out.2.1; have := HM1.out; omega) (by rw [izs_len, HNF.out.2.1]; omega) hgx (fun e => by have := (HOB.out.2.2 gy e).2; have := HN4.out; have := HX01.out; omega) (by have := (HTH4.out.k.lt); have := HN4.out; have := HX01.out; omega)
  have HC5 := hide hcx
  have HTH5 := hide hth5
  have HX5 := hide (show x4.heap.size ≤ x5.heap.size by omega)
  clear b0 b1 b2 b3 f0 f1 f2 f3 hgx hcx hnx hth5 hgye
  go_upto_region 17 with (refine hins.mono ?_; rintro e x6 ⟨u, rfl, hu, hc6, hat6⟩; obtain ⟨ZA, zn, zc, rfl⟩ : ∃ A n c, u = .slice A n c := (by obtain ⟨A, c, h, _, _⟩ := hu.shape; exact ⟨A, _, c, h⟩); have hnk : (Value.slice (some ⟨ng, 0, none⟩) nn nc).ownBlock ≠ some gb := (fun e => by have := (HOB.out.2.2 gb e).2; omega); have hbb6 := (HBB4.out.c0 HC5.out).chg hc6 hnk; obtain ⟨⟨b0, b1, b2, b3⟩, f0, f1, f2, f3⟩ := blk4 hbb6)
  have hob := HOB.out
  have hX := HX01.out
  have hX5 := HX5.out
  have hX4 := HN4.out
  have hX3 := HN3.out
  have n6 := hc6.size
  have hth6 := HTH5.out.putI hu hc6 hat6
  have hbb7 := hbb6.set_ 3 (.slice ZA zn zc)
  have hc7 : Chg (fun b => b = gb) x6 (x6.setCell ⟨gb, 3, none⟩ (.slice ZA zn zc)) := Chg.setCell (p := ⟨gb, 3, none⟩) (Chg.refl (fun b => b = gb) x6) (fun _ => rfl) _
  have ho7 : ∀ b, (Value.slice ZA zn zc).ownBlock = some b → b ≠ gb ∧ ¬ T6 b := fun b e => by
   rcases hat6 with h | ⟨kk, h, h2⟩
   ·rw [h] at e
    have h4 := hob.2.2 b e
    exact ⟨by omega, HT6A.out b (by omega) (fun h => by have := HLO.out b h; omega)⟩
   ·rw [h] at e
    injection e with e
    exact ⟨by omega, fun h => by have := HS6.out.lt b h; omega⟩
  have hth7 := hth6.chgO hc7 (fun b e => (HO4.out b e).1) (fun b e => by have := hob.2.1 b e; show ¬ b = gb; omega) (fun b e => (ho7 b e).1) fun b hb => hb.2.1
  have hS7 := ((HS4.out.1.c0 HC5.out).chg hc6 fun b hb e => by
   have h4 := hob.2.2 b e
   exact HT6A.out b (by omega) (fun h => by have := HLO.out b h; omega) hb).chg hc7 fun b hb e => hgb6 (by have e : b = gb := e; rw [← e]; exact hb)
  have hGT7 := ((HS4.out.2.c0 HC5.out).chg hc6 (fun e => by have := (HOB.out.2.2 gt e).1; have := HGB.out; omega)).chg hc7 hGT
  have n7 := hc7.size
  have hch : Chg T w (x6.setCell ⟨gb, 3, none⟩ (.slice ZA zn zc)) := ((HCH4.out.trans0 HC5.out).trans hc6 fun b hb e => by have := (hob.2.2 b e).1; have := HGB.out; omega).trans hc7 fun b hb e => by have e : b = gb := e; have := HNN.out.2.2.1; omega
  simp at hbb7
  clear hins hc6 hat6 hnk hbb6 hu hth6 b0 b1 b2 b3 f0 f1 f2 f3 hc7 HC5 HTH5 HS4 HCH4 HTH4 HBB4
  generalize World.setCell x6 _ _ = x7 at hbb7 hth7 hS7 hGT7 n7 hch ⊢
  obtain ⟨⟨b0, b1, b2, b3⟩, _⟩ := blk4 hbb7
  have hE := HE2.out
  have hm0 := HM.out.1
  have hm1 := HM1.out
  have ek : (keysE (EA ++ (k0, x) :: EB)).take m ++ key :: (keysE (EA ++ (k0, x) :: EB)).drop m = keysE E2 := by rw [hm0]; exact hE.2.2.2.2.1.symm
  have ei : (izs (idsE (EA ++ (k0, x) :: EB))).take m1 ++ (o : Int) :: (izs (idsE (EA ++ (k0, x) :: EB))).drop m1 = izs (idsE E2) := by rw [hm1, hm0, hE.2.2.2.2.2]; simp [izs, List.map_take, List.map_drop]
  rw [ek, ei] at hth7
  have hE2n : (idsE E2).length = (keysE E2).length + 1 := by rw [idsE_len, hE.1.len]
  have hE2z : ∀ y ∈ idsE E2, y ≤ 65535 := fun y hy => by
   obtain ⟨e, he, rfl⟩ := List.mem_map.1 hy
   exact (hE.1.kid e he).root.2
  have hE2s : sizeIn (keysE E2) (idsE E2).length ≤ 579 := by rw [idsE_len]; exact hE.2.2.2.1
  have hst := tStoreI (F := fun b => ¬ T6 b) hS7 hGT7 hgt6 (HL6.out.2 id hi) (by omega) (by have := HL6.out.1; omega) (hth7.k.rd.mono fun b hb => hb.1.elim (fun h => h.1.2.2) fun h => (HO4.out b h).2.1) (hth7.v.rd.mono fun b hb => hb.1.elim (fun h => h.1.2.2) fun h => HT6A.out b (by have := hob.2.1 b h; omega) (fun h2 => by have := HLO.out b h2; have := hob.2.1 b h; omega)) (hth7.i.rd.mono fun b hb => (ho7 b hb.1).2) (fun b hb => hb) hE2n hE2z (upK_pw (keysE_up hE.1)) (keysE_len64 hE.1) hE2s
  have HE := hide hE
  have HFIN := hide (And.intro hch n7)
  have HN67 := hide (show x1.heap.size ≤ x7.heap.size ∧ w.heap.size ≤ x7.heap.size by have := hch.size; exact ⟨by omega, by omega⟩)
  clear hob hX hX5 hX4 hX3 n6 hbb7 hth7 hS7 hGT7 n7 hch ho7 HO4 hE hm0 hm1 ek ei hE2n hE2z hE2s HE2
  go_wp2_with (go_at_call 130; refine hst.mono ?_; rintro e x8 (⟨rfl, hsz8, hS8, hc8⟩ | ⟨T8, j, o8, ids8, kv8, key8, hj1, hj2, hz1, hz2, hke8, rfl, hO8⟩))
  ·have hE := HE.out
   have n8 := hc8.size
   have hn := HN67.out
   clear hst
   go_ret3
   obtain ⟨V, hTR⟩ := putI_fit hE.1 hE.2.2.1 n.lim (by rw [← idsE_len E2]; exact hsz8)
   refine ⟨_, ids6, _, hS8.le_q (by omega), fun b hb => ?_, HFIN.out.1.trans hc8 fun b hb h => ?_, by have := HL6.out.1; omega, HL6.out.2, .inl ⟨rfl, _, V, by rw [← hE.2.1]; exact hTR⟩⟩
   ·rcases hb with h | h
    ·rcases HSU.out b h with h | h
     ·exact .inl h
     ·exact .inr ⟨h.1, by omega⟩
    ·exact .inr (by omega)
   ·exact (HSU.out b h).elim (fun y => y) fun h9 => by omega
  ·obtain ⟨KA8, kn8, kc8, rfl⟩ : ∃ A n c, kv8 = .slice A n c := by obtain ⟨A, c, h, _, _⟩ := hO8.key.shape; exact ⟨A, _, c, h⟩
   have hE := HE.out
   have n8 := hO8.chg.size
   have hn := HN67.out
   clear hst
   go_ret3
   obtain ⟨p1', p2', l1', l2', V, t1, t2, q1, q2, q3, q4, q5, q6⟩ := putI_split hE.1 hE.2.2.1 n.lim hO8.fresh hO8.lim hO8.mem HL6.out.2 n.sub hj1 hj2 hz1 hz2 hke8 rfl
   refine ⟨T8, ids8, _, hO8.ts.le_q (by omega), fun b hb => ?_, HFIN.out.1.trans hO8.chg fun b hb h => ?_, by have := HL6.out.1; have := hO8.len; omega, fun j hj => (hO8.mem j).2 (.inr (HL6.out.2 j hj)), .inr ⟨o8, p1', p2', l1', l2', KA8, kn8, kc8, key8, rfl, V, t1, t2, by rw [q1]; exact hE.2.1, q2, q3, q4, q5, q6, hO8.key.mono fun b hb => ⟨by omega, hb.2⟩⟩⟩
   ·rcases hO8.sub b hb with h | h
    ·rcases HSU.out b h with h | h
     ·exact .inl h
     ·exact .inr ⟨h.1, by omega⟩
    ·exact .inr (by omega)
   ·exact (HSU.out b h).elim (fun y => y) fun h9 => by omega
end
theorem tPutT : ∀ h, PutAt h
 | 0 => tPut0
 | h + 1 => fun hS hb hgt hT hnd hin hq hid hd hx hy hG hk hv => by
  obtain ⟨E, n, rfl, rfl⟩ := hT.nod hnd hin
  exact tPutI (tPutT h) hS hb hgt n (by omega) (by omega) (by omega) hx hy hG hk hv
end Go.Proofs.YtliimeoblffigaaGreat

