/- The walks of btree's put and drop below the deepest level: they answer an error. -/
import Derived.Test.YtliimeoblffigaaGreatTsRG
open List renaming getElem_toArray → lz1, getElem_cons_succ → lz2, getElem_cons_zero → lz3, setIfInBounds_toArray → lz4, set_cons_zero → lz5, set_cons_succ → lz6
set_option linter.unusedVariables false
set_option linter.unusedSimpArgs false
set_option maxRecDepth 100000
namespace Go.Proofs.YtliimeoblffigaaGreat
open Go.RowKit Go.Maps
set_option linter.unusedVariables false
set_option linter.unusedSimpArgs false

/-- a call that went too deep: it answers e0, and the tree stands as it did -/
def FailP (w : World) (T : Nat → Prop) (g hand : Nat) (pre : ByteArray) (q : Nat) (ids : List Nat) (ct : Nat → List UInt8) (e0 e : Ending) (w' : World) : Prop :=
 e = e0 ∧ ∃ T' : Nat → Prop, TS w' T' g hand pre q ids ct ∧ (∀ b, T' b → Ext T w w' b) ∧ Chg T w w'
section
variable {w : World} {T G : Nat → Prop} {g hand q gt id d h : Nat} {root : Int} {pre : ByteArray} {ids : List Nat} {ct : Nat → List UInt8} {k v : List UInt8} {XA YA : Option Addr} {xn xc yn yc : Nat}
set_option maxHeartbeats 16000000 in
theorem tPutDeepL {l : List KV} (hS : TS w T g hand pre q ids ct) (hb : Blk w gt 121 #[.pointer (some ⟨g, 0, none⟩), .int .i64 root]) (hgt : ¬ T gt) (hct : ct id = pageKV l) (hil : id ≤ 65535) (hg : GoodKV l) (hs : sizeKV l ≤ 512) (hi : id ∈ ids) (hq : q + 3 ≤ 900000) (hd : d = 65) (hx : RdB w G (.slice XA xn xc) k) (hy : RdB w G (.slice YA yn yc) v) (hG : ∀ b, G b → ¬ T b) :
  Calls Tryz.prog 90 #[.pointer (some ⟨gt, 0, none⟩), .int .i64 (id : Int), .int .i64 (d : Int), .agg #[.slice XA xn xc, .slice YA yn yc, .bool false]] w (FailP w T g hand pre (q + 1) ids ct (.returned (.tuple #[.slice none 0 0, .int .i64 (-1), .int .i64 3]))) := by
 unfold FailP
 have hr := Blk.new w 86 #[.slice XA xn xc, .slice YA yn yc, .bool false]
 have hcr := (Chg.refl Non w).alloc (.cells #[.slice XA xn xc, .slice YA yn yc, .bool false] 86)
 have hnr := sizeAl' w (.cells #[.slice XA xn xc, .slice YA yn yc, .bool false] 86)
 have hTl := hS.lt
 go_enter Tryz.func90, Tryz.ntmps90
 go_upto_region 1 with fail
 obtain ⟨N, hN⟩ : ∃ N, N = w.heap.size := ⟨_, rfl⟩
 have hS1 := hS.c0 hcr
 have hb1 := hb.c0 hcr
 have hx1 := (hx.c0 hcr).lt
 have hy1 := (hy.c0 hcr).lt
 rw [← hN] at hr hnr ⊢
 have HN := hide (And.intro hN hnr)
 clear hS hb hN hnr
 generalize World.alloc w _ = w1 at hr hcr hS1 hb1 hx1 hy1 HN ⊢
 have hch := tChildL hS1 hb1 hgt hi (by omega) hct hg hs
 have HR := hide hr
 have HC1 := hide hcr
 have HTL := hide hTl
 have HX1 := hide (And.intro hx1 hy1)
 have HB1 := hide hb1
 clear hr hcr hS1 hb1 hTl hx1 hy1 hx hy
 go_upto_region 2 with (go_at_call 92; refine hch.mono ?_; rintro e w2 ⟨T2, B, KA, kn, kc, VA, vn, vc, NA, nn, nc, rfl, hO⟩)
 have hbb := Blk.new w2 125 #[.bool true, .slice KA kn kc, .slice VA vn vc, .slice NA nn nc]
 have hcB := (Chg.refl Non w2).alloc (.cells #[.bool true, .slice KA kn kc, .slice VA vn vc, .slice NA nn nc] 125)
 have hnB := sizeAl' w2 (.cells #[.bool true, .slice KA kn kc, .slice VA vn vc, .slice NA nn nc] 125)
 have hO3 := (hO.back HC1.out).c0 hcB
 obtain ⟨gb, hgb⟩ : ∃ g, g = w2.heap.size := ⟨_, rfl⟩
 have hnN : N ≠ gb ∧ ¬ T2 gb ∧ w.heap.size ≤ gb ∧ ¬ T N ∧ w1.heap.size ≤ gb := by
  have h1 := HN.out
  have h2 := hO.chg.size
  refine ⟨by omega, fun h => ?_, by omega, fun h => ?_, by omega⟩
  ·have := hO.ts.lt gb h; omega
  ·have := HTL.out N h; omega
 have hr3 := (HR.out.chg hO.chg hnN.2.2.2.1).c0 hcB
 have hx3 := (HX1.out.1.chg hO.chg fun b hb => hG b hb.1).c0 hcB
 have hy3 := (HX1.out.2.chg hO.chg fun b hb => hG b hb.1).c0 hcB
 have hb3 := (HB1.out.chg hO.chg hgt).c0 hcB
 have hgt2 : ¬ T2 gt := fun h => by
  rcases hO.sub gt h with h | h
  ·exact hgt h
  ·have := HB1.out.lt; omega
 have hGT : gt ≠ gb := fun e => by have := HB1.out.lt; have := hO.chg.size; omega
 have hkb := (hO.k.c0 hcB).mono (F' := fun b => B ≤ b ∧ b ≠ gb) fun b hb => ⟨hb.1, by omega⟩
 have hvb := (hO.v.c0 hcB).mono (F' := fun b => B ≤ b ∧ b ≠ gb) fun b hb => ⟨hb.1, by omega⟩
 have hnb := (hO.n.c0 hcB).mono (F' := fun b => B ≤ b ∧ b ≠ gb) fun b hb => ⟨hb.1, by omega⟩
 rw [← hgb] at hbb hnB ⊢
 have hlo9 : ∀ b, T2 b → b < B := hO.low
 generalize World.alloc w2 _ = w3 at hbb hcB hO3 hr3 hx3 hy3 hb3 hkb hvb hnb hnB ⊢
 have hgb3 : gb < w3.heap.size := by omega
 have d1 : decide (64 < (d : Int)) = true := decide_eq_true (by omega)
 have d2 : decide ((d : Int) > 64) = true := decide_eq_true (by omega)
 have HO3 := hide hO3
 clear hch hO hO3 hcB hbb hkb hvb hnb hgb hlo9 hb3 hnB hgb3 hnN HB1 HX1 hgt2 hGT hx3 HR HC1 hr3 hy3 HN HTL
 go_wp2_with fail
 go_ret3
 exact ⟨rfl, T2, HO3.out.ts, HO3.out.sub, HO3.out.chg⟩
set_option maxHeartbeats 16000000 in
theorem tPutDeepI {E : List Ent} (hS : TS w T g hand pre q ids ct) (hb : Blk w gt 121 #[.pointer (some ⟨g, 0, none⟩), .int .i64 root]) (hgt : ¬ T gt) (n : Nod ct ids h id E) (hq : q + 3 ≤ 900000) (hd : d = 65) (hx : RdB w G (.slice XA xn xc) k) (hy : RdB w G (.slice YA yn yc) v) (hG : ∀ b, G b → ¬ T b) :
  Calls Tryz.prog 90 #[.pointer (some ⟨gt, 0, none⟩), .int .i64 (id : Int), .int .i64 (d : Int), .agg #[.slice XA xn xc, .slice YA yn yc, .bool false]] w (FailP w T g hand pre (q + 1) ids ct (.returned (.tuple #[.slice none 0 0, .int .i64 (-1), .int .i64 3]))) := by
 unfold FailP
 have nf := nod_facts n
 have hi : id ∈ ids := n.sub id (by simp)
 have hr := Blk.new w 86 #[.slice XA xn xc, .slice YA yn yc, .bool false]
 have hcr := (Chg.refl Non w).alloc (.cells #[.slice XA xn xc, .slice YA yn yc, .bool false] 86)
 have hnr := sizeAl' w (.cells #[.slice XA xn xc, .slice YA yn yc, .bool false] 86)
 have hTl := hS.lt
 go_enter Tryz.func90, Tryz.ntmps90
 go_upto_region 1 with fail
 obtain ⟨N, hN⟩ : ∃ N, N = w.heap.size := ⟨_, rfl⟩
 have hS1 := hS.c0 hcr
 have hb1 := hb.c0 hcr
 have hx1 := (hx.c0 hcr).lt
 have hy1 := (hy.c0 hcr).lt
 rw [← hN] at hr hnr ⊢
 have HN := hide (And.intro hN hnr)
 clear hS hb hN hnr
 generalize World.alloc w _ = w1 at hr hcr hS1 hb1 hx1 hy1 HN ⊢
 have hch := tChildI hS1 hb1 hgt hi (by omega) nf.1 nf.2.1 nf.2.2.1 nf.2.2.2.1 nf.2.2.2.2.1 nf.2.2.2.2.2
 have HR := hide hr
 have HC1 := hide hcr
 have HTL := hide hTl
 have HX1 := hide (And.intro hx1 hy1)
 have HB1 := hide hb1
 clear hr hcr hS1 hb1 hTl hx1 hy1 hx hy
 go_upto_region 2 with (go_at_call 92; refine hch.mono ?_; rintro e w2 ⟨T2, B, KA, kn, kc, VA, vn, vc, NA, nn, nc, rfl, hO⟩)
 have hbb := Blk.new w2 125 #[.bool false, .slice KA kn kc, .slice VA vn vc, .slice NA nn nc]
 have hcB := (Chg.refl Non w2).alloc (.cells #[.bool false, .slice KA kn kc, .slice VA vn vc, .slice NA nn nc] 125)
 have hnB := sizeAl' w2 (.cells #[.bool false, .slice KA kn kc, .slice VA vn vc, .slice NA nn nc] 125)
 have hO3 := (hO.back HC1.out).c0 hcB
 obtain ⟨gb, hgb⟩ : ∃ g, g = w2.heap.size := ⟨_, rfl⟩
 have hnN : N ≠ gb ∧ ¬ T2 gb ∧ w.heap.size ≤ gb ∧ ¬ T N ∧ w1.heap.size ≤ gb := by
  have h1 := HN.out
  have h2 := hO.chg.size
  refine ⟨by omega, fun h => ?_, by omega, fun h => ?_, by omega⟩
  ·have := hO.ts.lt gb h; omega
  ·have := HTL.out N h; omega
 have hr3 := (HR.out.chg hO.chg hnN.2.2.2.1).c0 hcB
 have hx3 := (HX1.out.1.chg hO.chg fun b hb => hG b hb.1).c0 hcB
 have hy3 := (HX1.out.2.chg hO.chg fun b hb => hG b hb.1).c0 hcB
 have hb3 := (HB1.out.chg hO.chg hgt).c0 hcB
 have hgt2 : ¬ T2 gt := fun h => by
  rcases hO.sub gt h with h | h
  ·exact hgt h
  ·have := HB1.out.lt; omega
 have hGT : gt ≠ gb := fun e => by have := HB1.out.lt; have := hO.chg.size; omega
 have hkb := (hO.k.c0 hcB).mono (F' := fun b => B ≤ b ∧ b ≠ gb) fun b hb => ⟨hb.1, by omega⟩
 have hvb := (hO.v.c0 hcB).mono (F' := fun b => B ≤ b ∧ b ≠ gb) fun b hb => ⟨hb.1, by omega⟩
 have hnb := (hO.n.c0 hcB).mono (F' := fun b => B ≤ b ∧ b ≠ gb) fun b hb => ⟨hb.1, by omega⟩
 rw [← hgb] at hbb hnB ⊢
 have hlo9 : ∀ b, T2 b → b < B := hO.low
 generalize World.alloc w2 _ = w3 at hbb hcB hO3 hr3 hx3 hy3 hb3 hkb hvb hnb hnB ⊢
 have hgb3 : gb < w3.heap.size := by omega
 have d1 : decide (64 < (d : Int)) = true := decide_eq_true (by omega)
 have d2 : decide ((d : Int) > 64) = true := decide_eq_true (by omega)
 have HO3 := hide hO3
 clear hch hO hO3 hcB hbb hkb hvb hnb hgb hlo9 hb3 hnB hgb3 hnN HB1 HX1 hgt2 hGT hx3 HR HC1 hr3 hy3 HN HTL nf
 go_wp2_with fail
 go_ret3
 exact ⟨rfl, T2, HO3.out.ts, HO3.out.sub, HO3.out.chg⟩
set_option maxHeartbeats 16000000 in
theorem tDropDeepL {l : List KV} (hS : TS w T g hand pre q ids ct) (hb : Blk w gt 121 #[.pointer (some ⟨g, 0, none⟩), .int .i64 root]) (hgt : ¬ T gt) (hct : ct id = pageKV l) (hil : id ≤ 65535) (hg : GoodKV l) (hs : sizeKV l ≤ 512) (hi : id ∈ ids) (hq : q + 3 ≤ 900000) (hd : d = 65) (hx : RdB w G (.slice XA xn xc) k) (hG : ∀ b, G b → ¬ T b) :
  Calls Tryz.prog 88 #[.pointer (some ⟨gt, 0, none⟩), .int .i64 (id : Int), .int .i64 (d : Int), .slice XA xn xc] w (FailP w T g hand pre (q + 1) ids ct (.returned (.tuple #[.bool false, .int .i64 3]))) := by
 unfold FailP
 have hTl := hS.lt
 have hx1 := hx.lt
 have hch := tChildL hS hb hgt hi (by omega) hct hg hs
 have HTL := hide hTl
 have HX1 := hide hx1
 have HB1 := hide hb
 clear hS hb hTl hx1 hx
 go_enter Tryz.func88, Tryz.ntmps88
 go_upto_region 2 with (go_at_call 92; refine hch.mono ?_; rintro e w2 ⟨T2, B, KA, kn, kc, VA, vn, vc, NA, nn, nc, rfl, hO⟩)
 have hbb := Blk.new w2 125 #[.bool true, .slice KA kn kc, .slice VA vn vc, .slice NA nn nc]
 have hcB := (Chg.refl Non w2).alloc (.cells #[.bool true, .slice KA kn kc, .slice VA vn vc, .slice NA nn nc] 125)
 have hnB := sizeAl' w2 (.cells #[.bool true, .slice KA kn kc, .slice VA vn vc, .slice NA nn nc] 125)
 have hO3 := hO.c0 hcB
 obtain ⟨gb, hgb⟩ : ∃ g, g = w2.heap.size := ⟨_, rfl⟩
 have hnN : ¬ T2 gb ∧ w.heap.size ≤ gb := by
  have h2 := hO.chg.size
  refine ⟨fun h => ?_, by omega⟩
  have := hO.ts.lt gb h; omega
 have hx3 := (HX1.out.chg hO.chg fun b hb => hG b hb.1).c0 hcB
 have hb3 := (HB1.out.chg hO.chg hgt).c0 hcB
 have hgt2 : ¬ T2 gt := fun h => by
  rcases hO.sub gt h with h | h
  ·exact hgt h
  ·have := HB1.out.lt; omega
 have hGT : gt ≠ gb := fun e => by have := HB1.out.lt; have := hO.chg.size; omega
 have hkb := (hO.k.c0 hcB).mono (F' := fun b => B ≤ b ∧ b ≠ gb) fun b hb => ⟨hb.1, by omega⟩
 have hvb := (hO.v.c0 hcB).mono (F' := fun b => B ≤ b ∧ b ≠ gb) fun b hb => ⟨hb.1, by omega⟩
 have hnb := (hO.n.c0 hcB).mono (F' := fun b => B ≤ b ∧ b ≠ gb) fun b hb => ⟨hb.1, by omega⟩
 rw [← hgb] at hbb hnB ⊢
 have hlo9 : ∀ b, T2 b → b < B := hO.low
 have HGB := hide (show gt < B ∧ w.heap.size ≤ B from ⟨by have := HB1.out.lt; have := hO.lo; omega, hO.lo⟩)
 generalize World.alloc w2 _ = w3 at hbb hcB hO3 hx3 hb3 hkb hvb hnb hnB ⊢
 have hgb3 : gb < w3.heap.size := by omega
 have d1 : decide (64 < (d : Int)) = true := decide_eq_true (by omega)
 have d2 : decide ((d : Int) > 64) = true := decide_eq_true (by omega)
 have HO3 := hide hO3
 clear hch hO hO3 hcB hbb hkb hvb hnb hgb hlo9 hb3 hnB hgb3 hnN HB1 HX1 hgt2 hGT hx3 HTL HGB
 go_wp2_with fail
 go_ret2
 exact ⟨rfl, T2, HO3.out.ts, HO3.out.sub, HO3.out.chg⟩
set_option maxHeartbeats 16000000 in
theorem tDropDeepI {E : List Ent} (hS : TS w T g hand pre q ids ct) (hb : Blk w gt 121 #[.pointer (some ⟨g, 0, none⟩), .int .i64 root]) (hgt : ¬ T gt) (n : Nod ct ids h id E) (hq : q + 3 ≤ 900000) (hd : d = 65) (hx : RdB w G (.slice XA xn xc) k) (hG : ∀ b, G b → ¬ T b) :
  Calls Tryz.prog 88 #[.pointer (some ⟨gt, 0, none⟩), .int .i64 (id : Int), .int .i64 (d : Int), .slice XA xn xc] w (FailP w T g hand pre (q + 1) ids ct (.returned (.tuple #[.bool false, .int .i64 3]))) := by
 unfold FailP
 have nf := nod_facts n
 have hi : id ∈ ids := n.sub id (by simp)
 have hTl := hS.lt
 have hx1 := hx.lt
 have hch := tChildI hS hb hgt hi (by omega) nf.1 nf.2.1 nf.2.2.1 nf.2.2.2.1 nf.2.2.2.2.1 nf.2.2.2.2.2
 have HTL := hide hTl
 have HX1 := hide hx1
 have HB1 := hide hb
 clear hS hb hTl hx1 hx
 go_enter Tryz.func88, Tryz.ntmps88
 go_upto_region 2 with (go_at_call 92; refine hch.mono ?_; rintro e w2 ⟨T2, B, KA, kn, kc, VA, vn, vc, NA, nn, nc, rfl, hO⟩)
 have hbb := Blk.new w2 125 #[.bool false, .slice KA kn kc, .slice VA vn vc, .slice NA nn nc]
 have hcB := (Chg.refl Non w2).alloc (.cells #[.bool false, .slice KA kn kc, .slice VA vn vc, .slice NA nn nc] 125)
 have hnB := sizeAl' w2 (.cells #[.bool false, .slice KA kn kc, .slice VA vn vc, .slice NA nn nc] 125)
 have hO3 := hO.c0 hcB
 obtain ⟨gb, hgb⟩ : ∃ g, g = w2.heap.size := ⟨_, rfl⟩
 have hnN : ¬ T2 gb ∧ w.heap.size ≤ gb := by
  have h2 := hO.chg.size
  refine ⟨fun h => ?_, by omega⟩
  have := hO.ts.lt gb h; omega
 have hx3 := (HX1.out.chg hO.chg fun b hb => hG b hb.1).c0 hcB
 have hb3 := (HB1.out.chg hO.chg hgt).c0 hcB
 have hgt2 : ¬ T2 gt := fun h => by
  rcases hO.sub gt h with h | h
  ·exact hgt h
  ·have := HB1.out.lt; omega
 have hGT : gt ≠ gb := fun e => by have := HB1.out.lt; have := hO.chg.size; omega
 have hkb := (hO.k.c0 hcB).mono (F' := fun b => B ≤ b ∧ b ≠ gb) fun b hb => ⟨hb.1, by omega⟩
 have hvb := (hO.v.c0 hcB).mono (F' := fun b => B ≤ b ∧ b ≠ gb) fun b hb => ⟨hb.1, by omega⟩
 have hnb := (hO.n.c0 hcB).mono (F' := fun b => B ≤ b ∧ b ≠ gb) fun b hb => ⟨hb.1, by omega⟩
 rw [← hgb] at hbb hnB ⊢
 have hlo9 : ∀ b, T2 b → b < B := hO.low
 have HGB := hide (show gt < B ∧ w.heap.size ≤ B from ⟨by have := HB1.out.lt; have := hO.lo; omega, hO.lo⟩)
 generalize World.alloc w2 _ = w3 at hbb hcB hO3 hx3 hb3 hkb hvb hnb hnB ⊢
 have hgb3 : gb < w3.heap.size := by omega
 have d1 : decide (64 < (d : Int)) = true := decide_eq_true (by omega)
 have d2 : decide ((d : Int) > 64) = true := decide_eq_true (by omega)
 have HO3 := hide hO3
 clear hch hO hO3 hcB hbb hkb hvb hnb hgb hlo9 hb3 hnB hgb3 hnN HB1 HX1 hgt2 hGT hx3 HTL HGB nf
 go_wp2_with fail
 go_ret2
 exact ⟨rfl, T2, HO3.out.ts, HO3.out.sub, HO3.out.chg⟩
end
/-- what put does with m levels to go, at a tree that is deeper -/
def PutDeep (m : Nat) : Prop := ∀ {w : World} {T G : Nat → Prop} {g hand q gt id d h : Nat} {root : Int} {pre : ByteArray} {ids : List Nat} {ct : Nat → List UInt8} {k v : List UInt8} {XA YA : Option Addr} {xn xc yn yc : Nat} {ps : List Nat} {l : List KV} (_ : TS w T g hand pre q ids ct) (_ : Blk w gt 121 #[.pointer (some ⟨g, 0, none⟩), .int .i64 root]) (_ : ¬ T gt) (_ : TR ct h id ps l) (_ : ps.Nodup) (_ : ∀ j ∈ ps, j ∈ ids) (_ : q + m + 5 ≤ 900000) (_ : d + m = 65) (_ : 65 ≤ d + h) (_ : RdB w G (.slice XA xn xc) k) (_ : RdB w G (.slice YA yn yc) v) (_ : ∀ b, G b → ¬ T b),
  Calls Tryz.prog 90 #[.pointer (some ⟨gt, 0, none⟩), .int .i64 (id : Int), .int .i64 (d : Int), .agg #[.slice XA xn xc, .slice YA yn yc, .bool false]] w (FailP w T g hand pre (q + m + 1) ids ct (.returned (.tuple #[.slice none 0 0, .int .i64 (-1), .int .i64 3])))
def DropDeep (m : Nat) : Prop := ∀ {w : World} {T G : Nat → Prop} {g hand q gt id d h : Nat} {root : Int} {pre : ByteArray} {ids : List Nat} {ct : Nat → List UInt8} {k : List UInt8} {XA : Option Addr} {xn xc : Nat} {ps : List Nat} {l : List KV} (_ : TS w T g hand pre q ids ct) (_ : Blk w gt 121 #[.pointer (some ⟨g, 0, none⟩), .int .i64 root]) (_ : ¬ T gt) (_ : TR ct h id ps l) (_ : ps.Nodup) (_ : ∀ j ∈ ps, j ∈ ids) (_ : q + m + 5 ≤ 900000) (_ : d + m = 65) (_ : 65 ≤ d + h) (_ : RdB w G (.slice XA xn xc) k) (_ : ∀ b, G b → ¬ T b),
  Calls Tryz.prog 88 #[.pointer (some ⟨gt, 0, none⟩), .int .i64 (id : Int), .int .i64 (d : Int), .slice XA xn xc] w (FailP w T g hand pre (q + m + 1) ids ct (.returned (.tuple #[.bool false, .int .i64 3])))
section
variable {w : World} {T G : Nat → Prop} {g hand q gt id d h : Nat} {root : Int} {pre : ByteArray} {ids : List Nat} {ct : Nat → List UInt8} {k v : List UInt8} {XA YA : Option Addr} {xn xc yn yc : Nat}
set_option maxHeartbeats 16000000 in
theorem tPutDeep1 {E : List Ent} {m9 : Nat} (IH : PutDeep m9) (hS : TS w T g hand pre q ids ct) (hb : Blk w gt 121 #[.pointer (some ⟨g, 0, none⟩), .int .i64 root]) (hgt : ¬ T gt) (n : Nod ct ids h id E) (hq : q + m9 + 6 ≤ 900000) (hdm : d + m9 = 64) (hdh : 65 ≤ d + h + 1) (hx : RdB w G (.slice XA xn xc) k) (hy : RdB w G (.slice YA yn yc) v) (hG : ∀ b, G b → ¬ T b) :
  Calls Tryz.prog 90 #[.pointer (some ⟨gt, 0, none⟩), .int .i64 (id : Int), .int .i64 (d : Int), .agg #[.slice XA xn xc, .slice YA yn yc, .bool false]] w (FailP w T g hand pre (q + m9 + 2) ids ct (.returned (.tuple #[.slice none 0 0, .int .i64 (-1), .int .i64 3]))) := by
 unfold FailP
 have nf := nod_facts n
 have hi : id ∈ ids := n.sub id (by simp)
 have hr := Blk.new w 86 #[.slice XA xn xc, .slice YA yn yc, .bool false]
 have hcr := (Chg.refl Non w).alloc (.cells #[.slice XA xn xc, .slice YA yn yc, .bool false] 86)
 have hnr := sizeAl' w (.cells #[.slice XA xn xc, .slice YA yn yc, .bool false] 86)
 have hTl := hS.lt
 go_enter Tryz.func90, Tryz.ntmps90
 go_upto_region 1 with fail
 obtain ⟨N, hN⟩ : ∃ N, N = w.heap.size := ⟨_, rfl⟩
 have hS1 := hS.c0 hcr
 have hb1 := hb.c0 hcr
 have hx1 := (hx.c0 hcr).lt
 have hy1 := (hy.c0 hcr).lt
 rw [← hN] at hr hnr ⊢
 have HN := hide (And.intro hN hnr)
 clear hS hb hN hnr
 generalize World.alloc w _ = w1 at hr hcr hS1 hb1 hx1 hy1 HN ⊢
 have hch := tChildI hS1 hb1 hgt hi (by omega) nf.1 nf.2.1 nf.2.2.1 nf.2.2.2.1 nf.2.2.2.2.1 nf.2.2.2.2.2
 have HR := hide hr
 have HC1 := hide hcr
 have HTL := hide hTl
 have HX1 := hide (And.intro hx1 hy1)
 have HB1 := hide hb1
 clear hr hcr hS1 hb1 hTl hx1 hy1 hx hy
 go_upto_region 2 with (go_at_call 92; refine hch.mono ?_; rintro e w2 ⟨T2, B, KA, kn, kc, VA, vn, vc, NA, nn, nc, rfl, hO⟩)
 have hbb := Blk.new w2 125 #[.bool false, .slice KA kn kc, .slice VA vn vc, .slice NA nn nc]
 have hcB := (Chg.refl Non w2).alloc (.cells #[.bool false, .slice KA kn kc, .slice VA vn vc, .slice NA nn nc] 125)
 have hnB := sizeAl' w2 (.cells #[.bool false, .slice KA kn kc, .slice VA vn vc, .slice NA nn nc] 125)
 have hO3 := (hO.back HC1.out).c0 hcB
 obtain ⟨gb, hgb⟩ : ∃ g, g = w2.heap.size := ⟨_, rfl⟩
 have hnN : N ≠ gb ∧ ¬ T2 gb ∧ w.heap.size ≤ gb ∧ ¬ T N ∧ w1.heap.size ≤ gb := by
  have h1 := HN.out
  have h2 := hO.chg.size
  refine ⟨by omega, fun h => ?_, by omega, fun h => ?_, by omega⟩
  ·have := hO.ts.lt gb h; omega
  ·have := HTL.out N h; omega
 have hr3 := (HR.out.chg hO.chg hnN.2.2.2.1).c0 hcB
 have hx3 := (HX1.out.1.chg hO.chg fun b hb => hG b hb.1).c0 hcB
 have hy3 := (HX1.out.2.chg hO.chg fun b hb => hG b hb.1).c0 hcB
 have hb3 := (HB1.out.chg hO.chg hgt).c0 hcB
 have hgt2 : ¬ T2 gt := fun h => by
  rcases hO.sub gt h with h | h
  ·exact hgt h
  ·have := HB1.out.lt; omega
 have hGT : gt ≠ gb := fun e => by have := HB1.out.lt; have := hO.chg.size; omega
 have hkb := (hO.k.c0 hcB).mono (F' := fun b => B ≤ b ∧ b ≠ gb) fun b hb => ⟨hb.1, by omega⟩
 have hvb := (hO.v.c0 hcB).mono (F' := fun b => B ≤ b ∧ b ≠ gb) fun b hb => ⟨hb.1, by omega⟩
 have hnb := (hO.n.c0 hcB).mono (F' := fun b => B ≤ b ∧ b ≠ gb) fun b hb => ⟨hb.1, by omega⟩
 rw [← hgb] at hbb hnB ⊢
 have hlo9 : ∀ b, T2 b → b < B := hO.low
 generalize World.alloc w2 _ = w3 at hbb hcB hO3 hr3 hx3 hy3 hb3 hkb hvb hnb hnB ⊢
 have hgb3 : gb < w3.heap.size := by omega
 have hkl : (keysE E).length ≤ 600 := by have := sizeIn_len (keysE E) (idsE E).length; have := nf.2.2.2.2.2; omega
 have hwy := btWay (lf := false) (VA := VA) (vn := vn) (vc := vc) (NA := NA) (nn := nn) (nc := nc) hkb hx3 (keysE_up n.brn) (by omega)
 have d1 : decide (64 < (d : Int)) = false := decide_eq_false (by omega)
 have d2 : decide ((d : Int) > 64) = false := decide_eq_false (by omega)
 have hT2 := (hO.own rfl).fit
 have ob : (∀ b, (Value.slice KA kn kc).ownBlock = some b → B ≤ b ∧ b < gb) ∧ (∀ b, (Value.slice VA vn vc).ownBlock = some b → B ≤ b ∧ b < gb) ∧ (∀ b, (Value.slice NA nn nc).ownBlock = some b → B ≤ b ∧ b < gb) := by
  rw [hgb]
  exact ⟨hT2.k.lt, hT2.v.lt, hT2.i.lt⟩
 rw [← hgb] at hT2
 have hT3 := hT2.c0 hcB
 have HOB := hide ob
 have HT3 := hide hT3
 have HNF := hide nf
 have HGB := hide (show gt < B ∧ w.heap.size ≤ B from ⟨by have := HB1.out.lt; have := hO.lo; omega, by have := hO.lo; have := HN.out; omega⟩)
 have hgx : ∀ b, (G b ∧ b < w1.heap.size) → ¬ T2 b := fun b hb h => by
  rcases hO.sub b h with h | h
  ·exact hG b hb.1 h
  ·omega
 have HGX := hide hgx
 clear hgx
 have HLO := hide hlo9
 have hO9 : TS w3 T2 g hand pre (q + 1) ids ct ∧ Blk w3 gt 121 #[.pointer (some ⟨g, 0, none⟩), .int .i64 root] ∧ Chg T w w3 := ⟨hO3.ts, hb3, hO3.chg⟩
 have HSUB := hide hO3.sub
 obtain ⟨r0, r1, r2⟩ := blk3 hr3
 obtain ⟨⟨b0, b1, b2, b3⟩, _⟩ := blk4 hbb
 have HBB := hide hbb
 have HR3 := hide hr3
 have HX3 := hide (And.intro hx3 hy3)
 have HO9 := hide hO9
 have HNN := hide hnN
 clear hch hO hO3 hcB hbb hr3 hx3 hy3 hkb hvb hnb hO9 hgb hlo9 hb3 HB1 HX1 HR HC1 hnN hT2 ob hT3 nf
 go_upto_region 12 with (go_at_call 93; refine hwy.mono ?_; rintro e w4 ⟨i, ok, he, hf, hc4⟩; obtain ⟨EA, EB, k0, x, hE, hlen, wy⟩ := n.brn.way hf; rw [← hlen] at he; subst he; clear hlen)
 subst hE
 obtain ⟨kx1, kx2, kx3, kx4, kx5⟩ := kid_at n
 obtain ⟨m, hm⟩ : ∃ m, m = EA.length := ⟨_, rfl⟩
 rw [← hm] at kx1 kx2 ⊢
 obtain ⟨ng, nc', hna, hng, hcl0⟩ := HT3.out.i.at_ (k := m) (by rw [izs_len]; exact kx2)
 injection hna with hna hnn hnc'
 subst hna
 have hmn : m < nn := by rw [hnn, izs_len]; exact kx2
 have hm5 : m ≤ 600 := by rw [HNF.out.2.1] at kx2; omega
 have HM := hide (And.intro hm (And.intro hnn kx1))
 have HKX := hide (And.intro kx3 (And.intro kx4 kx5))
 obtain ⟨d1x, hd1x⟩ : ∃ d', d' = d + 1 := ⟨_, rfl⟩
 have wd : IntKind.i64.wrap ((d : Int) + 1) = (d1x : Int) := by rw [IntWalk.i64_in _ (by omega)]; omega
 have HD := hide hd1x
 have HC4 := hide hc4
 clear hcl0 hm hnn hnc' kx1 kx2 kx3 kx4 kx5 hd1x hf b0 b1 b2 b3 r0 r1 r2 hwy hc4
 refine wp_region_T (Chg Non w4) 9 (by kernel_rfl) ?_
 have HW0 := hide ((Chg.refl Non w4).drew)
 generalize World.drew w4 = x0 at HW0 ⊢
 refine AnyT.takeM (i := 0) (v := ?_) rfl (by kernel_rfl) (by kernel_rfl) (fun _ _ _ h => h) (by kernel_rfl) (by kernel_rfl) (Or.inl ⟨by rfl, ?_⟩) HW0.out ?_
 rotate_left
 ·(intro w9 h9; go_simp; try with_reducible rfl)
 try simp only [lz1, lz2, lz3, Act.put, lz4, lz5, lz6]
 refine AnyT.takeM (i := 1) (v := ?_) rfl (by kernel_rfl) (by kernel_rfl) (fun _ _ _ h => h) (by kernel_rfl) (by kernel_rfl) (Or.inl ⟨by rfl, ?_⟩) HW0.out ?_
 rotate_left
 ·(intro w9 h9; go_simp; try with_reducible rfl)
 try simp only [lz1, lz2, lz3, Act.put, lz4, lz5, lz6]
 refine AnyT.takeM (i := 2) (v := ?_) rfl (by kernel_rfl) (by kernel_rfl) (fun _ _ _ h => h) (by kernel_rfl) (by kernel_rfl) (Or.inl ⟨by rfl, ?_⟩) HW0.out ?_
 rotate_left
 ·(intro w9 h9; obtain ⟨⟨y0, y1, y2, y3⟩, _⟩ := blk4 ((HBB.out.c0 HC4.out).c0 h9); go_simp; try with_reducible rfl)
 try simp only [lz1, lz2, lz3, Act.put, lz4, lz5, lz6]
 refine AnyT.takeM (i := 3) (v := ?_) rfl (by kernel_rfl) (by kernel_rfl) (fun _ _ _ h => h) (by kernel_rfl) (by kernel_rfl) (Or.inl ⟨by rfl, ?_⟩) HW0.out ?_
 rotate_left
 ·(intro w9 h9; go_simp; try with_reducible rfl)
 try simp only [lz1, lz2, lz3, Act.put, lz4, lz5, lz6]
 refine AnyT.takeM (i := 4) (v := ?_) rfl (by kernel_rfl) (by kernel_rfl) (fun _ _ _ h => h) (by kernel_rfl) (by kernel_rfl) (Or.inl ⟨by rfl, ?_⟩) HW0.out ?_
 rotate_left
 ·(intro w9 h9; go_simp; try with_reducible rfl)
 try simp only [lz1, lz2, lz3, Act.put, lz4, lz5, lz6]
 refine AnyT.takeM (i := 5) (v := ?_) rfl (by kernel_rfl) (by kernel_rfl) (fun _ _ _ h => h) (by kernel_rfl) (by kernel_rfl) (Or.inl ⟨by rfl, ?_⟩) HW0.out ?_
 rotate_left
 ·(intro w9 h9; have y5 := ((HT3.out.i.c0 HC4.out).c0 h9).cellX HM.out.2.2; go_simp; try with_reducible rfl)
 try simp only [lz1, lz2, lz3, Act.put, lz4, lz5, lz6]
 refine AnyT.takeM (i := 6) (v := ?_) rfl (by kernel_rfl) (by kernel_rfl) (fun _ _ _ h => h) (by kernel_rfl) (by kernel_rfl) (Or.inl ⟨by rfl, ?_⟩) HW0.out ?_
 rotate_left
 ·(intro w9 h9; go_simp; try with_reducible rfl)
 try simp only [lz1, lz2, lz3, Act.put, lz4, lz5, lz6]
 refine AnyT.takeM (i := 7) (v := ?_) rfl (by kernel_rfl) (by kernel_rfl) (fun _ _ _ h => h) (by kernel_rfl) (by kernel_rfl) (Or.inl ⟨by rfl, ?_⟩) HW0.out ?_
 rotate_left
 ·(intro w9 h9; go_simp; try with_reducible rfl)
 try simp only [lz1, lz2, lz3, Act.put, lz4, lz5, lz6]
 refine AnyT.takeM (i := 8) (v := ?_) rfl (by kernel_rfl) (by kernel_rfl) (fun _ _ _ h => h) (by kernel_rfl) (by kernel_rfl) (Or.inl ⟨by rfl, ?_⟩) HW0.out ?_
 rotate_left
 ·(intro w9 h9; obtain ⟨y0, y1, y2⟩ := blk3 ((HR3.out.c0 HC4.out).c0 h9); go_simp; try with_reducible rfl)
 try simp only [lz1, lz2, lz3, Act.put, lz4, lz5, lz6]
 refine AnyT.one (i := 9) (by kernel_rfl) rfl (fun K hK => ?_)
 rw [if_pos (by rfl)]
 try simp only [lz1, lz2, lz3, Act.put, lz4, lz5, lz6]
 have hcw := HC4.out.trans0 HW0.out
 have hS6 := HO9.out.1.c0 hcw
 have hcc := IH (d := d1x) hS6 (HO9.out.2.1.c0 hcw) hgt2 HKX.out.1 HKX.out.2.1 HKX.out.2.2 (by omega) (by have := HD.out; omega) (by have := HD.out; omega) ((HX3.out.1.c0 hcw).mono fun b hb => hb) ((HX3.out.2.c0 hcw).mono fun b hb => hb) HGX.out
 have HCW := hide hcw
 clear hS6 hcw
 go_wp2_with (go_at_call 90; refine hcc.mono ?_; rintro e x1 ⟨rfl, T6, hS6, hsub6, hc6⟩)
 refine hK.out _ _ (fun h => absurd h (by decide)) ?_
 have HS6 := hide hS6
 have HSB6 := hide hsub6
 have HC6 := hide hc6
 clear hcc hS6 hsub6 hc6
 clear hK K
 try simp only [lz1, lz2, lz3, Act.put, lz4, lz5, lz6]
 refine AnyT.takeL (i := 10) (v := ?_) rfl (by kernel_rfl) (by kernel_rfl) (fun _ _ _ h => h) (by kernel_rfl) (by kernel_rfl) (Or.inl ⟨by rfl, ?_⟩) ?_
 rotate_left
 ·(intro w9; go_simp; try with_reducible rfl)
 try simp only [lz1, lz2, lz3, Act.put, lz4, lz5, lz6]
 refine AnyT.takeL (i := 11) (v := ?_) rfl (by kernel_rfl) (by kernel_rfl) (fun _ _ _ h => h) (by kernel_rfl) (by kernel_rfl) (Or.inl ⟨by rfl, ?_⟩) ?_
 rotate_left
 ·(intro w9; go_simp; try with_reducible rfl)
 try simp only [lz1, lz2, lz3, Act.put, lz4, lz5, lz6]
 refine AnyT.takeL (i := 14) (v := ?_) rfl (by kernel_rfl) (by kernel_rfl) (fun _ _ _ h => h) (by kernel_rfl) (by kernel_rfl) (Or.inl ⟨by rfl, ?_⟩) ?_
 rotate_left
 ·(intro w9; go_simp; try with_reducible rfl)
 try simp only [lz1, lz2, lz3, Act.put, lz4, lz5, lz6]
 refine AnyT.takeL (i := 12) (v := ?_) rfl (by kernel_rfl) (by kernel_rfl) (fun _ _ _ h => h) (by kernel_rfl) (by kernel_rfl) (Or.inl ⟨by rfl, ?_⟩) ?_
 rotate_left
 ·(intro w9; go_simp; try with_reducible rfl)
 try simp only [lz1, lz2, lz3, Act.put, lz4, lz5, lz6]
 refine AnyT.takeL (i := 15) (v := ?_) rfl (by kernel_rfl) (by kernel_rfl) (fun _ _ _ h => h) (by kernel_rfl) (by kernel_rfl) (Or.inl ⟨by rfl, ?_⟩) ?_
 rotate_left
 ·(intro w9; go_simp; try with_reducible rfl)
 try simp only [lz1, lz2, lz3, Act.put, lz4, lz5, lz6]
 refine AnyT.takeL (i := 13) (v := ?_) rfl (by kernel_rfl) (by kernel_rfl) (fun _ _ _ h => h) (by kernel_rfl) (by kernel_rfl) (Or.inl ⟨by rfl, ?_⟩) ?_
 rotate_left
 ·(intro w9; go_simp; try with_reducible rfl)
 try simp only [lz1, lz2, lz3, Act.put, lz4, lz5, lz6]
 refine AnyT.takeL (i := 16) (v := ?_) rfl (by kernel_rfl) (by kernel_rfl) (fun _ _ _ h => h) (by kernel_rfl) (by kernel_rfl) (Or.inl ⟨by rfl, ?_⟩) ?_
 rotate_left
 ·(intro w9; go_simp; try with_reducible rfl)
 try simp only [lz1, lz2, lz3, Act.put, lz4, lz5, lz6]
 refine AnyT.nil (by kernel_rfl) ?_
 have hcw := HCW.out
 have hc6 := HC6.out
 have hsub6 := HSB6.out
 have nw := hcw.size
 have hcT : Chg T w x1 := (HO9.out.2.2.trans0 hcw).trans hc6 fun b hb h => by
  rcases HSUB.out b h with h | h
  ·exact h
  ·omega
 have hsub : ∀ b, T6 b → T b ∨ (w.heap.size ≤ b ∧ b < x1.heap.size) := fun b hb => by
  have n6x := hc6.size
  rcases hsub6 b hb with h | h
  ·exact (HSUB.out b h).imp_right fun h => ⟨h.1, by omega⟩
  ·have := HO9.out.2.2.size
   exact .inr ⟨by omega, h.2⟩
 have HF := hide (And.intro HS6.out (And.intro hsub hcT))
 clear hcw hc6 nw hcT hsub hsub6
 go_wp2_with fail
 go_ret3
 exact ⟨rfl, T6, HF.out.1.le_q (by omega), HF.out.2.1, HF.out.2.2⟩
set_option maxHeartbeats 16000000 in
theorem tDropDeep1 {E : List Ent} {m9 : Nat} (IH : DropDeep m9) (hS : TS w T g hand pre q ids ct) (hb : Blk w gt 121 #[.pointer (some ⟨g, 0, none⟩), .int .i64 root]) (hgt : ¬ T gt) (n : Nod ct ids h id E) (hq : q + m9 + 6 ≤ 900000) (hdm : d + m9 = 64) (hdh : 65 ≤ d + h + 1) (hx : RdB w G (.slice XA xn xc) k) (hG : ∀ b, G b → ¬ T b) :
  Calls Tryz.prog 88 #[.pointer (some ⟨gt, 0, none⟩), .int .i64 (id : Int), .int .i64 (d : Int), .slice XA xn xc] w (FailP w T g hand pre (q + m9 + 2) ids ct (.returned (.tuple #[.bool false, .int .i64 3]))) := by
 unfold FailP
 have nf := nod_facts n
 have hi : id ∈ ids := n.sub id (by simp)
 have hTl := hS.lt
 have hx1 := hx.lt
 have hch := tChildI hS hb hgt hi (by omega) nf.1 nf.2.1 nf.2.2.1 nf.2.2.2.1 nf.2.2.2.2.1 nf.2.2.2.2.2
 have HTL := hide hTl
 have HX1 := hide hx1
 have HB1 := hide hb
 clear hS hb hTl hx1 hx
 go_enter Tryz.func88, Tryz.ntmps88
 go_upto_region 2 with (go_at_call 92; refine hch.mono ?_; rintro e w2 ⟨T2, B, KA, kn, kc, VA, vn, vc, NA, nn, nc, rfl, hO⟩)
 have hbb := Blk.new w2 125 #[.bool false, .slice KA kn kc, .slice VA vn vc, .slice NA nn nc]
 have hcB := (Chg.refl Non w2).alloc (.cells #[.bool false, .slice KA kn kc, .slice VA vn vc, .slice NA nn nc] 125)
 have hnB := sizeAl' w2 (.cells #[.bool false, .slice KA kn kc, .slice VA vn vc, .slice NA nn nc] 125)
 have hO3 := hO.c0 hcB
 obtain ⟨gb, hgb⟩ : ∃ g, g = w2.heap.size := ⟨_, rfl⟩
 have hnN : ¬ T2 gb ∧ w.heap.size ≤ gb := by
  have h2 := hO.chg.size
  refine ⟨fun h => ?_, by omega⟩
  have := hO.ts.lt gb h; omega
 have hx3 := (HX1.out.chg hO.chg fun b hb => hG b hb.1).c0 hcB
 have hb3 := (HB1.out.chg hO.chg hgt).c0 hcB
 have hgt2 : ¬ T2 gt := fun h => by
  rcases hO.sub gt h with h | h
  ·exact hgt h
  ·have := HB1.out.lt; omega
 have hGT : gt ≠ gb := fun e => by have := HB1.out.lt; have := hO.chg.size; omega
 have hkb := (hO.k.c0 hcB).mono (F' := fun b => B ≤ b ∧ b ≠ gb) fun b hb => ⟨hb.1, by omega⟩
 have hvb := (hO.v.c0 hcB).mono (F' := fun b => B ≤ b ∧ b ≠ gb) fun b hb => ⟨hb.1, by omega⟩
 have hnb := (hO.n.c0 hcB).mono (F' := fun b => B ≤ b ∧ b ≠ gb) fun b hb => ⟨hb.1, by omega⟩
 rw [← hgb] at hbb hnB ⊢
 have hlo9 : ∀ b, T2 b → b < B := hO.low
 have HGB := hide (show gt < B ∧ w.heap.size ≤ B from ⟨by have := HB1.out.lt; have := hO.lo; omega, hO.lo⟩)
 generalize World.alloc w2 _ = w3 at hbb hcB hO3 hx3 hb3 hkb hvb hnb hnB ⊢
 have hgb3 : gb < w3.heap.size := by omega
 have hkl : (keysE E).length ≤ 600 := by have := sizeIn_len (keysE E) (idsE E).length; have := nf.2.2.2.2.2; omega
 have hwy := btWay (lf := false) (VA := VA) (vn := vn) (vc := vc) (NA := NA) (nn := nn) (nc := nc) hkb hx3 (keysE_up n.brn) (by omega)
 have d1 : decide (64 < (d : Int)) = false := decide_eq_false (by omega)
 have d2 : decide ((d : Int) > 64) = false := decide_eq_false (by omega)
 have hT2 := (hO.own rfl).fit
 have ob : (∀ b, (Value.slice KA kn kc).ownBlock = some b → B ≤ b ∧ b < gb) ∧ (∀ b, (Value.slice VA vn vc).ownBlock = some b → B ≤ b ∧ b < gb) ∧ (∀ b, (Value.slice NA nn nc).ownBlock = some b → B ≤ b ∧ b < gb) := by
  rw [hgb]
  exact ⟨hT2.k.lt, hT2.v.lt, hT2.i.lt⟩
 rw [← hgb] at hT2
 have hT3 := hT2.c0 hcB
 have HOB := hide ob
 have HT3 := hide hT3
 have HNF := hide nf
 have hgx : ∀ b, (G b ∧ b < w.heap.size) → ¬ T2 b := fun b hb h => by
  rcases hO.sub b h with h | h
  ·exact hG b hb.1 h
  ·omega
 have HGX := hide hgx
 have HLO := hide hlo9
 have hO9 : TS w3 T2 g hand pre (q + 1) ids ct ∧ Blk w3 gt 121 #[.pointer (some ⟨g, 0, none⟩), .int .i64 root] ∧ Chg T w w3 := ⟨hO3.ts, hb3, hO3.chg⟩
 have HSUB := hide hO3.sub
 obtain ⟨⟨b0, b1, b2, b3⟩, _⟩ := blk4 hbb
 have HBB := hide hbb
 have HX3 := hide hx3
 have HO9 := hide hO9
 have HNN := hide hnN
 clear hch hO hO3 hcB hbb hx3 hkb hvb hnb hO9 hgb hlo9 hb3 HB1 HX1 hnN hT2 ob hT3 nf hgx
 go_upto_region 15 with (go_at_call 93; refine hwy.mono ?_; rintro e w4 ⟨i, ok, he, hf, hc4⟩; obtain ⟨EA, EB, k0, x, hE, hlen, wy⟩ := n.brn.way hf; rw [← hlen] at he; subst he; clear hlen)
 subst hE
 obtain ⟨kx1, kx2, kx3, kx4, kx5⟩ := kid_at n
 obtain ⟨m, hm⟩ : ∃ m, m = EA.length := ⟨_, rfl⟩
 rw [← hm] at kx1 kx2 ⊢
 obtain ⟨ng, nc', hna, hng, hcl0⟩ := HT3.out.i.at_ (k := m) (by rw [izs_len]; exact kx2)
 injection hna with hna hnn hnc'
 subst hna
 have hmn : m < nn := by rw [hnn, izs_len]; exact kx2
 have hm5 : m ≤ 600 := by rw [HNF.out.2.1] at kx2; omega
 have HM := hide (And.intro hm (And.intro hnn kx1))
 obtain ⟨d1x, hd1x⟩ : ∃ d', d' = d + 1 := ⟨_, rfl⟩
 have wd : IntKind.i64.wrap ((d : Int) + 1) = (d1x : Int) := by rw [IntWalk.i64_in _ (by omega)]; omega
 have y5 := (HT3.out.i.c0 hc4).cellX kx1
 have hcc := IH (d := d1x) (HO9.out.1.c0 hc4) (HO9.out.2.1.c0 hc4) hgt2 kx3 kx4 kx5 (by omega) (by omega) (by omega) (HX3.out.c0 hc4) HGX.out
 obtain ⟨⟨b0, b1, b2, b3⟩, _⟩ := blk4 (HBB.out.c0 hc4)
 have HC4 := hide hc4
 clear hcl0 hm hnn hnc' kx1 kx2 kx3 kx4 kx5 hd1x hf hwy hc4
 go_upto_region 16 with (go_at_call 88; refine hcc.mono ?_; rintro e x1 ⟨rfl, T6, hS6, hsub6, hc6⟩)
 have hcw := HC4.out
 have nw := hcw.size
 have hcT : Chg T w x1 := (HO9.out.2.2.trans0 hcw).trans hc6 fun b hb h => by
  rcases HSUB.out b h with h | h
  ·exact h
  ·omega
 have hsub : ∀ b, T6 b → T b ∨ (w.heap.size ≤ b ∧ b < x1.heap.size) := fun b hb => by
  have n6x := hc6.size
  rcases hsub6 b hb with h | h
  ·exact (HSUB.out b h).imp_right fun h => ⟨h.1, by omega⟩
  ·have := HO9.out.2.2.size
   exact .inr ⟨by omega, h.2⟩
 have HF := hide (And.intro hS6 (And.intro hsub hcT))
 clear hcw hc6 nw hcT hsub hsub6 hS6 hcc y5 b0 b1 b2 b3
 go_wp2_with fail
 go_ret2
 exact ⟨rfl, T6, HF.out.1.le_q (by omega), HF.out.2.1, HF.out.2.2⟩
end
theorem tPutDeep : ∀ m, PutDeep m := fun m => by
 induction m with
 | zero =>
  intro w T G g hand q gt id d h root pre ids ct k v XA YA xn xc yn yc ps l hS hb hgt hT hnd hin hq hdm hdh hx hy hG
  cases h with
  | zero =>
   obtain ⟨rfl, hil, hct, hg, hs⟩ := hT
   exact tPutDeepL hS hb hgt hct hil hg hs (hin _ (by simp)) (by omega) (by omega) hx hy hG
  | succ h =>
   obtain ⟨E, n, rfl, rfl⟩ := hT.nod hnd hin
   exact tPutDeepI hS hb hgt n (by omega) (by omega) hx hy hG
 | succ m IH =>
  intro w T G g hand q gt id d h root pre ids ct k v XA YA xn xc yn yc ps l hS hb hgt hT hnd hin hq hdm hdh hx hy hG
  obtain ⟨h, rfl⟩ : ∃ h', h = h' + 1 := ⟨h - 1, by omega⟩
  obtain ⟨E, n, rfl, rfl⟩ := hT.nod hnd hin
  exact tPutDeep1 IH hS hb hgt n (by omega) (by omega) (by omega) hx hy hG
theorem tDropDeep : ∀ m, DropDeep m := fun m => by
 induction m with
 | zero =>
  intro w T G g hand q gt id d h root pre ids ct k XA xn xc ps l hS hb hgt hT hnd hin hq hdm hdh hx hG
  cases h with
  | zero =>
   obtain ⟨rfl, hil, hct, hg, hs⟩ := hT
   exact tDropDeepL hS hb hgt hct hil hg hs (hin _ (by simp)) (by omega) (by omega) hx hG
  | succ h =>
   obtain ⟨E, n, rfl, rfl⟩ := hT.nod hnd hin
   exact tDropDeepI hS hb hgt n (by omega) (by omega) hx hG
 | succ m IH =>
  intro w T G g hand q gt id d h root pre ids ct k XA xn xc ps l hS hb hgt hT hnd hin hq hdm hdh hx hG
  obtain ⟨h, rfl⟩ : ∃ h', h = h' + 1 := ⟨h - 1, by omega⟩
  obtain ⟨E, n, rfl, rfl⟩ := hT.nod hnd hin
  exact tDropDeep1 IH hS hb hgt n (by omega) (by omega) (by omega) hx hG
end Go.Proofs.YtliimeoblffigaaGreat

