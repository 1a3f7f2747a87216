/- The walks of btree's node, child and save. -/
import Derived.Test.YtliimeoblffigaaGreatTsAG
import Derived.Test.YtliimeoblffigaaGreatInH
import Derived.Deep.RegionHeld3
open List renaming getElem_toArray → lz1, getElem_cons_succ → lz2, getElem_cons_zero → lz3, setIfInBounds_toArray → lz4, set_cons_zero → lz5, set_cons_succ → lz6
set_option linter.unusedVariables false
set_option linter.unusedSimpArgs false
set_option maxRecDepth 100000
namespace Go.Proofs.YtliimeoblffigaaGreat
open Go.RowKit Go.Maps
set_option linter.unusedVariables false
set_option linter.unusedSimpArgs false

theorem upK_pw {ks : List (List UInt8)} (h : ks.Pairwise fun a b => cmpB a b < 0) : UpK ks := fun i p q hp hq => Pairwise.head_lt h (Nat.lt_succ_self i) hp hq
section
variable {w : World} {T : Nat → Prop} {g hand q gt id : Nat} {root : Int} {pre : ByteArray} {ids : List Nat} {ct : Nat → List UInt8}
/-- what node and child answer: the pool goes on in T', the node lies in memory from B on -/
structure NdOut (lf : Bool) (w : World) (T : Nat → Prop) (g hand : Nat) (pre : ByteArray) (q : Nat) (ids : List Nat) (ct : Nat → List UInt8) (ks vs : List (List UInt8)) (ni : List Int) (w' : World) (T' : Nat → Prop) (B : Nat) (KA : Option Addr) (kn kc : Nat) (VA : Option Addr) (vn vc : Nat) (NA : Option Addr) (nn nc : Nat) : Prop where
  ts : TS w' T' g hand pre (q + 1) ids ct
  sub : ∀ b, T' b → Ext T w w' b
  low : ∀ b, T' b → b < B
  lo : w.heap.size ≤ B
  chg : Chg T w w'
  k : RdBB w' (fun b => B ≤ b ∧ b < w'.heap.size) (.slice KA kn kc) ks
  v : RdBB w' (fun b => B ≤ b ∧ b < w'.heap.size) (.slice VA vn vc) vs
  n : RdI w' (fun b => B ≤ b ∧ b < w'.heap.size) (.slice NA nn nc) ni
  own : lf = false → Th3 w' (fun b => B ≤ b) B (.slice KA kn kc) (.slice VA vn vc) (.slice NA nn nc) ks vs ni
theorem NdOut.c0 {lf : Bool} {w' w'' : World} {T' : Nat → Prop} {B kn kc vn vc nn nc : Nat} {KA VA NA : Option Addr} {ks vs : List (List UInt8)} {ni : List Int} (h : NdOut lf w T g hand pre q ids ct ks vs ni w' T' B KA kn kc VA vn vc NA nn nc) (hc : Chg Non w' w'') : NdOut lf w T g hand pre q ids ct ks vs ni w'' T' B KA kn kc VA vn vc NA nn nc :=
  ⟨h.ts.c0 hc, fun b hb => (h.sub b hb).up hc.size, h.low, h.lo, h.chg.trans0 hc, (h.k.c0 hc).mono fun b hb => ⟨hb.1, Nat.lt_of_lt_of_le hb.2 hc.size⟩, (h.v.c0 hc).mono fun b hb => ⟨hb.1, Nat.lt_of_lt_of_le hb.2 hc.size⟩, (h.n.c0 hc).mono fun b hb => ⟨hb.1, Nat.lt_of_lt_of_le hb.2 hc.size⟩, fun e => (h.own e).c0 hc⟩
theorem NdOut.back {lf : Bool} {w0 w' : World} {T' : Nat → Prop} {B kn kc vn vc nn nc : Nat} {KA VA NA : Option Addr} {ks vs : List (List UInt8)} {ni : List Int} (h : NdOut lf w T g hand pre q ids ct ks vs ni w' T' B KA kn kc VA vn vc NA nn nc) (hc : Chg Non w0 w) : NdOut lf w0 T g hand pre q ids ct ks vs ni w' T' B KA kn kc VA vn vc NA nn nc :=
  ⟨h.ts, fun b hb => (h.sub b hb).back hc.size, h.low, Nat.le_trans hc.size h.lo, (hc.mono fun _ _ h => h.elim).trans h.chg fun _ _ h => h, h.k, h.v, h.n, h.own⟩
/-- another block ahead of it was turned -/
theorem NdOut.box {lf : Bool} {w' w'' : World} {T' : Nat → Prop} {B kn kc vn vc nn nc k : Nat} {KA VA NA : Option Addr} {ks vs : List (List UInt8)} {ni : List Int} (h : NdOut lf w T g hand pre q ids ct ks vs ni w' T' B KA kn kc VA vn vc NA nn nc) (hc : Chg (fun b => b = k) w' w'') (h1 : w.heap.size ≤ k) (h2 : k < B) (h3 : ¬ T' k) : NdOut lf w T g hand pre q ids ct ks vs ni w'' T' B KA kn kc VA vn vc NA nn nc :=
  ⟨h.ts.chg hc fun b hb e => h3 (by have e : b = k := e; rw [← e]; exact hb), fun b hb => (h.sub b hb).up hc.size, h.low, h.lo, h.chg.trans hc fun b hb e => by have e : b = k := e; omega,
   (h.k.chg hc fun b hb e => by have e : b = k := e; omega).mono fun b hb => ⟨hb.1, Nat.lt_of_lt_of_le hb.2 hc.size⟩, (h.v.chg hc fun b hb e => by have e : b = k := e; omega).mono fun b hb => ⟨hb.1, Nat.lt_of_lt_of_le hb.2 hc.size⟩, (h.n.chg hc fun b hb e => by have e : b = k := e; omega).mono fun b hb => ⟨hb.1, Nat.lt_of_lt_of_le hb.2 hc.size⟩, fun e => (h.own e).chg hc (fun b hb e => by have e : b = k := e; omega) fun b hb e => by have e : b = k := e; omega⟩
set_option maxHeartbeats 8000000 in
theorem tNodeL (hS : TS w T g hand pre q ids ct) (hb : Blk w gt 121 #[.pointer (some ⟨g, 0, none⟩), .int .i64 root]) (hgt : ¬ T gt) (hi : id ∈ ids) (hq : q ≤ 900000) {l : List KV} (hct : ct id = pageKV l) (hg : GoodKV l) (hs : sizeKV l ≤ 512) :
    Calls Tryz.prog 134 #[.pointer (some ⟨gt, 0, none⟩), .int .i64 (id : Int)] w fun e w' => ∃ (T' : Nat → Prop) (B : Nat) (KA : Option Addr) (kn kc : Nat) (VA : Option Addr) (vn vc : Nat) (NA : Option Addr) (nn nc : Nat), e = .returned (.tuple #[.agg #[.bool true, .slice KA kn kc, .slice VA vn vc, .slice NA nn nc], .int .i64 0]) ∧ NdOut true w T g hand pre q ids ct (ksL l) (vsL l) [] w' T' B KA kn kc VA vn vc NA nn nc := by
  have hr := Blk.new w 125 #[.bool false, .slice none 0 0, .slice none 0 0, .slice none 0 0]
  have hcr := (Chg.refl Non w).alloc (.cells #[.bool false, .slice none 0 0, .slice none 0 0, .slice none 0 0] 125)
  have hnr := sizeAl' w (.cells #[.bool false, .slice none 0 0, .slice none 0 0, .slice none 0 0] 125)
  have hTl := hS.lt
  go_enter Tryz.func134, Tryz.ntmps134
  go_upto_region 1 with fail
  obtain ⟨N, hN⟩ : ∃ N, N = w.heap.size := ⟨_, rfl⟩
  have hS1 := hS.c0 hcr
  have hb1 := hb.c0 hcr
  rw [← hN] at hr hnr ⊢
  have HN := hide hN
  clear hS hb hN
  generalize World.alloc w _ = w1 at hr hcr hnr hS1 hb1 ⊢
  have k0 : w1.cell? ⟨gt, 0, none⟩ = some (.pointer (some ⟨g, 0, none⟩)) := hb1.cell 0
  have hget := tGet hS1 hi hq
  have HR := hide hr
  have HC1 := hide hcr
  have HN1 := hide hnr
  have HTL := hide hTl
  clear hr hcr hnr hS1 hb1 hTl
  go_wp2_with fail
  refine hget.mono ?_
  rintro e w2 ⟨u, rfl, hu, hS2, hc2⟩
  rw [hct] at hu
  obtain ⟨UA, un, uc, rfl⟩ := hu.shapeH
  have hdec := lfDecode hu.rdB hg hs
  have HS2 := hide hS2
  have HC2 := hide hc2
  clear hget k0 hS2 hc2 hu
  go_wp2_with fail
  refine hdec.mono ?_
  rintro e w3 ⟨kv, vv, rfl, hk3, hv3, hc3⟩
  obtain ⟨KA, kc, hkv, _, _⟩ := hk3.shape
  obtain ⟨VA, vc, hvv, _, _⟩ := hv3.shape
  subst hkv
  subst hvv
  obtain ⟨kn, hkn⟩ : ∃ n, n = (ksL l).length := ⟨_, rfl⟩
  obtain ⟨vn, hvn⟩ : ∃ n, n = (vsL l).length := ⟨_, rfl⟩
  rw [← hkn] at hk3 ⊢
  rw [← hvn] at hv3 ⊢
  obtain ⟨NA, hNA⟩ : ∃ A : Option Addr, A = none := ⟨_, rfl⟩
  obtain ⟨nn, hnn⟩ : ∃ n : Nat, n = 0 := ⟨_, rfl⟩
  obtain ⟨nc, hnc⟩ : ∃ n : Nat, n = 0 := ⟨_, rfl⟩
  have hni : RdI w3 (fun b => w2.heap.size ≤ b ∧ b < w3.heap.size) (.slice NA nn nc) [] := by rw [hNA, hnn, hnc]; exact RdV.nil_ _ _ 1
  rw [show (Value.slice none 0 0) = .slice NA nn nc by rw [hNA, hnn, hnc]]
  clear hkn hvn hNA hnn hnc
  have HC3 := hide hc3
  have hnT : ¬ T N := fun h => by have := HTL.out N h; have := HN.out; omega
  have hr3 := (HR.out.chg HC2.out hnT).c0 hc3
  obtain ⟨⟨r0, r1, r2, r3⟩, f0, f1, f2, f3⟩ := blk4 hr3
  obtain ⟨hr8, hc8⟩ := put4 hr3 (.bool true) (.slice KA kn kc) (.slice VA vn vc) (.slice NA nn nc)
  have n2 := HC2.out.size
  have n3 := hc3.size
  have hNw := HN.out
  have hN1 := HN1.out
  have hout : NdOut true w T g hand pre q ids ct (ksL l) (vsL l) [] w3 (Ext T w1 w2) w2.heap.size KA kn kc VA vn vc NA nn nc :=
    ⟨HS2.out.c0 hc3, fun b hb => by
      rcases hb with h | h
      · exact .inl h
      · exact .inr (by omega), fun b hb => by
      rcases hb with h | h
      · have := HTL.out b h; omega
      · exact h.2, by omega, ((HC1.out.mono fun _ _ h => h.elim).trans HC2.out fun _ _ h => h).trans0 hc3, hk3, hv3, hni, fun e => by cases e⟩
  have hout2 := hout.box hc8 (by omega) (by omega) (fun h => by
    rcases h with h | h
    · exact hnT h
    · omega)
  have HO := hide hout2
  have HR8 := hide hr8
  clear hdec hr3 hr8 hc8 hout hout2 n2 n3 hNw hN1 hnT hc3
  go_wp2_with fail
  generalize World.setCell _ _ _ = w9 at HR8 HO ⊢
  obtain ⟨⟨q0, q1, q2, q3⟩, _⟩ := blk4 HR8.out
  refine bodyPost_ret (v := .tuple #[.agg #[.bool true, .slice KA kn kc, .slice VA vn vc, .slice NA nn nc], .int .i64 0]) (by simp [results, Tryz.results134, go_sem, q0, q1, q2, q3]) rfl ⟨_, _, KA, kn, kc, VA, vn, vc, NA, nn, nc, rfl, HO.out⟩
set_option maxHeartbeats 8000000 in
theorem tNodeI (hS : TS w T g hand pre q ids ct) (hb : Blk w gt 121 #[.pointer (some ⟨g, 0, none⟩), .int .i64 root]) (hgt : ¬ T gt) (hi : id ∈ ids) (hq : q ≤ 900000) {ks : List (List UInt8)} {kd : List Nat} (hct : ct id = pageIn ks kd) (hn : kd.length = ks.length + 1) (hz : ∀ x ∈ kd, x ≤ 65535) (hup : UpK ks) (h64 : ∀ x ∈ ks, x.length ≤ 64) (hs : sizeIn ks kd.length ≤ 512) :
    Calls Tryz.prog 134 #[.pointer (some ⟨gt, 0, none⟩), .int .i64 (id : Int)] w fun e w' => ∃ (T' : Nat → Prop) (B : Nat) (KA : Option Addr) (kn kc : Nat) (VA : Option Addr) (vn vc : Nat) (NA : Option Addr) (nn nc : Nat), e = .returned (.tuple #[.agg #[.bool false, .slice KA kn kc, .slice VA vn vc, .slice NA nn nc], .int .i64 0]) ∧ NdOut false w T g hand pre q ids ct ks [] (izs kd) w' T' B KA kn kc VA vn vc NA nn nc := by
  have hr := Blk.new w 125 #[.bool false, .slice none 0 0, .slice none 0 0, .slice none 0 0]
  have hcr := (Chg.refl Non w).alloc (.cells #[.bool false, .slice none 0 0, .slice none 0 0, .slice none 0 0] 125)
  have hnr := sizeAl' w (.cells #[.bool false, .slice none 0 0, .slice none 0 0, .slice none 0 0] 125)
  have hTl := hS.lt
  go_enter Tryz.func134, Tryz.ntmps134
  go_upto_region 1 with fail
  obtain ⟨N, hN⟩ : ∃ N, N = w.heap.size := ⟨_, rfl⟩
  have hS1 := hS.c0 hcr
  have hb1 := hb.c0 hcr
  rw [← hN] at hr hnr ⊢
  have HN := hide hN
  clear hS hb hN
  generalize World.alloc w _ = w1 at hr hcr hnr hS1 hb1 ⊢
  have k0 : w1.cell? ⟨gt, 0, none⟩ = some (.pointer (some ⟨g, 0, none⟩)) := hb1.cell 0
  have hget := tGet hS1 hi hq
  have HR := hide hr
  have HC1 := hide hcr
  have HN1 := hide hnr
  have HTL := hide hTl
  clear hr hcr hnr hS1 hb1 hTl
  go_wp2_with fail
  refine hget.mono ?_
  rintro e w2 ⟨u, rfl, hu, hS2, hc2⟩
  rw [hct] at hu
  obtain ⟨UA, un, uc, rfl⟩ := hu.shapeH
  have hdec := inDecode hu.rdB hn hz hup h64 hs
  have HS2 := hide hS2
  have HC2 := hide hc2
  clear hget k0 hS2 hc2 hu
  go_wp2_with fail
  refine hdec.mono ?_
  rintro e w3 ⟨KA, kn, kc, NA, nn, nc, rfl, hT3, hc3⟩
  obtain ⟨VA, hVA⟩ : ∃ A : Option Addr, A = none := ⟨_, rfl⟩
  obtain ⟨vn, hvn⟩ : ∃ n : Nat, n = 0 := ⟨_, rfl⟩
  obtain ⟨vc, hvc⟩ : ∃ n : Nat, n = 0 := ⟨_, rfl⟩
  rw [show (Value.slice none 0 0) = .slice VA vn vc by rw [hVA, hvn, hvc]] at hT3 ⊢
  clear hVA hvn hvc
  have HC3 := hide hc3
  have hnT : ¬ T N := fun h => by have := HTL.out N h; have := HN.out; omega
  have hr3 := (HR.out.chg HC2.out hnT).c0 hc3
  obtain ⟨⟨r0, r1, r2, r3⟩, f0, f1, f2, f3⟩ := blk4 hr3
  obtain ⟨hr8, hc8⟩ := put4 hr3 (.bool false) (.slice KA kn kc) (.slice VA vn vc) (.slice NA nn nc)
  have n2 := HC2.out.size
  have n3 := hc3.size
  have hNw := HN.out
  have hN1 := HN1.out
  have hout : NdOut false w T g hand pre q ids ct ks [] (izs kd) w3 (Ext T w1 w2) w2.heap.size KA kn kc VA vn vc NA nn nc :=
    ⟨HS2.out.c0 hc3, fun b hb => by
      rcases hb with h | h
      · exact .inl h
      · exact .inr (by omega), fun b hb => by
      rcases hb with h | h
      · have := HTL.out b h; omega
      · exact h.2, by omega, ((HC1.out.mono fun _ _ h => h.elim).trans HC2.out fun _ _ h => h).trans0 hc3, hT3.rdK.mono fun b hb => ⟨hb.1.elim (fun h => h) fun h => h, hb.2⟩, hT3.rdV.mono fun b hb => ⟨hb.1.elim (fun h => h) fun h => h, hb.2⟩, hT3.rdI.mono fun b hb => ⟨hb.1.elim (fun h => h) fun h => h, hb.2⟩, fun _ => hT3⟩
  have hout2 := hout.box hc8 (by omega) (by omega) (fun h => by
    rcases h with h | h
    · exact hnT h
    · omega)
  have HO := hide hout2
  have HR8 := hide hr8
  clear hdec hr3 hr8 hc8 hout hout2 n2 n3 hNw hN1 hnT hc3
  go_wp2_with fail
  generalize World.setCell _ _ _ = w9 at HR8 HO ⊢
  obtain ⟨⟨q0, q1, q2, q3⟩, _⟩ := blk4 HR8.out
  refine bodyPost_ret (v := .tuple #[.agg #[.bool false, .slice KA kn kc, .slice VA vn vc, .slice NA nn nc], .int .i64 0]) (by simp [results, Tryz.results134, go_sem, q0, q1, q2, q3]) rfl ⟨_, _, KA, kn, kc, VA, vn, vc, NA, nn, nc, rfl, HO.out⟩
set_option maxHeartbeats 8000000 in
theorem tChildL (hS : TS w T g hand pre q ids ct) (hb : Blk w gt 121 #[.pointer (some ⟨g, 0, none⟩), .int .i64 root]) (hgt : ¬ T gt) (hi : id ∈ ids) (hq : q ≤ 900000) {l : List KV} (hct : ct id = pageKV l) (hg : GoodKV l) (hs : sizeKV l ≤ 512) :
    Calls Tryz.prog 92 #[.pointer (some ⟨gt, 0, none⟩), .int .i64 (id : Int)] w fun e w' => ∃ (T' : Nat → Prop) (B : Nat) (KA : Option Addr) (kn kc : Nat) (VA : Option Addr) (vn vc : Nat) (NA : Option Addr) (nn nc : Nat), e = .returned (.tuple #[.agg #[.bool true, .slice KA kn kc, .slice VA vn vc, .slice NA nn nc], .int .i64 0]) ∧ NdOut true w T g hand pre q ids ct (ksL l) (vsL l) [] w' T' B KA kn kc VA vn vc NA nn nc := by
  have hr := Blk.new w 125 #[.bool false, .slice none 0 0, .slice none 0 0, .slice none 0 0]
  have hcr := (Chg.refl Non w).alloc (.cells #[.bool false, .slice none 0 0, .slice none 0 0, .slice none 0 0] 125)
  have hnr := sizeAl' w (.cells #[.bool false, .slice none 0 0, .slice none 0 0, .slice none 0 0] 125)
  have hTl := hS.lt
  go_enter Tryz.func92, Tryz.ntmps92
  go_upto_region 1 with fail
  obtain ⟨N, hN⟩ : ∃ N, N = w.heap.size := ⟨_, rfl⟩
  have hS1 := hS.c0 hcr
  have hb1 := hb.c0 hcr
  rw [← hN] at hr hnr ⊢
  have HN := hide hN
  clear hS hb hN
  generalize World.alloc w _ = w1 at hr hcr hnr hS1 hb1 ⊢
  have hnd := tNodeL hS1 hb1 hgt hi hq hct hg hs
  have HR := hide hr
  have HC1 := hide hcr
  have HN1 := hide hnr
  have HTL := hide hTl
  clear hr hcr hnr hS1 hb1 hTl
  go_upto_region 2 with (go_at_call 134; refine hnd.mono ?_; rintro e w2 ⟨T2, B, KA, kn, kc, VA, vn, vc, NA, nn, nc, rfl, hO⟩)
  have hbb := Blk.new w2 125 #[.bool true, .slice KA kn kc, .slice VA vn vc, .slice NA nn nc]
  have hcB := (Chg.refl Non w2).alloc (.cells #[.bool true, .slice KA kn kc, .slice VA vn vc, .slice NA nn nc] 125)
  have hO3 := (hO.back HC1.out).c0 hcB
  have hs12 := hO.chg.size
  have hlo := hO.lo
  obtain ⟨gb, hgb⟩ : ∃ g, g = w2.heap.size := ⟨_, rfl⟩
  rw [← hgb] at hbb ⊢
  have HNw := HN.out
  have hnT : ¬ T2 N := fun h => by
    have h1 := HN1.out
    rcases hO.sub N h with h | h
    · have := HTL.out N h; omega
    · omega
  have hnT1 : ¬ T N := fun h => by have := HTL.out N h; omega
  have hr3 := (HR.out.chg hO.chg hnT1).c0 hcB
  have HGB := hide (show w1.heap.size ≤ gb by omega)
  generalize World.alloc w2 _ = w3 at hbb hcB hO3 hr3 ⊢
  have HBB := hide hbb
  have HO3 := hide hO3
  have HR3 := hide hr3
  have HNT := hide (And.intro hnT (show w1.heap.size ≤ B from hlo))
  clear hnd hbb hcB hO3 hs12 hgb HNw hnT hnT1 hr3 hO HR hlo
  refine wp_region_T (Chg Non w3) 3 (by kernel_rfl) ?_
  have HW0 := hide ((Chg.refl Non w3).drew)
  generalize World.drew w3 = x0 at HW0 ⊢
  refine AnyT.take (i := 0) (v := ?_) rfl (by kernel_rfl) (by kernel_rfl) (fun _ _ _ h => h) (by kernel_rfl) (by kernel_rfl) (Or.inl ⟨by rfl, ?_⟩) HW0.out ?_
  rotate_left
  · (intro w9 h9; obtain ⟨⟨y0, y1, y2, y3⟩, _⟩ := blk4 (HBB.out.c0 h9); go_simp; try with_reducible rfl)
  try simp only [lz1, lz2, lz3, Act.put, lz4, lz5, lz6]
  refine AnyT.takeM (i := 1) (v := ?_) rfl (by kernel_rfl) (by kernel_rfl) (fun _ _ _ h => h) (by kernel_rfl) (by kernel_rfl) (Or.inl ⟨by rfl, ?_⟩) HW0.out ?_
  rotate_left
  · (intro w9 h9; go_simp; try with_reducible rfl)
  try simp only [lz1, lz2, lz3, Act.put, lz4, lz5, lz6]
  refine AnyT.one (i := 2) (by kernel_rfl) rfl (fun K hK => ?_)
  rw [if_pos (by rfl)]
  try simp only [lz1, lz2, lz3, Act.put, lz4, lz5, lz6]
  have hcc := btWrong x0 0 (by decide)
  go_wp2_with (go_at_call 124; refine hcc.mono ?_; rintro e x1 ⟨rfl, hx1⟩; subst hx1)
  have HW1 := HW0
  refine hK.out _ _ (fun _ => HW1.out) ?_
  clear hcc
  clear hK K
  try simp only [lz1, lz2, lz3, Act.put, lz4, lz5, lz6]
  refine AnyT.one (i := 3) (by kernel_rfl) rfl (fun K hK => ?_)
  rw [if_pos (by rfl)]
  try simp only [lz1, lz2, lz3, Act.put, lz4, lz5, lz6]
  have hRx := HR3.out.c0 HW1.out
  have hOx := HO3.out.c0 HW1.out
  obtain ⟨⟨y0, y1, y2, y3⟩, f0, f1, f2, f3⟩ := blk4 hRx
  obtain ⟨hr8, hc8⟩ := put4 hRx (.bool true) (.slice KA kn kc) (.slice VA vn vc) (.slice NA nn nc)
  have HRz := hide hr8
  have HOz := hide (hOx.box hc8 (by have := HN.out; omega) (by have := HNT.out.2; have := HN1.out; omega) HNT.out.1)
  clear hr8 hc8 hRx hOx
  go_simp
  refine hK.out _ _ (fun h => absurd h (by decide)) ?_
  clear y0 y1 y2 y3 f0 f1 f2 f3
  generalize World.setCell _ _ _ = z1 at HRz HOz ⊢
  clear hK K
  try simp only [lz1, lz2, lz3, Act.put, lz4, lz5, lz6]
  refine AnyT.takeL (i := 4) (v := ?_) rfl (by kernel_rfl) (by kernel_rfl) (fun _ _ _ h => h) (by kernel_rfl) (by kernel_rfl) (Or.inl ⟨by rfl, ?_⟩) ?_
  rotate_left
  · (intro w9; go_simp; try with_reducible rfl)
  try simp only [lz1, lz2, lz3, Act.put, lz4, lz5, lz6]
  refine AnyT.nil (by kernel_rfl) ?_
  go_wp2_with fail
  obtain ⟨⟨q0, q1, q2, q3⟩, _⟩ := blk4 HRz.out
  have hNw := HN.out
  have hN1 := HN1.out
  have HO := HOz.out
  refine bodyPost_ret (v := .tuple #[.agg #[.bool true, .slice KA kn kc, .slice VA vn vc, .slice NA nn nc], .int .i64 0]) (by simp [results, Tryz.results92, go_sem, q0, q1, q2, q3]) rfl ⟨T2, B, KA, kn, kc, VA, vn, vc, NA, nn, nc, rfl, HO⟩
set_option maxHeartbeats 8000000 in
theorem tChildI (hS : TS w T g hand pre q ids ct) (hb : Blk w gt 121 #[.pointer (some ⟨g, 0, none⟩), .int .i64 root]) (hgt : ¬ T gt) (hi : id ∈ ids) (hq : q ≤ 900000) {ks : List (List UInt8)} {kd : List Nat} (hct : ct id = pageIn ks kd) (hn : kd.length = ks.length + 1) (hz : ∀ x ∈ kd, x ≤ 65535) (hup : UpK ks) (h64 : ∀ x ∈ ks, x.length ≤ 64) (hs : sizeIn ks kd.length ≤ 512) :
    Calls Tryz.prog 92 #[.pointer (some ⟨gt, 0, none⟩), .int .i64 (id : Int)] w fun e w' => ∃ (T' : Nat → Prop) (B : Nat) (KA : Option Addr) (kn kc : Nat) (VA : Option Addr) (vn vc : Nat) (NA : Option Addr) (nn nc : Nat), e = .returned (.tuple #[.agg #[.bool false, .slice KA kn kc, .slice VA vn vc, .slice NA nn nc], .int .i64 0]) ∧ NdOut false w T g hand pre q ids ct ks [] (izs kd) w' T' B KA kn kc VA vn vc NA nn nc := by
  have hr := Blk.new w 125 #[.bool false, .slice none 0 0, .slice none 0 0, .slice none 0 0]
  have hcr := (Chg.refl Non w).alloc (.cells #[.bool false, .slice none 0 0, .slice none 0 0, .slice none 0 0] 125)
  have hnr := sizeAl' w (.cells #[.bool false, .slice none 0 0, .slice none 0 0, .slice none 0 0] 125)
  have hTl := hS.lt
  go_enter Tryz.func92, Tryz.ntmps92
  go_upto_region 1 with fail
  obtain ⟨N, hN⟩ : ∃ N, N = w.heap.size := ⟨_, rfl⟩
  have hS1 := hS.c0 hcr
  have hb1 := hb.c0 hcr
  rw [← hN] at hr hnr ⊢
  have HN := hide hN
  clear hS hb hN
  generalize World.alloc w _ = w1 at hr hcr hnr hS1 hb1 ⊢
  have hnd := tNodeI hS1 hb1 hgt hi hq hct hn hz hup h64 hs
  have HR := hide hr
  have HC1 := hide hcr
  have HN1 := hide hnr
  have HTL := hide hTl
  clear hr hcr hnr hS1 hb1 hTl
  go_upto_region 2 with (go_at_call 134; refine hnd.mono ?_; rintro e w2 ⟨T2, B, KA, kn, kc, VA, vn, vc, NA, nn, nc, rfl, hO⟩)
  have hbb := Blk.new w2 125 #[.bool false, .slice KA kn kc, .slice VA vn vc, .slice NA nn nc]
  have hcB := (Chg.refl Non w2).alloc (.cells #[.bool false, .slice KA kn kc, .slice VA vn vc, .slice NA nn nc] 125)
  have hO3 := (hO.back HC1.out).c0 hcB
  have hs12 := hO.chg.size
  have hlo := hO.lo
  obtain ⟨gb, hgb⟩ : ∃ g, g = w2.heap.size := ⟨_, rfl⟩
  rw [← hgb] at hbb ⊢
  have HNw := HN.out
  have hnT : ¬ T2 N := fun h => by
    have h1 := HN1.out
    rcases hO.sub N h with h | h
    · have := HTL.out N h; omega
    · omega
  have hnT1 : ¬ T N := fun h => by have := HTL.out N h; omega
  have hr3 := (HR.out.chg hO.chg hnT1).c0 hcB
  have HGB := hide (show w1.heap.size ≤ gb by omega)
  generalize World.alloc w2 _ = w3 at hbb hcB hO3 hr3 ⊢
  have HBB := hide hbb
  have HO3 := hide hO3
  have HR3 := hide hr3
  have HNT := hide (And.intro hnT (show w1.heap.size ≤ B from hlo))
  clear hnd hbb hcB hO3 hs12 hgb HNw hnT hnT1 hr3 hO HR hlo
  refine wp_region_T (Chg Non w3) 3 (by kernel_rfl) ?_
  have HW0 := hide ((Chg.refl Non w3).drew)
  generalize World.drew w3 = x0 at HW0 ⊢
  refine AnyT.take (i := 0) (v := ?_) rfl (by kernel_rfl) (by kernel_rfl) (fun _ _ _ h => h) (by kernel_rfl) (by kernel_rfl) (Or.inl ⟨by rfl, ?_⟩) HW0.out ?_
  rotate_left
  · (intro w9 h9; obtain ⟨⟨y0, y1, y2, y3⟩, _⟩ := blk4 (HBB.out.c0 h9); go_simp; try with_reducible rfl)
  try simp only [lz1, lz2, lz3, Act.put, lz4, lz5, lz6]
  refine AnyT.takeM (i := 1) (v := ?_) rfl (by kernel_rfl) (by kernel_rfl) (fun _ _ _ h => h) (by kernel_rfl) (by kernel_rfl) (Or.inl ⟨by rfl, ?_⟩) HW0.out ?_
  rotate_left
  · (intro w9 h9; go_simp; try with_reducible rfl)
  try simp only [lz1, lz2, lz3, Act.put, lz4, lz5, lz6]
  refine AnyT.one (i := 2) (by kernel_rfl) rfl (fun K hK => ?_)
  rw [if_pos (by rfl)]
  try simp only [lz1, lz2, lz3, Act.put, lz4, lz5, lz6]
  have hcc := btWrong x0 0 (by decide)
  go_wp2_with (go_at_call 124; refine hcc.mono ?_; rintro e x1 ⟨rfl, hx1⟩; subst hx1)
  have HW1 := HW0
  refine hK.out _ _ (fun _ => HW1.out) ?_
  clear hcc
  clear hK K
  try simp only [lz1, lz2, lz3, Act.put, lz4, lz5, lz6]
  refine AnyT.one (i := 3) (by kernel_rfl) rfl (fun K hK => ?_)
  rw [if_pos (by rfl)]
  try simp only [lz1, lz2, lz3, Act.put, lz4, lz5, lz6]
  have hRx := HR3.out.c0 HW1.out
  have hOx := HO3.out.c0 HW1.out
  obtain ⟨⟨y0, y1, y2, y3⟩, f0, f1, f2, f3⟩ := blk4 hRx
  obtain ⟨hr8, hc8⟩ := put4 hRx (.bool false) (.slice KA kn kc) (.slice VA vn vc) (.slice NA nn nc)
  have HRz := hide hr8
  have HOz := hide (hOx.box hc8 (by have := HN.out; omega) (by have := HNT.out.2; have := HN1.out; omega) HNT.out.1)
  clear hr8 hc8 hRx hOx
  go_simp
  refine hK.out _ _ (fun h => absurd h (by decide)) ?_
  clear y0 y1 y2 y3 f0 f1 f2 f3
  generalize World.setCell _ _ _ = z1 at HRz HOz ⊢
  clear hK K
  try simp only [lz1, lz2, lz3, Act.put, lz4, lz5, lz6]
  refine AnyT.takeL (i := 4) (v := ?_) rfl (by kernel_rfl) (by kernel_rfl) (fun _ _ _ h => h) (by kernel_rfl) (by kernel_rfl) (Or.inl ⟨by rfl, ?_⟩) ?_
  rotate_left
  · (intro w9; go_simp; try with_reducible rfl)
  try simp only [lz1, lz2, lz3, Act.put, lz4, lz5, lz6]
  refine AnyT.nil (by kernel_rfl) ?_
  go_wp2_with fail
  obtain ⟨⟨q0, q1, q2, q3⟩, _⟩ := blk4 HRz.out
  have hNw := HN.out
  have hN1 := HN1.out
  have HO := HOz.out
  refine bodyPost_ret (v := .tuple #[.agg #[.bool false, .slice KA kn kc, .slice VA vn vc, .slice NA nn nc], .int .i64 0]) (by simp [results, Tryz.results92, go_sem, q0, q1, q2, q3]) rfl ⟨T2, B, KA, kn, kc, VA, vn, vc, NA, nn, nc, rfl, HO⟩
set_option maxHeartbeats 8000000 in
theorem tSaveL {F G H : Nat → Prop} {KA VA NA : Option Addr} {kn kc vn vc nn nc : Nat} (hS : TS w T g hand pre q ids ct) (hb : Blk w gt 121 #[.pointer (some ⟨g, 0, none⟩), .int .i64 root]) (hgt : ¬ T gt) (hi : id ∈ ids) (hq : q ≤ 900000) {l : List KV} (hk : RdBB w F (.slice KA kn kc) (ksL l)) (hv : RdBB w G (.slice VA vn vc) (vsL l)) (hni : RdI w H (.slice NA nn nc) []) (hg : GoodKV l) (hs : sizeKV l ≤ 512) :
    Calls Tryz.prog 87 #[.pointer (some ⟨gt, 0, none⟩), .int .i64 (id : Int), .agg #[.bool true, .slice KA kn kc, .slice VA vn vc, .slice NA nn nc]] w fun e w' => e = .returned (.int .i64 0) ∧ TS w' (Ext T w w') g hand pre (q + 1) ids (upd ct id (pageKV l)) ∧ Chg T w w' := by
  have hz0 : nn = 0 := by obtain ⟨_, _, e, _, _⟩ := hni.shape; injection e
  subst hz0
  have hr := Blk.new w 125 #[.bool true, .slice KA kn kc, .slice VA vn vc, .slice NA 0 nc]
  have hcr := (Chg.refl Non w).alloc (.cells #[.bool true, .slice KA kn kc, .slice VA vn vc, .slice NA 0 nc] 125)
  have henc := lfEncode (NA := NA) (nc := nc) (hk.c0 hcr) (hv.c0 hcr) hg hs
  have hpl := pageKV_length hs
  obtain ⟨pg, hpg⟩ : ∃ pg, pg = pageKV l := ⟨_, rfl⟩
  rw [← hpg] at henc hpl ⊢
  clear hpg hk hv hni hg hs
  go_enter Tryz.func87, Tryz.ntmps87
  go_upto_region 1 with fail
  obtain ⟨N, hN⟩ : ∃ N, N = w.heap.size := ⟨_, rfl⟩
  have hS1 := hS.c0 hcr
  have hb1 := hb.c0 hcr
  rw [← hN] at hr ⊢
  have HS := hide hS1
  have HBT := hide hb1
  have HC1 := hide hcr
  obtain ⟨⟨b0, b1, b2, b3⟩, _⟩ := blk4 hr
  clear hS hb hN hS1 hb1 hr hcr
  generalize World.alloc w _ = w1 at HS HBT HC1 henc b0 b1 b2 b3 ⊢
  go_wp2_with fail
  refine henc.mono ?_
  rintro e w2 ⟨u, rfl, hu, hc2⟩
  obtain ⟨UA, un, uc, rfl⟩ := hu.shapeH
  have hput := tPut (HS.out.c0 hc2) hi hq hu.rd hpl
  have k0 : w2.cell? ⟨gt, 0, none⟩ = some (.pointer (some ⟨g, 0, none⟩)) := (HBT.out.c0 hc2).cell 0
  have HC2 := hide (HC1.out.trans0 hc2)
  clear henc hu hc2 b0 b1 b2 b3
  go_wp2_with fail
  refine hput.mono ?_
  rintro e w3 ⟨rfl, hS3, hc3⟩
  have hw := btWrong w3 0 (by decide)
  have HS3 := hide hS3
  have HC3 := hide hc3
  clear hput hS3 hc3 k0
  go_wp2_with fail
  refine hw.mono ?_
  rintro e w4 ⟨rfl, hx⟩
  subst hx
  clear hw
  go_wp2_with fail
  go_ret
  have n2 := HC2.out.size
  have n3 := HC3.out.size
  exact ⟨rfl, HS3.out.up (fun b hb => hb.back n2) (fun b hb => by
    rcases hb with h | h
    · have := HS3.out.lt b (.inl h); omega
    · omega), (HC2.out.mono fun _ _ h => h.elim).trans HC3.out fun _ _ h => h⟩
set_option maxHeartbeats 8000000 in
theorem tSaveI {F G H : Nat → Prop} {KA VA NA : Option Addr} {kn kc vn vc nn nc : Nat} (hS : TS w T g hand pre q ids ct) (hb : Blk w gt 121 #[.pointer (some ⟨g, 0, none⟩), .int .i64 root]) (hgt : ¬ T gt) (hi : id ∈ ids) (hq : q ≤ 900000) {ks : List (List UInt8)} {kd : List Nat} (hk : RdBB w F (.slice KA kn kc) ks) (hv : RdBB w G (.slice VA vn vc) []) (hni : RdI w H (.slice NA nn nc) (izs kd)) (hn : kd.length = ks.length + 1) (hz : ∀ x ∈ kd, x ≤ 65535) (hup : UpK ks) (h64 : ∀ x ∈ ks, x.length ≤ 64) (hs : sizeIn ks kd.length ≤ 512) :
    Calls Tryz.prog 87 #[.pointer (some ⟨gt, 0, none⟩), .int .i64 (id : Int), .agg #[.bool false, .slice KA kn kc, .slice VA vn vc, .slice NA nn nc]] w fun e w' => e = .returned (.int .i64 0) ∧ TS w' (Ext T w w') g hand pre (q + 1) ids (upd ct id (pageIn ks kd)) ∧ Chg T w w' := by
  have hz0 : vn = 0 := by obtain ⟨_, _, e, _, _⟩ := hv.shape; injection e
  subst hz0
  have hr := Blk.new w 125 #[.bool false, .slice KA kn kc, .slice VA 0 vc, .slice NA nn nc]
  have hcr := (Chg.refl Non w).alloc (.cells #[.bool false, .slice KA kn kc, .slice VA 0 vc, .slice NA nn nc] 125)
  have henc := inEncode (hk.c0 hcr) (hv.c0 hcr) (hni.c0 hcr) hn hz hup h64 hs
  have hpl := pageIn_length hn hs
  obtain ⟨pg, hpg⟩ : ∃ pg, pg = pageIn ks kd := ⟨_, rfl⟩
  rw [← hpg] at henc hpl ⊢
  clear hpg hk hv hni hn hz hup h64 hs
  go_enter Tryz.func87, Tryz.ntmps87
  go_upto_region 1 with fail
  obtain ⟨N, hN⟩ : ∃ N, N = w.heap.size := ⟨_, rfl⟩
  have hS1 := hS.c0 hcr
  have hb1 := hb.c0 hcr
  rw [← hN] at hr ⊢
  have HS := hide hS1
  have HBT := hide hb1
  have HC1 := hide hcr
  obtain ⟨⟨b0, b1, b2, b3⟩, _⟩ := blk4 hr
  clear hS hb hN hS1 hb1 hr hcr
  generalize World.alloc w _ = w1 at HS HBT HC1 henc b0 b1 b2 b3 ⊢
  go_wp2_with fail
  refine henc.mono ?_
  rintro e w2 ⟨u, rfl, hu, hc2⟩
  obtain ⟨UA, un, uc, rfl⟩ := hu.shapeH
  have hput := tPut (HS.out.c0 hc2) hi hq hu.rd hpl
  have k0 : w2.cell? ⟨gt, 0, none⟩ = some (.pointer (some ⟨g, 0, none⟩)) := (HBT.out.c0 hc2).cell 0
  have HC2 := hide (HC1.out.trans0 hc2)
  clear henc hu hc2 b0 b1 b2 b3
  go_wp2_with fail
  refine hput.mono ?_
  rintro e w3 ⟨rfl, hS3, hc3⟩
  have hw := btWrong w3 0 (by decide)
  have HS3 := hide hS3
  have HC3 := hide hc3
  clear hput hS3 hc3 k0
  go_wp2_with fail
  refine hw.mono ?_
  rintro e w4 ⟨rfl, hx⟩
  subst hx
  clear hw
  go_wp2_with fail
  go_ret
  have n2 := HC2.out.size
  have n3 := HC3.out.size
  exact ⟨rfl, HS3.out.up (fun b hb => hb.back n2) (fun b hb => by
    rcases hb with h | h
    · have := HS3.out.lt b (.inl h); omega
    · omega), (HC2.out.mono fun _ _ h => h.elim).trans HC3.out fun _ _ h => h⟩
end
end Go.Proofs.YtliimeoblffigaaGreat

