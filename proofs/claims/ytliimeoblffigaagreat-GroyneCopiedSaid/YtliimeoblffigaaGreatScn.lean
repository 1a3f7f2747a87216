/- The walk of btree's Scan. -/
import Derived.Test.YtliimeoblffigaaGreatVit
import Derived.Laws.EntriesVeiled
open List renaming getElem_toArray → lz1, getElem_cons_succ → lz2, getElem_cons_zero → lz3, setIfInBounds_toArray → lz4, set_cons_zero → lz5, set_cons_succ → lz6
set_option linter.unusedVariables false
set_option linter.unusedSimpArgs false
set_option maxRecDepth 100000
namespace Go.Proofs.YtliimeoblffigaaGreat
open Go.RowKit Go.Maps
set_option linter.unusedVariables false
set_option linter.unusedSimpArgs false

section
variable {w : World} {T G : Nat → Prop} {g hand q n gt h : Nat} {pre : ByteArray} {l : List KV} {f t : List UInt8} {FA TA : Option Addr} {fn fc tn tc : Nat} {m : Int}
/-- the five boxes of a scan -/
theorem scBoxes {w5 : World} (hw : w5 = ((((w.alloc (.cells #[.slice FA fn fc] 30)).alloc (.cells #[.slice TA tn tc] 30)).alloc (.cells #[.int .i64 m] 3)).alloc (.cells #[.slice none 0 0] 34)).alloc (.cells #[.func (.func 59) #[] #[.pointer (some ⟨w.heap.size + 1 + 1, 0, none⟩), .pointer (some ⟨w.heap.size + 1 + 1 + 1, 0, none⟩)]] 117)) : ScE w5 (w.heap.size + 1 + 1) (w.heap.size + 1 + 1 + 1) (w.heap.size + 1 + 1 + 1 + 1) w.heap.size (w.heap.size + 1) m (.slice FA fn fc) (.slice TA tn tc) ∧ Blk w5 (w.heap.size + 1 + 1 + 1) 34 #[.slice none 0 0] ∧ Chg Non w w5 ∧ w5.heap.size = w.heap.size + 1 + 1 + 1 + 1 + 1 := by
 obtain ⟨w1, h1⟩ : ∃ x, x = w.alloc (.cells #[.slice FA fn fc] 30) := ⟨_, rfl⟩
 rw [← h1] at hw
 obtain ⟨w2, h2⟩ : ∃ x, x = w1.alloc (.cells #[.slice TA tn tc] 30) := ⟨_, rfl⟩
 rw [← h2] at hw
 obtain ⟨w3, h3⟩ : ∃ x, x = w2.alloc (.cells #[.int .i64 m] 3) := ⟨_, rfl⟩
 rw [← h3] at hw
 obtain ⟨w4, h4⟩ : ∃ x, x = w3.alloc (.cells #[.slice none 0 0] 34) := ⟨_, rfl⟩
 rw [← h4] at hw
 have s1 : w1.heap.size = w.heap.size + 1 := by rw [h1]; exact sizeAl' _ _
 have s2 : w2.heap.size = w.heap.size + 1 + 1 := by rw [h2, sizeAl', s1]
 have s3 : w3.heap.size = w.heap.size + 1 + 1 + 1 := by rw [h3, sizeAl', s2]
 have s4 : w4.heap.size = w.heap.size + 1 + 1 + 1 + 1 := by rw [h4, sizeAl', s3]
 have s5 : w5.heap.size = w.heap.size + 1 + 1 + 1 + 1 + 1 := by rw [hw, sizeAl', s4]
 have c1 : Chg Non w w1 := by rw [h1]; exact (Chg.refl Non _).alloc _
 have c2 : Chg Non w1 w2 := by rw [h2]; exact (Chg.refl Non _).alloc _
 have c3 : Chg Non w2 w3 := by rw [h3]; exact (Chg.refl Non _).alloc _
 have c4 : Chg Non w3 w4 := by rw [h4]; exact (Chg.refl Non _).alloc _
 have c5 : Chg Non w4 w5 := by rw [hw]; exact (Chg.refl Non _).alloc _
 have b1 : Blk w1 w.heap.size 30 #[.slice FA fn fc] := by rw [h1]; exact Blk.new _ _ _
 have b2 : Blk w2 (w.heap.size + 1) 30 #[.slice TA tn tc] := by rw [h2, ← s1]; exact Blk.new _ _ _
 have b3 : Blk w3 (w.heap.size + 1 + 1) 3 #[.int .i64 m] := by rw [h3, ← s2]; exact Blk.new _ _ _
 have b4 : Blk w4 (w.heap.size + 1 + 1 + 1) 34 #[.slice none 0 0] := by rw [h4, ← s3]; exact Blk.new _ _ _
 have b5 : Blk w5 (w.heap.size + 1 + 1 + 1 + 1) 117 #[.func (.func 59) #[] #[.pointer (some ⟨w.heap.size + 1 + 1, 0, none⟩), .pointer (some ⟨w.heap.size + 1 + 1 + 1, 0, none⟩)]] := by rw [hw, ← s4]; exact Blk.new _ _ _
 exact ⟨⟨(b3.c0 c4).c0 c5, b5, (((b1.c0 c2).c0 c3).c0 c4).c0 c5, ((b2.c0 c3).c0 c4).c0 c5⟩, b4.c0 c5, (((c1.trans0 c2).trans0 c3).trans0 c4).trans0 c5, s5⟩
theorem fullM_nil (m : Int) : fullM m [] = false := by
 unfold fullM
 by_cases h : 0 < m
 ·rw [decide_eq_true h, decide_eq_false (by simp; omega)]; rfl
 ·rw [decide_eq_false h]; rfl
theorem cutM_nil (m : Int) : cutM m ([] : List KV) = [] := by unfold cutM; split <;> simp
set_option maxHeartbeats 16000000 in
theorem tScan (hT : Tree w T g hand pre q n gt h l) (hf : RdB w G (.slice FA fn fc) f) (ht : RdB w G (.slice TA tn tc) t) (hG : ∀ b, G b → ¬ T b ∧ b ≠ gt) (hh : h ≤ 63) (hq : q + n ≤ 900000) (hl : l.length ≤ 900000) :
  Calls Tryz.prog 21 #[.pointer (some ⟨gt, 0, none⟩), .slice FA fn fc, .slice TA tn tc, .int .i64 m] w fun e w' => ∃ (u : Value) (T' : Nat → Prop), e = .returned (.tuple #[u, .int .i64 0]) ∧ RdE elP w' (fun b => w.heap.size ≤ b ∧ ¬ T' b ∧ b < w'.heap.size) u (cutM m (rngL f t l)) ∧ Tree w' T' g hand pre (q + n) n gt h l ∧ (∀ b, T' b → Ext T w w' b) ∧ Chg T w w' := by
 obtain ⟨ids, ct, r, ps, hS, hgt, hb, hTR, hnd, hin, hlen⟩ := hT
 obtain ⟨w5, hw5⟩ : ∃ x, x = ((((w.alloc (.cells #[.slice FA fn fc] 30)).alloc (.cells #[.slice TA tn tc] 30)).alloc (.cells #[.int .i64 m] 3)).alloc (.cells #[.slice none 0 0] 34)).alloc (.cells #[.func (.func 59) #[] #[.pointer (some ⟨w.heap.size + 1 + 1, 0, none⟩), .pointer (some ⟨w.heap.size + 1 + 1 + 1, 0, none⟩)]] 117) := ⟨_, rfl⟩
 obtain ⟨hE, hbo, hc5, hs5⟩ := scBoxes hw5
 have hps : ps.length ≤ n := Nat.le_trans (len_sub ps ids hnd hin) hlen
 have HPS := hide hps
 have HT := hide (And.intro hTR (And.intro hnd (And.intro hin hlen)))
 have hTl := hS.lt
 have hgl := hb.lt
 have H0 : VSt ⟨w.heap.size + 1 + 1 + 1 + 1 + 1, w.heap.size + 1 + 1, w.heap.size + 1 + 1 + 1, w.heap.size + 1 + 1 + 1 + 1, w.heap.size, w.heap.size + 1, m, FA, fn, fc, TA, tn, tc, fun b => G b ∧ b < w.heap.size, f, t, g, hand, gt, (r : Int), pre⟩ w5 T q ids ct (.slice none 0 0) [] :=
  ⟨hS.c0 hc5, hb.c0 hc5, ⟨hgt, by dsimp only; omega, by dsimp only; omega⟩, hE, ⟨by dsimp only; omega, ⟨by dsimp only; omega, by dsimp only; omega⟩, ⟨by dsimp only; omega, by dsimp only; omega⟩, ⟨by dsimp only; omega, by dsimp only; omega⟩, by dsimp only; omega, by dsimp only; omega⟩, ⟨fun h => by have := hTl _ h; dsimp only at this; omega, fun h => by have := hTl _ h; dsimp only at this; omega, fun h => by have := hTl _ h; dsimp only at this; omega, fun h => by have := hTl _ h; dsimp only at this; omega, fun h => by have := hTl _ h; dsimp only at this; omega⟩,
   hf.lt.c0 hc5, ht.lt.c0 hc5, fun b hb => ⟨by have := hb.2; dsimp only; omega, by have := hb.2; dsimp only; omega, (hG b hb.1).1⟩, hbo, OwnE.nil_ _ _ _ _ _, (fun b e => by cases e), by dsimp only; omega, cutM_nil m⟩
 have HC5 := hide (And.intro hc5 (And.intro hs5 hTl))
 have HE5 := hide hE
 have HBT := hide (hb.c0 hc5)
 have HV := hide H0
 clear hS hb hTR hnd hin hlen hE hbo hc5 hs5 hps hTl hgl H0 hf ht hG
 go_enter Tryz.func21, Tryz.ntmps21
 go_upto_region 3 with fail
 rw [← hw5]
 clear hw5
 obtain ⟨N, hN⟩ : ∃ N, N = w.heap.size := ⟨_, rfl⟩
 rw [← hN] at HV HE5 HC5 ⊢
 have HN := hide hN
 clear hN
 refine wp_region_T (Chg Non w5) 8 (by kernel_rfl) ?_
 have HW0 := hide ((Chg.refl Non w5).drew)
 generalize World.drew w5 = x0 at HW0 ⊢
 refine AnyT.takeM (i := 0) (v := ?_) rfl (by kernel_rfl) (by kernel_rfl) (fun _ _ _ h => h) (by kernel_rfl) (by kernel_rfl) (Or.inl ⟨by rfl, ?_⟩) HW0.out ?_
 rotate_left
 ·(intro w9 h9; go_simp; try with_reducible rfl)
 try simp only [lz1, lz2, lz3, Act.put, lz4, lz5, lz6]
 refine AnyT.takeM (i := 1) (v := ?_) rfl (by kernel_rfl) (by kernel_rfl) (fun _ _ _ h => h) (by kernel_rfl) (by kernel_rfl) (Or.inl ⟨by rfl, ?_⟩) HW0.out ?_
 rotate_left
 ·(intro w9 h9; go_simp; try with_reducible rfl)
 try simp only [lz1, lz2, lz3, Act.put, lz4, lz5, lz6]
 refine AnyT.takeM (i := 2) (v := ?_) rfl (by kernel_rfl) (by kernel_rfl) (fun _ _ _ h => h) (by kernel_rfl) (by kernel_rfl) (Or.inl ⟨by rfl, ?_⟩) HW0.out ?_
 rotate_left
 ·(intro w9 h9; go_simp; try with_reducible rfl)
 try simp only [lz1, lz2, lz3, Act.put, lz4, lz5, lz6]
 refine AnyT.takeM (i := 3) (v := ?_) rfl (by kernel_rfl) (by kernel_rfl) (fun _ _ _ h => h) (by kernel_rfl) (by kernel_rfl) (Or.inl ⟨by rfl, ?_⟩) HW0.out ?_
 rotate_left
 ·(intro w9 h9; go_simp; try with_reducible rfl)
 try simp only [lz1, lz2, lz3, Act.put, lz4, lz5, lz6]
 refine AnyT.takeM (i := 4) (v := ?_) rfl (by kernel_rfl) (by kernel_rfl) (fun _ _ _ h => h) (by kernel_rfl) (by kernel_rfl) (Or.inl ⟨by rfl, ?_⟩) HW0.out ?_
 rotate_left
 ·(intro w9 h9; obtain ⟨y0, y1⟩ := blk2 (HBT.out.c0 h9); go_simp; try with_reducible rfl)
 try simp only [lz1, lz2, lz3, Act.put, lz4, lz5, lz6]
 refine AnyT.takeM (i := 5) (v := ?_) rfl (by kernel_rfl) (by kernel_rfl) (fun _ _ _ h => h) (by kernel_rfl) (by kernel_rfl) (Or.inl ⟨by rfl, ?_⟩) HW0.out ?_
 rotate_left
 ·(intro w9 h9; have y0 := blk1 (HE5.out.fr.c0 h9); go_simp; try with_reducible rfl)
 try simp only [lz1, lz2, lz3, Act.put, lz4, lz5, lz6]
 refine AnyT.takeM (i := 6) (v := ?_) rfl (by kernel_rfl) (by kernel_rfl) (fun _ _ _ h => h) (by kernel_rfl) (by kernel_rfl) (Or.inl ⟨by rfl, ?_⟩) HW0.out ?_
 rotate_left
 ·(intro w9 h9; have y0 := blk1 (HE5.out.tt.c0 h9); go_simp; try with_reducible rfl)
 try simp only [lz1, lz2, lz3, Act.put, lz4, lz5, lz6]
 refine AnyT.takeM (i := 7) (v := ?_) rfl (by kernel_rfl) (by kernel_rfl) (fun _ _ _ h => h) (by kernel_rfl) (by kernel_rfl) (Or.inl ⟨by rfl, ?_⟩) HW0.out ?_
 rotate_left
 ·(intro w9 h9; go_simp; try with_reducible rfl)
 try simp only [lz1, lz2, lz3, Act.put, lz4, lz5, lz6]
 refine AnyT.one (i := 8) (by kernel_rfl) rfl (fun K hK => ?_)
 rw [if_pos (by rfl)]
 try simp only [lz1, lz2, lz3, Act.put, lz4, lz5, lz6]
 have hcc := tVisit h (d := 1) (HV.out.c0 HW0.out) HT.out.1 HT.out.2.1 HT.out.2.2.1 (by have := HPS.out; omega) (by omega) (fullM_nil m) (by simp; omega)
 unfold ScK.take VisP at hcc
 dsimp only at hcc
 rw [List.nil_append] at hcc
 go_wp2_with (go_at_call 60; refine hcc.mono ?_; rintro e x1 ⟨rfl, T7, v7, hV7, hs7, hc7, hat7⟩)
 refine hK.out _ _ (fun h => absurd h (by decide)) ?_
 have HX := hide (And.intro hV7 (And.intro hs7 (And.intro hc7 hat7)))
 clear hcc hV7 hs7 hc7 hat7
 clear hK K
 try simp only [lz1, lz2, lz3, Act.put, lz4, lz5, lz6]
 refine AnyT.takeL (i := 9) (v := ?_) rfl (by kernel_rfl) (by kernel_rfl) (fun _ _ _ h => h) (by kernel_rfl) (by kernel_rfl) (Or.inl ⟨by rfl, ?_⟩) ?_
 rotate_left
 ·(intro w9; go_simp; try with_reducible rfl)
 try simp only [lz1, lz2, lz3, Act.put, lz4, lz5, lz6]
 refine AnyT.takeL (i := 10) (v := ?_) rfl (by kernel_rfl) (by kernel_rfl) (fun _ _ _ h => h) (by kernel_rfl) (by kernel_rfl) (Or.inl ⟨by rfl, ?_⟩) ?_
 rotate_left
 ·(intro w9; go_simp; try with_reducible rfl)
 try simp only [lz1, lz2, lz3, Act.put, lz4, lz5, lz6]
 refine AnyT.takeL (i := 11) (v := ?_) rfl (by kernel_rfl) (by kernel_rfl) (fun _ _ _ h => h) (by kernel_rfl) (by kernel_rfl) (Or.inl ⟨by rfl, ?_⟩) ?_
 rotate_left
 ·(intro w9; go_simp; try with_reducible rfl)
 try simp only [lz1, lz2, lz3, Act.put, lz4, lz5, lz6]
 refine AnyT.takeL (i := 12) (v := ?_) rfl (by kernel_rfl) (by kernel_rfl) (fun _ _ _ h => h) (by kernel_rfl) (by kernel_rfl) (Or.inl ⟨by rfl, ?_⟩) ?_
 rotate_left
 ·(intro w9; go_simp; try with_reducible rfl)
 try simp only [lz1, lz2, lz3, Act.put, lz4, lz5, lz6]
 refine AnyT.takeL (i := 13) (v := ?_) rfl (by kernel_rfl) (by kernel_rfl) (fun _ _ _ h => h) (by kernel_rfl) (by kernel_rfl) (Or.inl ⟨by rfl, ?_⟩) ?_
 rotate_left
 ·(intro w9; go_simp; try with_reducible rfl)
 try simp only [lz1, lz2, lz3, Act.put, lz4, lz5, lz6]
 refine AnyT.nil (by kernel_rfl) ?_
 obtain ⟨VA, vn, vc, rfl⟩ := HX.out.1.own.shapeH
 have y0 := blk1 HX.out.1.bo
 dsimp only at y0
 go_wp2_with fail
 go_ret2
 have hx := HX.out
 have hc5 := HC5.out
 have hn := HN.out
 have n7 := hx.2.2.1.size
 have nx := HW0.out.size
 have ho := hx.1.own
 have hT7 : ¬ T7 gt := hx.1.off.1
 refine ⟨_, T7, rfl, ho.rd.mono fun b hb => ?_, ⟨ids, ct, r, ps, hx.1.ts.le_q (by have := HPS.out; omega), hT7, hx.1.tr, HT.out.1, HT.out.2.1, HT.out.2.2.1, HT.out.2.2.2⟩, fun b hb => ?_, ((hc5.1.trans0 HW0.out).mono (S' := T) fun _ _ h => (h : False).elim).trans hx.2.2.1 fun b hb h => ?_⟩
 ·rcases hb.1 with h | h
  ·have h1 := h.1; dsimp only at h1; exact ⟨by omega, h.2, hb.2⟩
  ·have h1 := (ho.bl b h).1; dsimp only at h1; exact ⟨by omega, hx.1.ov b h, hb.2⟩
 ·rcases hx.2.1 b hb with h | h
  ·exact .inl h
  ·exact .inr ⟨by omega, h.2⟩
 ·rcases h with h | h | h
  ·exact h
  ·omega
  ·cases h
end
end Go.Proofs.YtliimeoblffigaaGreat

