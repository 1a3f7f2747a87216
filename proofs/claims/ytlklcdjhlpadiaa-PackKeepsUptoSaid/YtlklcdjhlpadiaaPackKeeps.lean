/- PackKeeps, where what it reads is of bulk at most 1048576: no call of pack changes or keeps what it is handed, and all answers are memory of their own. -/
import Derived.Test.YtlklcdjhlpadiaaAwake01
import Derived.Test.YtlklcdjhlpadiaaOpen
import Derived.Test.YtlklcdjhlpadiaaPackA
import Derived.Test.YtlklcdjhlpadiaaRefB
import Derived.Test.YtlklcdjhlpadiaaWtr
import Derived.Test.YtlklcdjhlpadiaaPkSplit
import Derived.Test.YtlklcdjhlpadiaaApart
import Derived.Test.YtlklcdjhlpadiaaKept
import Derived.Deep.RegionLaw
namespace Go.Proofs.Ytlklcdjhlpadiaa.packKeeps
open Go.ChangeShapes Go.WideShapes Go.ChangeAt Go.RowKit Go.Deep
open Go.ChangeMaps (open_string shut_string)
set_option linter.unusedVariables false

theorem OwnB.c0 {w w' : World} {base : Nat} {v : Value} {l : List UInt8} (h : OwnB w base v l) (hc : Chg Non w w') : OwnB w' base v l := h.chg hc fun _ _ h => h
theorem ofQ {w w' : World} (h : ∃ k, w' = w.drewN k) : Chg Non w w' := (Chg.refl _ _).quiet h
theorem RdBB.two {w : World} {F : Nat → Prop} {v u : Value} {l m : List UInt8} (h : RdB w F v l) (h' : RdB w F u m) (t : TypeId) :
    RdBB (w.alloc (.cells #[v, u] t)) (fun k => F k ∨ k = w.heap.size) (.slice (some ⟨w.heap.size, 0, Option.none⟩) 2 2) [l, m] := by
  refine ⟨[v, u], rfl, ⟨rfl, some ⟨w.heap.size, 0, Option.none⟩, 2, rfl, Nat.le_refl _, by simp [maxLen], fun _ => ⟨_, rfl, .inr rfl, fun j x hu => ?_⟩⟩, fun k x l' hx hl => ?_⟩
  · rw [add_none, Nat.zero_add, (Blk.new w t #[v, u]).cell]
    simpa using hu
  · match k, hx, hl with
    | 0, hx, hl =>
      simp at hx hl
      subst hx; subst hl
      exact (h.al _).mono fun k hk => .inl hk
    | 1, hx, hl =>
      simp at hx hl
      subst hx; subst hl
      exact (h'.al _).mono fun k hk => .inl hk
    | k + 2, hx, hl => simp at hx
theorem keeps_absurd {k n : Nat} (h : k < n) (h2 : n ≤ k) : False := by omega
theorem OwnCh.dr {w : World} {lo : Nat} : ∀ {r : List (Value × List UInt8)}, OwnCh w lo r → OwnCh w.drew lo r
  | [], _ => trivial
  | (x, l) :: r, ⟨h0, h1, hr⟩ => ⟨h0, h1, OwnCh.dr hr⟩
theorem text_part (pre l post : List UInt8) (hl : l.length < 18446744073709551616) : textR (pre ++ (partB l ++ post)) pre.length 0 = (l, (pre ++ partB l).length, 0) := by
  have h1 := hd_part (l := l) hl post
  have h2 := numR_ok (l := pre ++ (partB l ++ post)) (a := pre.length) (by rw [List.drop_left]; exact h1)
  have hp : (partB l).length = (numB l.length).length + l.length := by rw [partB, List.length_append]
  rw [textR_ok h2 (by simp only [List.length_append]; omega), ← List.drop_drop, List.drop_left, partB, List.append_assoc, List.drop_left, List.take_left]
  simp only [List.length_append, Nat.add_assoc]

set_option maxRecDepth 100000 in
set_option maxHeartbeats 4000000 in
theorem walk {W : World} {v0 v1 : Value} {a b : List UInt8} (ha : RdB W (fun k => k < W.heap.size) v0 a) (hb : RdB W (fun k => k < W.heap.size) v1 b) (hz : a.length + b.length ≤ 1048576) :
    Calls Try.prog 8 #[v0, v1] W fun e W' => e = .returned (.bool true) ∧ Chg Non W W' := by
  have hal : a.length ≤ 1048576 := by omega
  have hbl : b.length ≤ 1048576 := by omega
  clear hz
  go_enter Try.func8, Try.ntmps8
  go_wp2_with fail
  refine awake01.mono ?_
  rintro e w1 ⟨rfl, g1⟩
  have ha1 := ha.c0 g1
  have hb1 := hb.c0 g1
  have z1 := g1.size
  clear ha hb
  have hsp := refSpare ha1 (by omega)
  go_wp2_with fail
  refine hsp.mono ?_
  rintro e w2 ⟨x, fx, rfl, hfx, hx, k2⟩
  obtain ⟨A1, n1, c1, rfl⟩ := OwnB.slc hfx
  have ha2 := ha1.c0 k2
  have hb2 := hb1.c0 k2
  have g2 := g1.trans0 k2
  have z2 := k2.size
  have hsp := refSpare hb2 (by omega)
  clear ha1 hb1 g1 k2
  go_wp2_with fail
  refine hsp.mono ?_
  rintro e w3 ⟨y, fy, rfl, hfy, hy, k3⟩
  obtain ⟨A2, n2, c2, rfl⟩ := OwnB.slc hfy
  have ha3 := ha2.c0 k3
  have hb3 := hb2.c0 k3
  have g3 := g2.trans0 k3
  have z3 := k3.size
  have hfx3 := OwnB.c0 hfx k3
  have hx3 := hx.c0 k3
  clear hsp ha2 hb2 g2 hx
  -- the writer
  have hW := Wtr.new w3
  have ka := (Chg.refl Non w3).alloc (.cells #[.slice none 0 0] 61)
  have ltx := hfx.lt
  have lty := hfy.lt
  have hx3a := (hx3.c0 ka).mono (F' := fun k => k < w3.heap.size) fun k hk => by have := (ltx k hk).2; omega
  have hy3a := (hy.c0 ka).mono (F' := fun k => k < w3.heap.size) fun k hk => (lty k hk).2
  have z3a : (w3.alloc (.cells #[.slice none 0 0] 61)).heap.size = w3.heap.size + 1 := by simp
  obtain ⟨X, nx, cx, rfl⟩ : ∃ A n c, x = .slice A n c := by obtain ⟨A, c, e, _⟩ := hx3a.shape; exact ⟨A, _, c, e⟩
  obtain ⟨Y, ny, cy, rfl⟩ : ∃ A n c, y = .slice A n c := by obtain ⟨A, c, e, _⟩ := hy3a.shape; exact ⟨A, _, c, e⟩
  have htwo := RdBB.two hx3a hy3a 22
  have hWa := hW.al (.cells #[.slice X nx cx, .slice Y ny cy] 22)
  rw [z3a] at htwo
  have hfl := flatB_length [a, b]
  have hM : flatB [a, b] = partB a ++ (partB b ++ []) := rfl
  have hpa : (partB a).length ≤ a.length + 9 := by rw [partB, List.length_append]; have := numB_length a.length; omega
  have hpb : (partB b).length ≤ b.length + 9 := by rw [partB, List.length_append]; have := numB_length b.length; omega
  have hMl : (flatB [a, b]).length ≤ 3000000 := by rw [hM]; simp only [List.length_append, List.length_nil]; omega
  have htxt := wtrText hWa htwo (fun k hk hw => by
    rcases hw with h | h
    · rcases hk with hk | hk <;> omega
    · simp [Value.ownBlock] at h) (by simp; omega)
  rw [List.nil_append] at htxt
  obtain ⟨M, hMe⟩ : ∃ M, M = flatB [a, b] := ⟨_, rfl⟩
  rw [← hMe] at htxt hMl
  have HM := hide (hMe.trans hM)
  have HM2 := hide hMe
  have kb := ka.alloc (.cells #[.slice X nx cx, .slice Y ny cy] 22)
  have ha3b := ha3.c0 kb
  have hb3b := hb3.c0 kb
  have hfx3b := OwnB.c0 hfx3 kb
  have hfy3b := OwnB.c0 hfy kb
  have hx3b := hx3a.al (.cells #[.slice X nx cx, .slice Y ny cy] 22)
  have hy3b := hy3a.al (.cells #[.slice X nx cx, .slice Y ny cy] 22)
  have g3b := g3.trans0 kb
  have zb := kb.size
  clear hM hMe hfl hpa hpb htwo hW hWa ha3 hb3 g3 hfx3 hx3 hy hx3a hy3a ka z3a
  go_wp2_with fail
  generalize hgw : (w3.alloc (.cells #[.slice none 0 0] 61)).alloc (.cells #[.slice X nx cx, .slice Y ny cy] 22) = w3b at htxt kb ha3b hb3b hfx3b hfy3b hx3b hy3b g3b zb ⊢
  clear hgw
  obtain ⟨gW, hgW⟩ : ∃ gW, gW = w3.heap.size := ⟨_, rfl⟩
  rw [← hgW] at htxt hx3b hy3b z3 zb ⊢
  have hWB0 : ∀ k, WB gW (.slice none 0 0) k → k = gW := fun k hk => by
    rcases hk with h | h
    · exact h
    · simp [Value.ownBlock] at h
  have hgW3 := hide hgW
  have HLY := hide (show ∀ b, (Value.slice A2 n2 c2).ownBlock = some b → w2.heap.size ≤ b ∧ b < gW from by rw [hgW]; exact lty)
  have HLX := hide ltx
  clear hgW lty ltx kb
  refine htxt.mono ?_
  rintro e w4 ⟨rfl, wv, hW4, k4, G4⟩
  have ha4 := ha3b.chg k4 fun k hk e => by have := hWB0 k e; omega
  have hb4 := hb3b.chg k4 fun k hk e => by have := hWB0 k e; omega
  have hfx4 := hfx3b.chg k4 fun k hk e => by have := hWB0 k e; have := (HLX.out k hk).2; omega
  have hfy4 := hfy3b.chg k4 fun k hk e => by have := hWB0 k e; have := (HLY.out k hk).2; omega
  have hx4 := hx3b.chg k4 fun k hk e => by have := hWB0 k e; omega
  have hy4 := hy3b.chg k4 fun k hk e => by have := hWB0 k e; omega
  have g4 : Chg Non W w4 := g3b.trans k4 fun k hk e => by have := hWB0 k e; omega
  have z4 := k4.size
  have HLW := hide hW4.lt
  have hbt := wtrBytes hW4 (by omega)
  clear htxt ha3b hb3b hfx3b hfy3b hx3b hy3b g3b k4 G4 hWB0
  go_wp2_with fail
  refine hbt.mono ?_
  rintro e w5 ⟨one, rfl, hone, k5⟩
  obtain ⟨A3, n3, c3, rfl⟩ := OwnB.slc hone
  have hW5 := hW4.c0 k5
  have z5 := k5.size
  have hbt := wtrBytes hW5 (by omega)
  go_wp2_with fail
  refine hbt.mono ?_
  rintro e w6 ⟨two, rfl, htwo, k6⟩
  obtain ⟨A4, n4, c4, rfl⟩ := OwnB.slc htwo
  have z6 := k6.size
  have k56 := k5.trans0 k6
  have hW6 := hW5.c0 k6
  have ha6 := ha4.c0 k56
  have hb6 := hb4.c0 k56
  have hfx6 := OwnB.c0 hfx4 k56
  have hfy6 := OwnB.c0 hfy4 k56
  have hx6 := hx4.c0 k56
  have hy6 := hy4.c0 k56
  have hone6 := OwnB.c0 hone k6
  have g6 := g4.trans0 k56
  have htw := RdBB.two hx6 hy6 22
  have hjl : (joinB [a, b]).length + 18 ≤ 140737488355328 := by
    have h1 := numB_length [a, b].length
    rw [joinB, List.length_append, ← HM2.out]; omega
  have hjoin := packJoin htw hjl
  have hfit : Fits [a, b] := ⟨by simp, fun l hl => by
    simp only [List.mem_cons, List.not_mem_nil, or_false] at hl
    rcases hl with rfl | rfl <;> omega⟩
  have hspl := splitB_join [a, b] hfit
  have hjl2 : (joinB [a, b]).length < 1000000000000 := by
    have h1 := numB_length [a, b].length
    rw [joinB, List.length_append, ← HM2.out]; omega
  have hJ3 : (joinB [a, b]).length ≤ 4000000 := by
    have h1 := numB_length [a, b].length
    rw [joinB, List.length_append, ← HM2.out]; omega
  obtain ⟨J, hJ⟩ : ∃ J, J = joinB [a, b] := ⟨_, rfl⟩
  rw [← hJ] at hjoin hspl hjl2 hJ3
  have HSPL := hide hspl
  have HJ := hide hJ
  have kc := (Chg.refl Non w6).alloc (.cells #[.slice X nx cx, .slice Y ny cy] 22)
  clear hbt ha4 hb4 hfx4 hfy4 hx4 hy4 g4 k5 k6 k56 hW5 hW4 htw hjl hfit hspl hJ
  go_wp2_with fail
  refine hjoin.mono ?_
  rintro e w7 ⟨j, rfl, hj, k7⟩
  obtain ⟨A5, n5, c5, rfl⟩ := OwnB.slc hj
  have k67 := kc.trans0 k7
  have HLJ := hide hj.lt
  have z67 := kc.size
  have z7 := k7.size
  have hW7 := hW6.c0 k67
  have ha7 := ha6.c0 k67
  have hb7 := hb6.c0 k67
  have hfx7 := OwnB.c0 hfx6 k67
  have hfy7 := OwnB.c0 hfy6 k67
  have hx7 := hx6.c0 k67
  have hone7 := OwnB.c0 hone6 k67
  have htwo7 := OwnB.c0 htwo k67
  have hj7 := hj.low z67
  have g7 := g6.trans0 k67
  have hsplit := packSplit hj.rd hjl2
  rw [HSPL.out] at hsplit
  simp only at hsplit
  clear hjoin ha6 hb6 hfx6 hfy6 hx6 hy6 hone6 g6 kc k7 k67 hW6 hj
  go_wp2_with fail
  refine hsplit.mono ?_
  rintro e w8 ⟨lv, rfl, hlv, k8⟩
  obtain ⟨vs, hvl, hR⟩ := RowsC.of hlv
  have hvl2 : vs.length = 2 := by rw [hvl]; rfl
  obtain ⟨gl, cl, he, hgl, _⟩ := hR.head (by omega)
  subst he
  obtain ⟨p, hp⟩ : ∃ p, vs[0]? = some p := ⟨_, List.getElem?_eq_getElem (by omega)⟩
  obtain ⟨q, hq⟩ : ∃ q, vs[1]? = some q := ⟨_, List.getElem?_eq_getElem (by omega)⟩
  have hpc := hR.cell hp
  have hqc := hR.cell hq
  have hpo : OwnB w8 w7.heap.size p a := hR.2.2 0 p hp
  have hqo : OwnB w8 w7.heap.size q b := hR.2.2 1 q hq
  have hpq : ∀ b, p.ownBlock = some b → q.ownBlock ≠ some b := fun b hb e => by have := hR.sep hp hq hb e; omega
  rw [hvl2]
  obtain ⟨A6, n6, c6, rfl⟩ := OwnB.slc hpo
  obtain ⟨A7, n7, c7, rfl⟩ := OwnB.slc hqo
  have z8 := k8.size
  have hW8 := hW7.c0 k8
  have ha8 := ha7.c0 k8
  have hb8 := hb7.c0 k8
  have hfx8 := OwnB.c0 hfx7 k8
  have hfy8 := OwnB.c0 hfy7 k8
  have hx8 := hx7.c0 k8
  have hone8 := OwnB.c0 hone7 k8
  have htwo8 := OwnB.c0 htwo7 k8
  have hj8 := OwnB.c0 hj7 k8
  have g8 := g7.trans0 k8
  have hread := packRead hone8.rd (by omega)
  clear hsplit ha7 hb7 hfx7 hfy7 hx7 hone7 htwo7 hj7 g7 k8 hW7 hlv hR hp hq
  go_wp2_with fail
  refine hread.mono ?_
  rintro e w9 ⟨gr, rfl, hgr, hrd, k9⟩
  have z9 := k9.size
  have hgr9 := hrd.lt
  have hW9 := hW8.c0 k9
  have ha9 := ha8.c0 k9
  have hb9 := hb8.c0 k9
  have hfx9 := OwnB.c0 hfx8 k9
  have hfy9 := OwnB.c0 hfy8 k9
  have hx9 := hx8.c0 k9
  have hone9 := OwnB.c0 hone8 k9
  have htwo9 := OwnB.c0 htwo8 k9
  have hj9 := OwnB.c0 hj8 k9
  have hpo9 := OwnB.c0 hpo k9
  have hqo9 := OwnB.c0 hqo k9
  have hpc9 := k9.cell hpc id
  have hqc9 := k9.cell hqc id
  have g9 := g8.trans0 k9
  have ht1 : textR M 0 0 = (a, (partB a).length, 0) := by
    have h := text_part [] a (partB b ++ []) (by omega)
    rw [HM.out]
    simpa using h
  have ht2 : textR M (partB a).length 0 = (b, (partB a ++ partB b).length, 0) := by
    have h := text_part (partB a) b [] (by omega)
    rw [HM.out]
    exact h
  have htx := rdrText hrd (by omega)
  rw [ht1] at htx
  simp only at htx
  have HT2 := hide ht2
  clear hread ha8 hb8 hfx8 hfy8 hx8 hone8 htwo8 hj8 g8 k9 hW8 hpc hqc ht1 ht2 hrd
  go_wp2_with fail
  refine htx.mono ?_
  rintro e w10 ⟨s, rfl, hs, hrd, k10⟩
  obtain ⟨A8, n8, c8, rfl⟩ := OwnB.slc hs
  have z10 := k10.size
  have htx := rdrText hrd (by omega)
  rw [HT2.out] at htx
  simp only at htx
  go_wp2_with fail
  refine htx.mono ?_
  rintro e w11 ⟨t, rfl, ht, hrd2, k11⟩
  obtain ⟨A9, n9, c9, rfl⟩ := OwnB.slc ht
  have z11 := k11.size
  have kt : Chg (fun k => k = gr) w9 w11 := k10.trans k11 fun _ _ h => h
  have LX := HLX.out
  have LY := HLY.out
  have LW := HLW.out
  have L1 := hone.lt
  have L2 := htwo.lt
  have L6 := hpo.lt
  have L7 := hqo.lt
  have hW11 := hW9.chg kt fun k hk e => by have := (LW k hk).2; omega
  have ha11 := ha9.chg kt fun k hk e => by omega
  have hb11 := hb9.chg kt fun k hk e => by omega
  have hfx11 := hfx9.chg kt fun k hk e => by have := (LX k hk).2; omega
  have hfy11 := hfy9.chg kt fun k hk e => by have := (LY k hk).2; omega
  have hx11 := hx9.chg kt fun k hk e => by omega
  have hone11 := hone9.chg kt fun k hk e => by have := (L1 k hk).2; omega
  have htwo11 := htwo9.chg kt fun k hk e => by have := (L2 k hk).2; omega
  have hj11 := hj9.chg kt fun k hk e => by have := (HLJ.out k hk).2; omega
  have hpo11 := hpo9.chg kt fun k hk e => by have := (L6 k hk).2; omega
  have hqo11 := hqo9.chg kt fun k hk e => by have := (L7 k hk).2; omega
  have hs11 := hs.chg k11 fun k hk e => by have := (hs.lt k hk).1; omega
  have hpc11 := kt.cell hpc9 (by show ¬ gl = gr; omega)
  have hqc11 := kt.cell hqc9 (by show ¬ gl = gr; omega)
  have g11 : Chg Non W w11 := g9.trans kt fun k hk e => by omega
  have LS := hs.lt
  have LT := ht.lt
  have haf := packAfter hx11 (by omega)
  clear htx hW9 ha9 hb9 hfx9 hfy9 hx9 hone9 htwo9 hj9 hpo9 hqo9 hpc9 hqc9 g9 hs k10 k11 kt hrd hrd2 hone htwo hpo hqo LX LY LW
  go_wp2_with fail
  refine haf.mono ?_
  rintro e w12 ⟨af, rfl, haf2, k12⟩
  obtain ⟨A10, n10, c10, rfl⟩ := OwnB.slc haf2
  have z12 := k12.size
  have hkp1 := refKept (OwnB.c0 hfx11 k12).rd (ha11.c0 k12) (by omega)
  clear haf
  go_wp2_with fail
  refine hkp1.mono ?_
  rintro e w13 ⟨rfl, hq13⟩
  have k13 := k12.trans0 (ofQ hq13)
  have d13 := ofQ hq13
  have hkp2 := refKept (OwnB.c0 hfy11 k13).rd (hb11.c0 k13) (by omega)
  clear hkp1 k12 hq13
  go_wp2_with fail
  refine hkp2.mono ?_
  rintro e w14 ⟨rfl, hq14⟩
  have k14 := k13.trans0 (ofQ hq14)
  have d14 := d13.trans0 (ofQ hq14)
  have heq1 := refEqual_true (OwnB.c0 hs11 k14).rd (ha11.c0 k14)
  clear hkp2 k13 d13 hq14
  go_wp2_with fail
  refine heq1.mono ?_
  rintro e w15 ⟨rfl, hq15⟩
  have k15 := k14.trans0 (ofQ hq15)
  have d15 := d14.trans0 (ofQ hq15)
  have heq2 := refEqual_true (OwnB.c0 ht k15).rd (hb11.c0 k15)
  clear heq1 k14 d14 hq15
  go_wp2_with fail
  refine heq2.mono ?_
  rintro e w16 ⟨rfl, hq16⟩
  have k16 := k15.trans0 (ofQ hq16)
  have d16 := d15.trans0 (ofQ hq16)
  have hfx16 := OwnB.c0 hfx11 k16
  have hfy16 := OwnB.c0 hfy11 k16
  have hone16 := OwnB.c0 hone11 k16
  have htwo16 := OwnB.c0 htwo11 k16
  have hj16 := OwnB.c0 hj11 k16
  have hpo16 := OwnB.c0 hpo11 k16
  have hqo16 := OwnB.c0 hqo11 k16
  have hs16 := OwnB.c0 hs11 k16
  have ht16 := OwnB.c0 ht k16
  have haf16 := OwnB.c0 haf2 d16
  have ha16 := ha11.c0 k16
  have hb16 := hb11.c0 k16
  have hW16 := hW11.c0 k16
  have hpc16 := k16.cell hpc11 id
  have hqc16 := k16.cell hqc11 id
  have g16 := g11.trans0 k16
  have z16 := d16.size
  have LA := haf2.lt
  clear heq2 k15 d15 hq16 hfx11 hfy11 hone11 htwo11 hj11 hpo11 hqo11 hs11 ht haf2 ha11 hb11 hW11 hpc11 hqc11 g11 k16 d16 hx11
  have LX := HLX.out
  have LY := HLY.out
  have LW := HLW.out
  have hgW3 := hgW3.out
  obtain ⟨ls, hls⟩ : ∃ ls : List (Value × List UInt8), ls = [(.slice A1 n1 c1, spareL a), (.slice A2 n2 c2, spareL b), (.slice A3 n3 c3, M), (.slice A4 n4 c4, M), (.slice A5 n5 c5, J), (.slice A6 n6 c6, a), (.slice A7 n7 c7, b), (.slice A8 n8 c8, a), (.slice A9 n9 c9, b), (.slice A10 n10 c10, a ++ [0])] := ⟨_, rfl⟩
  have hch : OwnCh w16 w1.heap.size ls := by
    rw [hls]
    exact .cons_ hfx16 z2 (fun b hb => (LX b hb).2) (.cons_ hfy16 (mid := w4.heap.size) (by omega) (fun b hb => by have := (LY b hb).2; omega) (.cons_ hone16 z5 (fun b hb => (L1 b hb).2) (.cons_ htwo16 (mid := w6.heap.size) z6 (fun b hb => (L2 b hb).2)
      (.cons_ hj16 (mid := w7.heap.size) (by omega) (fun b hb => (HLJ.out b hb).2) (.cons2_ hpo16 hqo16 (mid := w9.heap.size) (by omega) (fun b hb => by have := (L6 b hb).2; omega) (fun b hb => by have := (L7 b hb).2; omega) hpq
      (.cons_ hs16 z10 (fun b hb => (LS b hb).2) (.cons_ ht16 z11 (fun b hb => (LT b hb).2) (.cons_ haf16 z12 (fun b hb => (LA b hb).2) (OwnCh.nil_ _ _)))))))))
  have hw1 : w1.heap.size ≤ w16.heap.size := by omega
  have hap := refApartL (w := w16.drew) (r := ls) (n := 10) (cs := #[.slice A1 n1 c1, .slice A2 n2 c2, .slice A3 n3 c3, .slice A4 n4 c4, .slice A5 n5 c5, .slice A6 n6 c6, .slice A7 n7 c7, .slice A8 n8 c8, .slice A9 n9 c9, .slice A10 n10 c10]) (base := w1.heap.size)
    (OwnCh.dr hch) hw1 (by rw [hls]; rfl) (by omega) (by rw [hls]; rfl) (fun l hl => by
      have h1 := spareL_len a
      have h2 := spareL_len b
      rw [hls] at hl
      simp only [List.mem_cons, List.not_mem_nil, or_false] at hl
      rcases hl with rfl | rfl | rfl | rfl | rfl | rfl | rfl | rfl | rfl | rfl <;> simp only [List.length_append, List.length_cons, List.length_nil] <;> omega)
  have hin : ∀ k, (∃ p ∈ ls, p.1.ownBlock = some k) → w1.heap.size ≤ k ∧ ¬ WB gW wv k := fun k ⟨p, hp, hk⟩ => by
    refine ⟨((hch.mem hp).lt k hk).1, fun hw => ?_⟩
    have h4 := LW k hw
    rw [hls] at hp
    simp only [List.mem_cons, List.not_mem_nil, or_false] at hp
    rcases hp with rfl | rfl | rfl | rfl | rfl | rfl | rfl | rfl | rfl | rfl
    · have := LX k hk; omega
    · have := LY k hk; omega
    · have := L1 k hk; omega
    · have := L2 k hk; omega
    · have := HLJ.out k hk; omega
    · have := L6 k hk; omega
    · have := L7 k hk; omega
    · have := LS k hk; omega
    · have := LT k hk; omega
    · have := LA k hk; omega
  have hpcd : w16.drew.cell? ⟨gl, 0, none⟩ = some (.slice A6 n6 c6) := hpc16
  have hqcd : w16.drew.cell? ⟨gl, 1, none⟩ = some (.slice A7 n7 c7) := hqc16
  have hWd := (hW16.c0 ((Chg.refl Non w16).drew)).al (.cells #[.slice A1 n1 c1, .slice A2 n2 c2, .slice A3 n3 c3, .slice A4 n4 c4, .slice A5 n5 c5, .slice A6 n6 c6, .slice A7 n7 c7, .slice A8 n8 c8, .slice A9 n9 c9, .slice A10 n10 c10] 22)
  have had := (ha16.dr).al (.cells #[.slice A1 n1 c1, .slice A2 n2 c2, .slice A3 n3 c3, .slice A4 n4 c4, .slice A5 n5 c5, .slice A6 n6 c6, .slice A7 n7 c7, .slice A8 n8 c8, .slice A9 n9 c9, .slice A10 n10 c10] 22)
  have hbd := (hb16.dr).al (.cells #[.slice A1 n1 c1, .slice A2 n2 c2, .slice A3 n3 c3, .slice A4 n4 c4, .slice A5 n5 c5, .slice A6 n6 c6, .slice A7 n7 c7, .slice A8 n8 c8, .slice A9 n9 c9, .slice A10 n10 c10] 22)
  have gd := (g16.drew).alloc (.cells #[.slice A1 n1 c1, .slice A2 n2 c2, .slice A3 n3 c3, .slice A4 n4 c4, .slice A5 n5 c5, .slice A6 n6 c6, .slice A7 n7 c7, .slice A8 n8 c8, .slice A9 n9 c9, .slice A10 n10 c10] 22)
  clear hch hfx16 hfy16 hone16 htwo16 hj16 hpo16 hqo16 hs16 ht16 haf16 ha16 hb16 hW16 hpc16 hqc16 g16 hls LX LY LW L1 L2 L6 L7 LS LT LA HLX HLY HLW HLJ hpq hgW3
  go_wp2_with fail
  go_region_law (first
    | (go_simp; go_at_call 40; refine hap.mono ?_; rintro e we ⟨rfl, ke⟩))
  all_goals
    have hWe := hWd.chg ke fun k hk e => (hin k e).2 hk
    have hae := had.chg ke fun k hk e => by have := (hin k e).1; omega
    have hbe := hbd.chg ke fun k hk e => by have := (hin k e).1; omega
    have ge : Chg Non W we := gd.trans ke fun k hk e => by have := (hin k e).1; omega
    clear hap hWd had hbd gd ke hin hpcd hqcd
    have hla := fun (w' : World) (ty : TypeId) => run_len8 hae w' ty
    have hlb := fun (w' : World) (ty : TypeId) => run_len8 hbe w' ty
    have hwa : IntKind.u64.wrap (a.length : Int) = (a.length : Int) := wrap_u64n (by unfold U64; omega)
    have hwb : IntKind.u64.wrap (b.length : Int) = (b.length : Int) := wrap_u64n (by unfold U64; omega)
    have hbt := wtrBytes hWe (by omega)
    go_wp2_with fail
    refine hbt.mono ?_
    rintro e wf ⟨o1, rfl, ho1, kf⟩
    have hnum := refNumber (n := a.length) (w := wf) (by unfold U64; omega)
    have haf := hae.c0 kf
    have hbf := hbe.c0 kf
    have gf := ge.trans0 kf
    clear hbt hWe hae hbe ge kf
    go_wp2_with fail
    refine hnum.mono ?_
    rintro e wg ⟨o2, rfl, ho2, kg⟩
    have hag := haf.c0 kg
    have hbg := hbf.c0 kg
    have gg := gf.trans0 kg
    have ho1g := OwnB.c0 ho1 kg
    have zg := kg.size
    have zf := gf.size
    have lo1 := ho1.lt
    have nla := numB_length a.length
    have nlb := numB_length b.length
    have hl1 : (numB a.length).length + a.length ≤ 140737488355328 := by omega
    clear hnum haf hbf gf kg ho1
    have hcall := fun (w' : World) => refNumber (n := b.length) (w := w') (by unfold U64; omega)
    have hl2 : (numB a.length ++ a).length + (numB b.length).length ≤ 140737488355328 := by rw [List.length_append]; omega
    have hl3 : (numB a.length ++ a ++ numB b.length).length + b.length ≤ 140737488355328 := by simp only [List.length_append]; omega
    go_wp2_with (at_builtin; refine append_B rfl _ _ rfl ho2 rfl hag rfl hl1 zg ?_; intro vh wh hoh hgh hah)
    have hrow : ∀ k, o2.ownBlock = some k → wf.heap.size ≤ k := fun k hk => (ho2.lt k hk).1
    have hbh := hbg.chg (Chg.of_grown hgh) fun k hk e => by have := hrow k e.symm; omega
    have ho1h := ho1g.chg (Chg.of_grown hgh) fun k hk e => by have := hrow k e.symm; have := (lo1 k hk).2; omega
    have gh := gg.grown hgh fun k hk hlt => by have := hrow k hk; omega
    have zh := hgh.size
    clear hag hbg gg ho1g ho2
    refine (hcall wh).mono ?_
    rintro e wi ⟨o3, rfl, ho3, ki⟩
    have hbi := hbh.c0 ki
    have ho1i := OwnB.c0 ho1h ki
    have gi := gh.trans0 ki
    have hoi := OwnB.c0 hoh ki
    have zi := ki.size
    have hzf : wf.heap.size ≤ wi.heap.size := by omega
    have hrow2 : ∀ k, vh.ownBlock = some k → wf.heap.size ≤ k := fun k hk => (hoh.lt k hk).1
    have LBW : ∀ k, k < W.heap.size → k < wf.heap.size := fun k hk => by omega
    clear hcall hbh ho1h gh hoh ki
    go_wp2_with (first
      | (at_builtin; refine append_B rfl _ _ rfl hoi rfl ho3.rd rfl hl2 hzf ?_; intro vj wj hoj hgj haj; have hbj := hbi.chg (Chg.of_grown hgj) fun k hk e => keeps_absurd (LBW k hk) (hrow2 k e.symm); have hzj := Nat.le_trans hzf hgj.size)
      | (at_builtin; refine append_B rfl _ _ rfl hoj rfl hbj rfl hl3 hzj ?_; intro vk wk hok hgk hak))
    have hrow3 : ∀ k, vj.ownBlock = some k → wf.heap.size ≤ k := fun k hk => (hoj.lt k hk).1
    have ho1k := (ho1i.chg (Chg.of_grown hgj) fun k hk e => by have := hrow2 k e.symm; have := (lo1 k hk).2; omega).chg (Chg.of_grown hgk) fun k hk e => by have := hrow3 k e.symm; have := (lo1 k hk).2; omega
    have gk := (gi.grown hgj fun k hk hlt => by have := hrow2 k hk; omega).grown hgk fun k hk hlt => by have := hrow3 k hk; omega
    have hMM : numB a.length ++ a ++ numB b.length ++ b = M := by rw [HM.out]; simp only [partB, List.append_assoc, List.append_nil]
    rw [hMM] at hok
    have heq := refEqual_true ho1k.rd hok.rd
    clear hbi ho1i hoi gi ho3 hoj hgj haj hgk hak hbj hMM
    refine heq.mono ?_
    rintro e wl ⟨rfl, hq⟩
    go_wp2_with fail
    go_ret
    exact ⟨rfl, gk.quiet hq⟩

set_option maxRecDepth 100000 in
theorem contract (H : Type) (enc : TypeId × Value → H) (W : World) (base : Nat) (args : Array Value) (ds gs : List (DataW H)) (before : List MemPlace)
    (hval : ∀ (j : Nat) t v, Try.f8.params[j]? = some t → args[j]? = some v → Value.okWide Try.prog W .any base t v)
    (hW : DataW.Whole enc Try.prog Try.f8.params.toList Rows.packKeepsSpec.vars false W args.toList ds gs before) (hk : Rows.uptoSmall H (ds ++ gs) = true) :
    Calls Try.prog 8 args W fun e W' => ∃ v, e = .returned v ∧ Rows.packKeepsSpec.post enc Try.prog Try.f8 false true false false W args v W' := by
  have hW' := hW
  obtain ⟨p, q, hA0, hV, rfl, hfz, hnd⟩ := hW
  have hA : DataW.TrodAll enc Try.prog W 0 (fun _ => true) true Try.f8.params.toList args.toList ds p := hA0
  rw [Try.params8] at hA hval
  obtain ⟨v0, vs0, d0, ds0, p0, q0, hargs, rfl, rfl, h0, r0⟩ := trodAll_cons hA
  obtain ⟨v1, vs1, d1, ds1, p1, q1, rfl, rfl, rfl, h1, r1⟩ := trodAll_cons r0
  obtain ⟨rfl, rfl, rfl⟩ := trodAll_nil r1
  obtain rfl : args = #[v0, v1] := by cases args; simp_all
  obtain ⟨rfl, rfl⟩ := trodVars_none hV
  have k0 := h0
  have lt0 : ∀ x ∈ p0, x.block < W.heap.size := by obtain ⟨m, hm⟩ := k0; exact DataW.trod_lt m _ _ _ hm
  obtain ⟨l0, w0, z0⟩ := openB (hval 0 22 v0 rfl rfl) h0
  have k1 := h1
  have lt1 : ∀ x ∈ p1, x.block < W.heap.size := by obtain ⟨m, hm⟩ := k1; exact DataW.trod_lt m _ _ _ hm
  obtain ⟨l1, w1, z1⟩ := openB (hval 1 22 v1 rfl rfl) h1
  have hb := of_decide_eq_true hk
  simp only [List.append_nil, Rows.uptoBulkAll] at hb
  have z01 := z0.1
  have z11 := z1.1
  refine (walk w0 w1 (by omega)).mono fun e W' ⟨he, bel0⟩ => ?_
  have bel := bel0.below
  subst he
  exact ⟨_, rfl, _, _, _, [], _, [], hW', trodAll_mk1 (shut_bool Try.underlying4 _), (trodAll_cons_mk (Below.trod laidOut (by kernel_rfl) (of_decide_eq_true (by kernel_rfl)) k0 bel lt0) (trodAll_cons_mk (Below.trod laidOut (by kernel_rfl) (of_decide_eq_true (by kernel_rfl)) k1 bel lt1) trodAll_mk0)), rfl, bel.frame _, fun h => by cases h⟩

set_option maxRecDepth 100000 in
theorem lifted (os : Os) (started : os.Started) (H : Type) (enc : TypeId × Value → H) (F : Stop.Interp) :
    ReturnsInHanded {} Try.checked os 8 .any ((Rows.OpenSpec.upto Rows.packKeepsSpec).pre6 enc Try.prog Try.f8 Rows.packKeepsUptoRow.domain false) (((Rows.OpenSpec.upto Rows.packKeepsSpec).at F).post enc Try.prog Try.f8 false true false false) := by
  refine returnsInHanded_of_cond (C := Try.checked) (s := Rows.OpenSpec.upto Rows.packKeepsSpec) (k := Rows.uptoSmall) rfl own started (by kernel_rfl) Try.func8
    (OpenSpec.witness (enc := enc) (C := Try.checked) (s := Rows.OpenSpec.upto Rows.packKeepsSpec) (k := Rows.uptoSmall) rfl false ⟨#[], #[.slice none 0 0, .slice none 0 0], []⟩ 8 (by kernel_rfl) (by kernel_rfl) (by kernel_rfl)
      (x := ([.nil, .nil], [], [])) (by kernel_rfl) rfl (by kernel_rfl)) ?_
  intro W base args ds gs before hval hW _ hk _
  exact contract H enc W base args ds gs before hval hW hk

theorem over : Rows.packKeepsUptoRow.holds Try.pinned (Rows.OpenSpec.upto Rows.packKeepsSpec) :=
  OpenClaim.holds_of_cond 8 Try.f8 rfl rfl rfl rfl rfl rfl rfl ⟨rfl, rfl, rfl, rfl, rfl⟩ rfl rfl rfl rfl rfl (by kernel_rfl) Try.func8 (by kernel_rfl)
    (of_decide_eq_true (by kernel_rfl)) (by unfold Func.isWrapper; first | (rw [if_pos (by decide +kernel)]; kernel_rfl) | (rw [if_neg (by decide +kernel)]; exact ⟨rfl, rfl⟩))
    (fun os started H enc _ F => lifted os started H enc F)

theorem proved : Rows.PackKeepsUptoSaid := over
end Go.Proofs.Ytlklcdjhlpadiaa.packKeeps
