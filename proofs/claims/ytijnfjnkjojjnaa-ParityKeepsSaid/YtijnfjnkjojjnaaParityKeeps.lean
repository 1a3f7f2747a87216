/- ParityKeeps: no call of parity changes or keeps what it is handed, and all answers are memory of their own: for every input the statement's function answers true. No condition. -/
import Derived.Test.YtijnfjnkjojjnaaCut03
import Derived.Test.YtijnfjnkjojjnaaOpen
import Derived.Test.YtijnfjnkjojjnaaAll3
import Derived.Test.YtijnfjnkjojjnaaApart
import Derived.Test.YtijnfjnkjojjnaaKept
import Derived.Test.YtijnfjnkjojjnaaOwnCh
namespace Go.Proofs.Ytijnfjnkjojjnaa.parityKeeps
open Go.ChangeShapes Go.WideShapes Go.ChangeAt Go.RowKit Go.Deep
open Go.ChangeMaps (open_string shut_string)
set_option linter.unusedVariables false

theorem OwnB.c0 {w w' : World} {base : Nat} {v : Value} {l : List UInt8} (h : OwnB w base v l) (hc : Chg Non w w') : OwnB w' base v l := h.chg hc fun _ _ h => h
theorem ofQ {w w' : World} (h : Quiet w w') : Chg Non w w' := (Chg.refl _ _).quiet h
theorem ownLt {w : World} {base n : Nat} {v : Value} {l : List UInt8} (h : OwnB w base v l) (hn : w.heap.size ≤ n) : ∀ b, v.ownBlock = some b → b < n := fun b hb => by have := (h.lt b hb).2; omega

set_option maxRecDepth 100000 in
set_option maxHeartbeats 2000000 in
theorem walk {W : World} {v0 : Value} {b0 : List UInt8} (hb : RdB W (fun k => k < W.heap.size) v0 b0) (s0 : b0.length ≤ reachBytes) :
    Calls Try.prog 10 #[v0] W fun e W' => e = .returned (.bool true) ∧ Chg Non W W' := by
  clear s0
  go_enter Try.func10, Try.ntmps10
  go_wp2_with fail
  refine awake03.mono ?_
  rintro e w1 ⟨rfl, g1⟩
  have hb1 := hb.c0 g1
  have z1 := g1.size
  clear hb
  go_wp2_with fail
  refine (lawCut (n := 2000) hb1 (by omega)).mono ?_
  rintro e w2 ⟨ub, rfl, hub, rfl⟩
  obtain ⟨b, hb⟩ : ∃ b, b = b0.take 2000 := ⟨_, rfl⟩
  have hbl : b.length ≤ 2000 := by rw [hb, List.length_take]; omega
  rw [← hb] at hub
  clear hb hb1
  have hsb := sealB_length b
  obtain ⟨sb, hsbe⟩ : ∃ sb, sb = sealB b := ⟨_, rfl⟩
  have HSB := hide hsbe
  rw [← hsbe] at hsb
  have hsbl : sb.length ≤ 3000 := by omega
  clear hsbe hsb
  have hsp := refSpare hub (by omega)
  go_wp2_with fail
  refine hsp.mono ?_
  rintro e w3 ⟨x, full, rfl, hfull, hx, k3⟩
  obtain ⟨A1, n1, c1, rfl⟩ := OwnB.slc hfull
  have hub3 := hub.c0 k3
  have g3 := g1.trans0 k3
  have z3 := k3.size
  have hseal := paritySeal hx
  rw [if_neg (by omega), if_neg (by omega), ← HSB.out] at hseal
  clear hsp hub g1
  go_wp2_with fail
  refine hseal.mono ?_
  rintro e w4 ⟨one, rfl, hone, k4⟩
  obtain ⟨A2, n2, c2, rfl⟩ := OwnB.slc hone
  have hub4 := hub3.c0 k4
  have hx4 := hx.c0 k4
  have hfull4 := OwnB.c0 hfull k4
  have g4 := g3.trans0 k4
  have z4 := k4.size
  have hseal := paritySeal hx4
  rw [if_neg (by omega), if_neg (by omega), ← HSB.out] at hseal
  clear hub3 g3 hx
  go_wp2_with fail
  refine hseal.mono ?_
  rintro e w5 ⟨two, rfl, htwo, k5⟩
  obtain ⟨A3, n3, c3, rfl⟩ := OwnB.slc htwo
  have hub5 := hub4.c0 k5
  have hfull5 := OwnB.c0 hfull4 k5
  have hone5 := OwnB.c0 hone k5
  have g5 := g4.trans0 k5
  have z5 := k5.size
  have hsp := refSpare hone5.rd (by omega)
  clear hseal hub4 g4 hx4 hfull4
  go_wp2_with fail
  refine hsp.mono ?_
  rintro e w6 ⟨s, fullS, rfl, hfullS, hs, k6⟩
  obtain ⟨A4, n4, c4, rfl⟩ := OwnB.slc hfullS
  have hub6 := hub5.c0 k6
  have hfull6 := OwnB.c0 hfull5 k6
  have hone6 := OwnB.c0 hone5 k6
  have htwo6 := OwnB.c0 htwo k6
  have g6 := g5.trans0 k6
  have z6 := k6.size
  have hor := openR_sealB (b := b) (by omega) []
  rw [List.append_nil, ← HSB.out] at hor
  have hopn := parityOpen (at_ := ((0 : Nat) : Int)) hs (by omega)
  rw [openA_ok (a := 0) (Nat.zero_le _) hor] at hopn
  simp only [opA] at hopn
  have hall : allN [] sb = ([b], []) := by rw [allN_ok hor, allN_bad openR_nil (by decide)]; rfl
  have HALL := hide hall
  clear hsp hub5 g5 hfull5 hone5 hor hall
  go_wp2_with fail
  refine hopn.mono ?_
  rintro e w7 ⟨u, rfl, hu, k7⟩
  obtain ⟨A5, n5, c5, rfl⟩ := OwnB.slc hu
  have hub7 := hub6.c0 k7
  have hfull7 := OwnB.c0 hfull6 k7
  have hone7 := OwnB.c0 hone6 k7
  have htwo7 := OwnB.c0 htwo6 k7
  have hfullS7 := OwnB.c0 hfullS k7
  have hs7 := hs.c0 k7
  have g7 := g6.trans0 k7
  have z7 := k7.size
  have hoa := parityOpenAll hs7 (by omega)
  rw [HALL.out] at hoa
  clear hopn hub6 g6 hfull6 hone6 htwo6 hs
  go_wp2_with fail
  refine hoa.mono ?_
  rintro e w8 ⟨bk, rfl, hbk, k8⟩
  obtain ⟨vs, hvl, hR⟩ := RowsC.of hbk
  rw [List.length_singleton] at hvl
  obtain ⟨gb, cb, he, _, _⟩ := hR.head (by omega)
  subst he
  obtain ⟨y, hy⟩ : ∃ y, vs[0]? = some y := ⟨_, List.getElem?_eq_getElem (by omega)⟩
  have hyc := hR.cell hy
  have hyo : OwnB w8 w7.heap.size y b := hR.2.2 0 y hy
  rw [hvl]
  obtain ⟨A6, n6, c6, rfl⟩ := OwnB.slc hyo
  have hub8 := hub7.c0 k8
  have hfull8 := OwnB.c0 hfull7 k8
  have hone8 := OwnB.c0 hone7 k8
  have htwo8 := OwnB.c0 htwo7 k8
  have hfullS8 := OwnB.c0 hfullS7 k8
  have hu8 := OwnB.c0 hu k8
  have hs8 := hs7.c0 k8
  have g8 := g7.trans0 k8
  have z8 := k8.size
  have hgood := parityGood hs8
  clear hoa hub7 g7 hfull7 hone7 htwo7 hfullS7 hs7 hbk hR
  go_wp2_with fail
  refine hgood.mono ?_
  rintro e w9 ⟨rfl, k9⟩
  have hub9 := hub8.c0 k9
  have hfull9 := OwnB.c0 hfull8 k9
  have hone9 := OwnB.c0 hone8 k9
  have htwo9 := OwnB.c0 htwo8 k9
  have hfullS9 := OwnB.c0 hfullS8 k9
  have hu9 := OwnB.c0 hu8 k9
  have hyo9 := OwnB.c0 hyo k9
  have hyc9 := k9.cell hyc id
  have g9 := g8.trans0 k9
  have z9 := k9.size
  have hkept := refKept hfull9.rd hub9 (by omega)
  clear hgood hub8 g8 hfull8 hone8 htwo8 hfullS8 hu8 hs8 hyc
  go_wp2_with fail
  refine hkept.mono ?_
  rintro e wa ⟨rfl, hq⟩
  have ka := ofQ hq
  have huba := hub9.c0 ka
  have hfulla := OwnB.c0 hfull9 ka
  have honea := OwnB.c0 hone9 ka
  have htwoa := OwnB.c0 htwo9 ka
  have hfullSa := OwnB.c0 hfullS9 ka
  have hua := OwnB.c0 hu9 ka
  have hyoa := OwnB.c0 hyo9 ka
  have hyca := ka.cell hyc9 id
  have ga := g9.trans0 ka
  have za := ka.size
  have hkept := refKept hfullSa.rd honea.rd (by omega)
  clear hub9 g9 hfull9 hone9 htwo9 hfullS9 hu9 hyc9 hyo9 hq
  go_wp2_with fail
  refine hkept.mono ?_
  rintro e wb ⟨rfl, hq⟩
  have kb := ofQ hq
  have hubb := huba.c0 kb
  have hfullb := OwnB.c0 hfulla kb
  have honeb := OwnB.c0 honea kb
  have htwob := OwnB.c0 htwoa kb
  have hfullSb := OwnB.c0 hfullSa kb
  have hub_ := OwnB.c0 hua kb
  have hyob := OwnB.c0 hyoa kb
  have hycb := kb.cell hyca id
  have gb_ := ga.trans0 kb
  have zb := kb.size
  have heq := refEqual_true hub_.rd hubb
  clear huba ga hfulla honea htwoa hfullSa hua hyca hyoa hq hkept
  go_wp2_with fail
  refine heq.mono ?_
  rintro e wc ⟨rfl, hq⟩
  have kc := ofQ hq
  have hfullc := OwnB.c0 hfullb kc
  have honec := OwnB.c0 honeb kc
  have htwoc := OwnB.c0 htwob kc
  have hfullSc := OwnB.c0 hfullSb kc
  have huc := OwnB.c0 hub_ kc
  have hyoc := OwnB.c0 hyob kc
  have hycc := kc.cell hycb id
  have gc := gb_.trans0 kc
  have zc := kc.size
  have hch : OwnCh wc w2.heap.size [(.slice A1 n1 c1, spareL b), (.slice A2 n2 c2, sb), (.slice A3 n3 c3, sb), (.slice A4 n4 c4, spareL sb), (.slice A5 n5 c5, b), (.slice A6 n6 c6, b)] :=
    .cons_ hfullc z3 (fun b hb => (hfull.lt b hb).2) (.cons_ honec z4 (fun b hb => (hone.lt b hb).2) (.cons_ htwoc z5 (fun b hb => (htwo.lt b hb).2) (.cons_ hfullSc z6 (fun b hb => (hfullS.lt b hb).2) (.cons_ huc z7 (fun b hb => (hu.lt b hb).2) (.cons_ hyoc z8 (fun b hb => (hyo.lt b hb).2) (OwnCh.nil_ _ _))))))
  have hW2 : W.heap.size ≤ w2.heap.size := z1
  have hw2c : w2.heap.size ≤ wc.heap.size := by omega
  have hlit := OwnsBB.lit hch hw2c (n := 6) rfl (by simp [maxLen]) (cs := #[.slice A1 n1 c1, .slice A2 n2 c2, .slice A3 n3 c3, .slice A4 n4 c4, .slice A5 n5 c5, .slice A6 n6 c6]) rfl (lls := [spareL b, sb, sb, spareL sb, b, b]) rfl
  have hsl1 := spareL_len b
  have hsl2 := spareL_len sb
  have hap := refApart hlit (by simp) (fun l hl => by
    simp only [List.mem_cons, List.not_mem_nil, or_false] at hl
    rcases hl with rfl | rfl | rfl | rfl | rfl | rfl <;> omega) (by simp; omega)
  have gd := gc.alloc (.cells #[.slice A1 n1 c1, .slice A2 n2 c2, .slice A3 n3 c3, .slice A4 n4 c4, .slice A5 n5 c5, .slice A6 n6 c6] 26)
  clear heq hfullb honeb htwob hfullSb hub_ hyob hycb gb_ hq hlit hch hfullc honec htwoc hfullSc huc hyoc hsl1 hsl2 gc hubb hfull hone htwo hfullS hu hyo
  go_wp2_with fail
  refine hap.mono ?_
  rintro e we ⟨rfl, ke⟩
  go_wp2_with fail
  go_ret
  exact ⟨rfl, gd.trans ke fun b hb hbb => by omega⟩

set_option maxRecDepth 100000 in
theorem contract (H : Type) (enc : TypeId × Value → H) (W : World) (base : Nat) (args : Array Value) (ds gs : List (DataW H)) (before : List MemPlace)
    (hval : ∀ (j : Nat) t v, Try.f10.params[j]? = some t → args[j]? = some v → Value.okWide Try.prog W .any base t v)
    (hW : DataW.Whole enc Try.prog Try.f10.params.toList Rows.parityKeepsSpec.vars false W args.toList ds gs before) (hsz : (DataW.weightsEach Try.prog (Try.f10.params.toList ++ Rows.parityKeepsSpec.plain.varTypes Try.prog) (ds ++ gs)).all (· ≤ reachBytes) = true) :
    Calls Try.prog 10 args W fun e W' => ∃ v, e = .returned v ∧ Rows.parityKeepsSpec.post enc Try.prog Try.f10 false true false false W args v W' := by
  have hW' := hW
  obtain ⟨p, q, hA0, hV, rfl, hfz, hnd⟩ := hW
  have hA : DataW.TrodAll enc Try.prog W 0 (fun _ => true) true Try.f10.params.toList args.toList ds p := hA0
  rw [Try.params10] at hA hval hsz
  obtain ⟨v0, vs0, d0, ds0, p0, q0, hargs, rfl, rfl, h0, r0⟩ := trodAll_cons hA
  obtain ⟨rfl, rfl, rfl⟩ := trodAll_nil r0
  obtain rfl : args = #[v0] := by cases args; simp_all
  obtain ⟨rfl, rfl⟩ := trodVars_none hV
  have k0 := h0
  have lt0 : ∀ x ∈ p0, x.block < W.heap.size := by obtain ⟨m, hm⟩ := k0; exact DataW.trod_lt m _ _ _ hm
  obtain ⟨l0, w0, z0⟩ := openB (hval 0 26 v0 rfl rfl) h0
  have s0 : l0.length ≤ reachBytes := z0.2 _ fun e s he => by
    have := sized_slice hsz (j := 0) rfl (by rw [he]; rfl) Try.underlying26
    exact Nat.le_trans (Nat.le_mul_of_pos_right _ (of_decide_eq_true (by kernel_rfl))) this
  refine (walk w0 s0).mono fun e W' ⟨he, bel0⟩ => ?_
  have bel := bel0.below
  subst he
  exact ⟨_, rfl, _, _, _, [], _, [], hW', trodAll_mk1 (shut_bool Try.underlying4 _), (trodAll_cons_mk (Below.trod laidOut (by kernel_rfl) (of_decide_eq_true (by kernel_rfl)) k0 bel lt0) trodAll_mk0), rfl, bel.frame _, fun h => by cases h⟩

set_option maxRecDepth 100000 in
theorem lifted (os : Os) (started : os.Started) (H : Type) (enc : TypeId × Value → H) :
    ReturnsInHanded {} Try.checked os 10 .any (Rows.parityKeepsSpec.pre6 enc Try.prog Try.f10 Rows.parityKeepsRow.domain false) (Rows.parityKeepsSpec.post enc Try.prog Try.f10 false true false false) := by
  refine returnsInHanded_of_change_sized (C := Try.checked) own started (by kernel_rfl) Try.func10
    (ChangeSpec.witness6 (enc := enc) (C := Try.checked) false ⟨#[], #[.slice none 0 0], []⟩ 8 (by kernel_rfl) (by kernel_rfl) (by kernel_rfl) (by kernel_rfl)) ?_
  intro W base args ds gs before hval hW _ hsz _
  exact contract H enc W base args ds gs before hval hW hsz

theorem over : Rows.parityKeepsRow.holds Try.pinned (OpenSpec.ofChange Rows.parityKeepsSpec) :=
  OpenClaim.holds_of_wide 10 Try.f10 rfl rfl rfl rfl rfl rfl rfl ⟨rfl, rfl, rfl, rfl, rfl⟩ rfl rfl rfl rfl rfl (by kernel_rfl) Try.func10 (by kernel_rfl)
    (of_decide_eq_true (by kernel_rfl)) (by unfold Func.isWrapper; first | (rw [if_pos (by decide +kernel)]; kernel_rfl) | (rw [if_neg (by decide +kernel)]; exact ⟨rfl, rfl⟩))
    (fun os started H enc _ => lifted os started H enc)

theorem proved : Rows.ParityKeepsSaid := over
end Go.Proofs.Ytijnfjnkjojjnaa.parityKeeps
