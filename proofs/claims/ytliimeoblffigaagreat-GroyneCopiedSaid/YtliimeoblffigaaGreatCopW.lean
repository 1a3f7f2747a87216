/- The walk of groynetop.GroyneCopied. -/
import Derived.Test.YtliimeoblffigaaGreatCopS
import Derived.Test.YtliimeoblffigaaGreatScn
import Derived.Test.YtliimeoblffigaaGreatChk9
import Derived.Lib.MinMax
import Derived.Deep.CutRange
import Derived.Deep.CutBlock
open List renaming getElem_toArray → lz1, getElem_cons_succ → lz2, getElem_cons_zero → lz3, setIfInBounds_toArray → lz4, set_cons_zero → lz5, set_cons_succ → lz6
set_option linter.unusedVariables false
set_option linter.unusedSimpArgs false
set_option maxRecDepth 100000
namespace Go.Proofs.YtliimeoblffigaaGreat
open Go.RowKit Go.Maps
set_option linter.unusedVariables false
set_option linter.unusedSimpArgs false

theorem RdW.front {w : World} {F : Nat → Prop} {A : Option Addr} {n c j : Nat} {l : List WrS} (h : RdW w F (.slice A n c) l) (hj : j ≤ l.length) : RdW w F (.slice A j c) (l.take j) := RdE.toW (RdE.front (RdW.toE h) hj)
/-- the first so many writes -/
theorem cutW {w : World} {F : Nat → Prop} {A : Option Addr} {c : Nat} {l : List WrS} (m : Nat) (h : RdW w F (.slice A l.length c) l) : RdW w F (.slice A (if m < l.length then m else l.length) c) (l.take m) := by
 split
 ·exact h.front (by omega)
 ·rw [List.take_of_length_le (by omega)]; exact h
set_option maxHeartbeats 32000000 in
theorem copiedW {w : World} {F : Nat → Prop} {v0 v1 : Value} {l0 l1 : List WrS} {m : Int} (h0 : RdW w F v0 l0) (h1 : RdW w F v1 l1) (s0 : ∀ x ∈ l0, x.a.length ≤ 140737488355328 ∧ x.b.length ≤ 140737488355328) (s1 : ∀ x ∈ l1, x.a.length ≤ 140737488355328 ∧ x.b.length ≤ 140737488355328) (hF : ∀ b, F b → b < w.heap.size) (hm : -9223372036854775808 ≤ m ∧ m ≤ 9223372036854775807) :
  Calls Tryz.prog 4 #[v0, v1, .int .i64 m] w fun e w' => e = .returned (.bool true) ∧ Chg Non w w' := by
 obtain ⟨A0, c0, rfl, hc0, hm0⟩ := h0.shape
 obtain ⟨A1, c1, rfl, hc1, hm1⟩ := h1.shape
 have hh0 := cutW 60 h0
 have hh1 := cutW 30 h1
 obtain ⟨ws, hws⟩ : ∃ x, x = l0.take 60 := ⟨_, rfl⟩
 obtain ⟨us, hus⟩ : ∃ x, x = l1.take 30 := ⟨_, rfl⟩
 have sw : ∀ x ∈ ws, x.a.length ≤ 140737488355328 ∧ x.b.length ≤ 140737488355328 := fun x hx => s0 x (by rw [hws] at hx; exact List.mem_of_mem_take hx)
 have su : ∀ x ∈ us, x.a.length ≤ 140737488355328 ∧ x.b.length ≤ 140737488355328 := fun x hx => s1 x (by rw [hus] at hx; exact List.mem_of_mem_take hx)
 have lw : ws.length ≤ 60 := by rw [hws, List.length_take]; omega
 have lu : us.length ≤ 30 := by rw [hus, List.length_take]; omega
 rw [← hws] at hh0
 rw [← hus] at hh1
 obtain ⟨n0, hn0⟩ : ∃ n, n = l0.length := ⟨_, rfl⟩
 obtain ⟨n1, hn1⟩ : ∃ n, n = l1.length := ⟨_, rfl⟩
 rw [← hn0] at hh0 hc0 ⊢
 rw [← hn1] at hh1 hc1 ⊢
 unfold maxLen at hm0 hm1
 obtain ⟨N0, hN0⟩ : ∃ n, n = (if 60 < n0 then 60 else n0) := ⟨_, rfl⟩
 obtain ⟨N1, hN1⟩ : ∃ n, n = (if 30 < n1 then 30 else n1) := ⟨_, rfl⟩
 rw [← hN0] at hh0
 rw [← hN1] at hh1
 have HN0 := hide hN0
 have HN1 := hide hN1
 have HW := hide (And.intro hh0 hh1)
 have HS := hide (And.intro sw su)
 have HL := hide (And.intro lw lu)
 have HF := hide hF
 have HM := hide hm
 clear hN0 hN1 hh0 hh1 sw su lw lu hF hm hws hus hn0 hn1 h0 h1 s0 s1 l0 l1
 go_enter Tryz.func4, Tryz.ntmps4
 go_upto_if 31 with fail
 go_cut [0] from 29 (fun v wx => v = .slice A0 N0 c0 ∧ wx = w)
 case first =>
  by_cases hn : 60 < n0
  ·have hM := hide (show N0 = 60 by rw [HN0.out, if_pos hn])
   go_wp2_with fail
   go_meet
   case rel => rw [hM.out]; exact ⟨rfl, rfl⟩
  ·have hM := hide (show N0 = n0 by rw [HN0.out, if_neg hn])
   go_wp2_with fail
   go_meet
   case rel => rw [hM.out]; exact ⟨rfl, rfl⟩
 case rest =>
  obtain ⟨rfl, rfl⟩ := hcut
  go_upto_if 36 with fail
  go_cut [1] from 34 (fun v wx => v = .slice A1 N1 c1 ∧ wx = wc)
  case first =>
   by_cases hn : 30 < n1
   ·have hM := hide (show N1 = 30 by rw [HN1.out, if_pos hn])
    go_wp2_with fail
    go_meet
    case rel => rw [hM.out]; exact ⟨rfl, rfl⟩
   ·have hM := hide (show N1 = n1 by rw [HN1.out, if_neg hn])
    go_wp2_with fail
    go_meet
    case rel => rw [hM.out]; exact ⟨rfl, rfl⟩
  case rest =>
   obtain ⟨rfl, rfl⟩ := hcut
   obtain ⟨w, hww0⟩ : ∃ x, x = wc := ⟨_, rfl⟩
   rw [← hww0] at HW HF ⊢
   have HWC := hide hww0
   clear hww0
   have hap := refApply (RdE.nil_ elP w Non) HW.out.1 List.Pairwise.nil (by have := HL.out.1; simp only [List.length_nil]; omega)
   obtain ⟨L, hL⟩ : ∃ L, L = (appR [] ws).1 := ⟨_, rfl⟩
   obtain ⟨z, hz⟩ : ∃ z, z = (appR [] ws).2 := ⟨_, rfl⟩
   rw [← hL, ← hz] at hap
   have HLZ := hide (And.intro hL hz)
   clear hL hz
   go_wp2_with fail
   refine hap.mono ?_
   rintro e w1 ⟨r, rfl, hr, hc⟩
   clear hap
   obtain ⟨RA, rc, rfl, hrc, hrm⟩ := hr.shape
   obtain ⟨rn, hrn⟩ : ∃ n, n = L.length := ⟨_, rfl⟩
   rw [← hrn] at hr hrc ⊢
   have HRN := hide hrn
   have HR := hide hr.lt
   have HC1 := hide hc
   clear hr hc hrn
   have hpl := lawPlant w1 3 (by omega) (by omega)
   rw [show ((3 : Nat) : Int) = 3 from rfl] at hpl
   go_wp2_with fail
   refine hpl.mono ?_
   rintro e w2 ⟨gt, g, T2, rfl, hT, hTn, hgt, hc⟩
   clear hpl
   have hW2 := (HW.out.1.c0 HC1.out).c0 hc
   have htw := refTwins hW2 HS.out.1 (by have := HL.out.1; omega)
   have HT2 := hide hT
   have HC2 := hide hc
   have HN2 := hide (And.intro hTn hgt)
   clear hT hc hTn hgt hW2
   go_wp2_with fail
   refine htw.mono ?_
   rintro e w3 ⟨tv, rfl, ho, hc⟩
   clear htw
   have hb := ho.bl
   have hr3 := ho.rd
   obtain ⟨TA, tc, rfl, htc, htm⟩ := ho.shape
   have HC3 := hide hc
   have hnt := HT2.out.lt
   have htap := tApply (B := 252) (C := 63) (HT2.out.c0 hc) hr3.toW (fun b hb2 => ⟨fun h => by
    have h1 := hnt.1 b h
    rcases hb2.1 with h2 | h2
    ·omega
    ·have := (hb b h2).1; omega, fun h => by
    have h1 := hnt.2.1
    rcases hb2.1 with h2 | h2
    ·omega
    ·have := (hb b h2).1; omega⟩) (by have := HL.out.1; omega) (by have := HL.out.1; omega) (by have := HL.out.1; omega) (by have := HL.out.1; omega) (by have := HL.out.1; omega)
   clear ho hb hr3 hc hnt
   go_wp2_with fail
   refine htap.mono ?_
   rintro e w4 hpost
   unfold ApPost at hpost
   obtain ⟨z2, T4, h4, l4, rfl, hz9, himp, hh4, hT4, hs4, hc4⟩ := hpost
   obtain ⟨e1, e2⟩ := himp (by have := HL.out.1; omega)
   rw [← HLZ.out.1] at e1
   rw [← HLZ.out.2] at e2
   rw [e1] at hT4
   rw [e2]
   have HT4 := hide (hT4.le (q' := 16000) (n' := 4000) (by have := HL.out.1; omega) (by have := HL.out.1; omega))
   have HS4 := hide (And.intro hs4 (And.intro hc4 (show h4 ≤ 61 by have := HL.out.1; omega)))
   clear hT4 hs4 hc4 hh4 htap himp e1 e2 hz9
   obtain ⟨mo, hmo1, hmo2, hmo⟩ : ∃ mo : Nat, 1 ≤ mo ∧ mo ≤ 50 ∧ (mo : Int) = max 1 (min m 50) := ⟨(max 1 (min m 50)).toNat, by omega, by omega, by omega⟩
   have hLn : L.length ≤ 60 := by
    have h1 := HLZ.out.1
    have h2 := HL.out.1
    rw [h1]
    unfold appR
    split
    ·simp
    ·have := apWs_len ws ([] : List KV); simp only [List.length_nil] at this ⊢; omega
   have HLN := hide hLn
   have hLs : ∀ p ∈ L, p.1.length ≤ 64 ∧ p.2.length ≤ 128 := by
    have h1 := HLZ.out.1
    rw [h1]
    by_cases hb : ∀ x ∈ ws, bigW x = false
    ·rw [appR_ok hb]; exact apWs_good (fun p hp => by cases hp) hb
    ·obtain ⟨x, hx⟩ : ∃ x, x ∈ ws ∧ bigW x = true := by
      by_cases h9 : ∃ x, x ∈ ws ∧ bigW x = true
      ·exact h9
      ·exact absurd (fun x hx => by
        cases e : bigW x with
        | false => rfl
        | true => exact absurd ⟨x, hx, e⟩ h9) hb
     obtain ⟨j, hj, rfl⟩ := List.getElem_of_mem hx.1
     rw [appR_big hj hx.2]
     intro p hp; cases hp
   have HLS := hide hLs
   clear hLn hLs
   have hvn := vltNew w4 supN
   go_wp2_with fail
   rw [← hmo]
   refine hvn.mono ?_
   rintro e w5 ⟨vb, rfl, hvb, hV, hc⟩
   obtain ⟨W, hW⟩ : ∃ x, x = w5.alloc (.cells #[.pointer (some ⟨vb, 0, none⟩), .string ⟨#[116, 47]⟩] 65) := ⟨_, rfl⟩
   have hcA := (Chg.refl Non w5).alloc (.cells #[.pointer (some ⟨vb, 0, none⟩), .string ⟨#[116, 47]⟩] 65)
   have hbA := Blk.new w5 65 #[.pointer (some ⟨vb, 0, none⟩), .string ⟨#[116, 47]⟩]
   rw [← hW] at hcA hbA
   have l4 := HT4.out.lt
   have n5 := hc.size
   have n6 := hcA.size
   have hVl := hV.lt vb rfl
   have hst0 : CpSt W T4 (fun b => b = vb) g gt vb h4 L mo 0 (.slice none 0 0) W := ⟨T4, (fun b => b = vb), Non, [], by rw [Nat.zero_mul]; exact (HT4.out.c0 hc).c0 hcA, hV.c0 hcA, VlOk.nil_ _ _, by rw [Nat.zero_mul, Nat.zero_min]; exact RdB.nil_ _ _, fun b hb => .inl hb, fun b hb => .inl hb, fun b hb e => by have := l4.1 b hb; omega, fun b hb => hb.elim, Chg.refl _ _⟩
   have hmg : vb ≠ gt := by have := l4.2.1; omega
   obtain ⟨bs, hbs⟩ : ∃ b, b = w5.heap.size := ⟨_, rfl⟩
   rw [← hbs] at hbA
   have hr0 : ∀ b, T4 b → w1.heap.size ≤ b := fun b hb => by
    have h1 := HC2.out.size
    have h2 := HC3.out.size
    rcases HS4.out.1 b hb with h | h
    ·exact HN2.out.1 b h
    ·omega
   have hc4w : Chg (fun b => w1.heap.size ≤ b) w1 W := (((((HC2.out.trans0 HC3.out).mono (S' := fun b => w1.heap.size ≤ b) fun _ _ h => (h : False).elim).trans HS4.out.2.1 fun b hb h => by
    rcases h with h | h
    ·exact HN2.out.1 b h
    ·rw [h]; exact HN2.out.2).trans0 hc).trans0 hcA)
   have hx0 : Chg Non w W := (HC1.out.trans hc4w fun b hb h => by have := HC1.out.size; omega)
   have HREST := hide (show RdW W (fun b => b < w1.heap.size) (.slice A1 N1 c1) us ∧ RdE elP W (fun b => b < w1.heap.size) (.slice RA rn rc) L ∧ (∀ b, T4 b → w1.heap.size ≤ b) ∧ w1.heap.size ≤ gt ∧ w1.heap.size ≤ vb ∧ Chg Non w W from
    ⟨((HW.out.2.c0 HC1.out).mono fun b hb => by have := HF.out b hb; have := HC1.out.size; omega).chg hc4w (fun b hb h => by omega), (HR.out.mono fun b hb => hb.2).chg hc4w (fun b hb h => by omega), hr0, HN2.out.2, by have := HC2.out.size; have := HC3.out.size; have := HS4.out.2.1.size; omega, hx0⟩)
   clear hr0 hc4w hx0
   have HST0 := hide hst0
   have HBA := hide hbA
   have HX := hide (And.intro (show ∀ b, T4 b → b < bs from fun b hb => by have := l4.1 b hb; omega) (And.intro (show vb < bs by omega) (And.intro (show gt < bs by have := l4.2.1; omega) (And.intro hmg (show w4.heap.size ≤ bs by omega)))))
   have HCW := hide (hc.trans0 hcA)
   have HMO := hide (And.intro hmo1 hmo2)
   clear hst0 hbA hc hcA hV hvb hvn l4 n5 n6 hVl hmg hmo1 hmo2 hmo
   go_wp2_with fail
   rw [← hW, ← hbs]
   clear hW hbs
   go_loopw [12, 13] (fun fv nv wr => ∃ i : Nat, nv = .int .u64 (i : Int) ∧ i ≤ 60 ∧ Hid (CpSt W T4 (fun b => b = vb) g gt vb h4 L mo i fv wr)) (fun _ nv _ => L.length - (intOf nv).toNat)
   case atStart => exact ⟨0, rfl, Nat.zero_le _, HST0⟩
   case round =>
    obtain ⟨i, rfl, hi, hst⟩ := hrel
    obtain ⟨T1, V1, G1, vl, hT1, hV1, hok, hf, t1, v1, tv, hG1, hcr⟩ := hst.out
    obtain ⟨FA, fc, rfl, _, _⟩ := hf.shape
    obtain ⟨fn, hfn⟩ : ∃ n, n = (frK L (min (i * mo) L.length)).length := ⟨_, rfl⟩
    rw [← hfn] at hf ⊢
    have hsc := tScan (m := (mo : Int)) hT1 hf (RdB.nil_ wr G1) (fun b hb => ⟨(hG1 b hb).2.1, (hG1 b hb).2.2.1⟩) (by have := HS4.out.2.2; omega) (by omega) (by have := HLN.out; omega)
    simp only [scan_pcs HT4.out.upL mo i HMO.out.1] at hsc
    have HT1 := hide (And.intro hT1.lt (And.intro t1 (And.intro v1 tv)))
    have HV1 := hide (And.intro hV1 hok)
    have HF1 := hide (And.intro hf hG1)
    have HCR := hide hcr
    clear hT1 t1 v1 tv hV1 hok hf hG1 hcr hst hfn
    go_wp2_with fail
    refine hsc.mono ?_
    rintro e w6 ⟨u, T6, rfl, hu, hT6, ht6, hc6⟩
    clear hsc
    obtain ⟨CA, cc, rfl, hcc, hcm⟩ := hu.shape
    obtain ⟨cn, hcn⟩ : ∃ n, n = (pcs L mo i).length := ⟨_, rfl⟩
    rw [← hcn] at hu hcc ⊢
    have HU := hide hu
    have HT6 := hide (And.intro hT6 (And.intro ht6 hc6))
    clear hu hT6 ht6 hc6
    by_cases hlt : i * mo < L.length
    ·--SKIP
     obtain ⟨hp1, hp2, hp3⟩ := pcs_full HMO.out.1 hlt
     rw [← hcn] at hp1 hp2
     have hne0 : ¬ cn = 0 := by omega
     have hne1 : ¬ (cn : Int) = 0 := by omega
     have hne2 : ((cn : Int) == 0) = false := beq_eq_false_iff_ne.2 hne1
     have HP := hide (And.intro hp1 (And.intro hp2 (And.intro hp3 hlt)))
     have hc60 : cn ≤ 60 := by have := HLN.out; have := pcs_len L mo i; omega
     have HCN := hide hcn
     clear hp1 hp2 hp3 hlt hcn
     have hw0 := Wtr.new w6
     have hc7 := (Chg.refl Non w6).alloc (.cells #[.slice none 0 0] 69)
     have HWS := hide (show WrSt w6 L mo i 0 (.slice FA fn fc) (w6.alloc (.cells #[.slice none 0 0] 69)) from ⟨_, G1, by rw [List.take_zero]; exact hw0, by
       have h1 := HF1.out.1
       have h2 : min (i * mo) L.length = i * mo := by have := HP.out.2.2.2; omega
       rw [h2] at h1
       exact ((h1.chg HT6.out.2.2 fun b hb => (HF1.out.2 b hb).2.1).c0 hc7), fun b hb => by
       have h3 := (HF1.out.2 b hb).1
       have h4 := HT6.out.2.2.size
       have h5 := hc7.size
       exact ⟨by omega, fun h => h.elim (fun h => by omega) (fun h => (by cases h)), fun h => by omega⟩, hc7⟩)
     clear hw0
     go_wp2_with fail
     generalize World.alloc w6 _ = w7 at hc7 HWS ⊢
     clear hc7
     obtain ⟨gw, hgw⟩ : ∃ n, n = w6.heap.size := ⟨_, rfl⟩
     rw [← hgw]
     have HGW := hide hgw
     clear hgw
     go_loopw [12, 79] (fun fv iv wr => ∃ k : Nat, k ≤ cn ∧ iv = .int .i64 (k : Int) ∧ Hid (WrSt w6 L mo i k fv wr)) (fun _ iv _ => cn - (intOf iv).toNat)
     case atStart => exact ⟨0, Nat.zero_le _, rfl, HWS⟩
     case round =>
      clear HWS
      obtain ⟨k, hk, rfl, hws⟩ := hrel
      obtain ⟨wv, G, hwt, hfr, hG, hc⟩ := hws.out
      obtain ⟨YA, yc, rfl, _, _⟩ := hfr.shape
      by_cases hkc : k < cn
      ·have hkp : k < (pcs L mo i).length := by have := HCN.out; omega
       obtain ⟨ad, B, bn, bc, D, dn, dc, rfl, had, e0, e1, r1, r2⟩ := (HU.out.c0 hc).pair hkp
       have hps := HLS.out _ (pcs_mem (List.getElem_mem hkp))
       have hfk := frK_pcs hkp
       have hek := encC_take hkp
       have hel := encC_len ((pcs L mo i).take k) fun p hp => HLS.out p (pcs_mem (List.mem_of_mem_take hp))
       rw [List.length_take] at hel
       obtain ⟨ka, hka⟩ : ∃ x, x = (pcs L mo i)[k].1 := ⟨_, rfl⟩
       obtain ⟨va, hva⟩ : ∃ x, x = (pcs L mo i)[k].2 := ⟨_, rfl⟩
       rw [← hka] at r1 hps hfk hek
       rw [← hva] at r2 hps hek
       have HK := hide (And.intro hps (And.intro hfk (And.intro hek (And.intro hel hkc))))
       have HR1 := hide (And.intro r1 r2)
       have HWT := hide (And.intro hwt hc)
       clear hps hfk hek hel r1 r2 hwt hfr hG hka hva hkp hws
       go_upto_region 22 with fail
       have hcA := (Chg.refl Non wr).alloc (.cells #[.slice B bn bc, .slice D dn dc] 71)
       have hbA := Blk.new wr 71 #[.slice B bn bc, .slice D dn dc]
       generalize hww : World.alloc wr _ = w8
       rw [show wr.alloc (.cells #[.slice B bn bc, .slice D dn dc] 71) = w8 from hww] at hcA hbA
       obtain ⟨b8, hb8⟩ : ∃ n, n = wr.heap.size := ⟨_, rfl⟩
       rw [← hb8] at hbA ⊢
       obtain ⟨y0, y1⟩ := blk2 hbA
       have h28 := RdBB.two (HR1.out.1.c0 hcA) (HR1.out.2.c0 hcA) 30
       have hc9 := (Chg.refl Non w8).alloc (.cells #[.slice B bn bc, .slice D dn dc] 30)
       have hn8 := hcA.size
       have hn9 := hc9.size
       have hnr := HWT.out.2.size
       have hwl := HWT.out.1.own.lt
       have hgw := HGW.out
       have hwr : w6.heap.size < wr.heap.size := HWT.out.1.blk.lt
       have htx := wtrText ((HWT.out.1.c0 hcA).c0 hc9) h28 (fun b hb h => by
        rcases h with h | h
        ·rcases hb with hb | hb
         ·have := hb.2.2; omega
         ·omega
        ·have := hwl b h
         rcases hb with hb | hb
         ·have := hb.2.2; omega
         ·omega) (by
        have h1 := HK.out.1
        have h2 := HK.out.2.2.2.1
        have h3 := HLN.out
        have h4 := pcs_len L mo i
        have h5 := partB_len' ka
        have h6 := partB_len' va
        have h7 := numB_length ka.length
        have h8 := numB_length va.length
        simp only [flatB, List.flatMap_cons, List.flatMap_nil, List.length_append, List.length_nil]
        omega)
       rw [← hgw] at htx
       have HB8 := hide (And.intro hb8 hbA)
       have HCA := hide (And.intro hcA hc9)
       clear hbA hcA hb8 hww hn8 hn9 hnr hwl hgw hwr h28 e0 e1 hc9
       go_wp2_with fail
       refine htx.mono ?_
       rintro e w10 ⟨rfl, wv2, hwt2, hc10, hgr⟩
       clear htx y0 y1
       have hWB : ∀ b, WB gw wv b → w6.heap.size ≤ b ∧ b < wr.heap.size := fun b h => by
        have h1 := HWT.out.1.blk.lt
        have h2 := HGW.out
        rcases h with h | h
        ·omega
        ·exact HWT.out.1.own.lt b h
       have hb10 := (HB8.out.2.c0 HCA.out.2).chg hc10 (fun h => by have := hWB _ h; have := HB8.out.1; omega)
       obtain ⟨z0, z1⟩ := blk2 hb10
       have hr10 := ((HR1.out.1.c0 HCA.out.1).c0 HCA.out.2).chg hc10 (fun b hb h => by have := hWB _ h; have := hb.2.2; omega)
       have haf := packAfter hr10 (by have := HK.out.1; omega)
       have HWB := hide hWB
       have H10 := hide (And.intro hwt2 (And.intro hc10 hgr))
       clear hWB hb10 hr10 hwt2 hc10 hgr
       go_wp2_with fail
       refine haf.mono ?_
       rintro e w11 ⟨fv2, rfl, hof, hc11⟩
       clear haf z0 z1
       have HWS2 := hide (show WrSt w6 L mo i (k + 1) fv2 w11 from by
        have n11 := hc11.size
        have n10 := H10.out.2.1.size
        have nA := HCA.out.1.size
        have nB := HCA.out.2.size
        have nr := HWT.out.2.size
        have hl2 := H10.out.1.own.lt
        have hb2 := H10.out.1.blk.lt
        have hgw := HGW.out
        refine ⟨wv2, (fun k => w10.heap.size ≤ k ∧ k < w11.heap.size), ?_, by rw [← HK.out.2.1]; exact hof.rdB, fun b hb => ⟨hb.2, fun h => ?_, fun _ => by omega⟩, ((((HWT.out.2.trans0 HCA.out.1).trans0 HCA.out.2).trans H10.out.2.1 fun b hb h => by have := (HWB.out b h).1; omega).trans0 hc11)⟩
        ·have h1 := H10.out.1.c0 hc11
         rw [HK.out.2.2.1]
         rw [← hgw]
         simpa [flatB] using h1
        ·rcases h with h | h
         ·have := hb.1; omega
         ·have := (hl2 b h).2; have := hb.1; omega)
       have HKC := hide hkc
       clear hkc hof hc11
       go_wp2_with fail
       go_roundw
       case rel => exact ⟨k + 1, HKC.out, by go_num, HWS2⟩
       case measure => (have := HKC.out; simp [intOf]; omega)
      ·obtain rfl : k = cn := by omega
       have hfe : encC ((pcs L mo i).take k) = encC (pcs L mo i) := by rw [HCN.out, List.take_length]
       rw [hfe, ← HGW.out] at hwt
       have hel := encC_len (pcs L mo i) fun p hp => HLS.out p (pcs_mem hp)
       rw [← HCN.out] at hel
       have hv6 := HV1.out.1.chg HT6.out.2.2 (fun b hb ht => HT1.out.2.2.2 b ht hb)
       have HVR := hide (And.intro (hv6.c0 hc) HV1.out.2)
       have n6 := HT6.out.2.2.size
       have nr := hc.size
       have hbr : Blk wr bs 65 #[.pointer (some ⟨vb, 0, none⟩), .string ⟨#[116, 47]⟩] := ((HBA.out.chg HCR.out fun h => by
        rcases h with h | h
        ·have := HX.out.1 _ h; omega
        ·have := HX.out.2.1; omega).chg HT6.out.2.2 (fun h => by
        rcases HT1.out.2.1 _ h with h | h
        ·have := HX.out.1 _ h; omega
        ·have := HBA.out.lt; omega)).c0 hc
       have HBR := hide hbr
       have HWT := hide (And.intro hwt (And.intro hel hc))
       have HFR := hide (And.intro hfr (show ∀ b, G b → w6.heap.size ≤ b ∧ b < wr.heap.size from fun b hb => ⟨(hG b hb).2.2 HP.out.1, (hG b hb).1⟩))
       have HN6 := hide (And.intro n6 nr)
       clear hwt hel hv6 n6 nr hbr hfr hG hc hws hfe hkc
       go_upto_region 25 with fail
       refine wp_region_T (Chg Non wr) 5 (by kernel_rfl) ?_
       have HW0 := hide ((Chg.refl Non wr).drew)
       generalize World.drew wr = x0 at HW0 ⊢
       refine AnyT.takeM (i := 0) (v := ?_) rfl (by kernel_rfl) (by kernel_rfl) (fun _ _ _ h => h) (by kernel_rfl) (by kernel_rfl) (Or.inl ⟨by rfl, ?_⟩) HW0.out ?_
       rotate_left
       ·(intro w9 h9; obtain ⟨y0, y1⟩ := blk2 (HBR.out.c0 h9); go_simp; try with_reducible rfl)
       try simp only [lz1, lz2, lz3, Act.put, lz4, lz5, lz6]
       refine AnyT.takeM (i := 2) (v := ?_) rfl (by kernel_rfl) (by kernel_rfl) (fun _ _ _ h => h) (by kernel_rfl) (by kernel_rfl) (Or.inl ⟨by rfl, ?_⟩) HW0.out ?_
       rotate_left
       ·(intro w9 h9; go_simp; try with_reducible rfl)
       try simp only [lz1, lz2, lz3, Act.put, lz4, lz5, lz6]
       refine AnyT.one (i := 1) (by kernel_rfl) rfl (fun K hK => ?_)
       rw [if_pos (by rfl)]
       try simp only [lz1, lz2, lz3, Act.put, lz4, lz5, lz6]
       have hcc := wtrBytes (HWT.out.1.c0 HW0.out) (by have := HWT.out.2.1; omega)
       go_wp2_with (go_at_call 25; refine hcc.mono ?_; rintro e x1 ⟨u, rfl, hu, hc⟩)
       have HUB := hide hu.rdB
       obtain ⟨UA, un, uc, rfl⟩ := hu.shapeH
       have HW1 := hide (HW0.out.trans0 hc)
       refine hK.out _ _ (fun _ => HW1.out) ?_
       clear hcc hu hc
       clear hK K
       try simp only [lz1, lz2, lz3, Act.put, lz4, lz5, lz6]
       refine AnyT.one (i := 3) (by kernel_rfl) rfl (fun K hK => ?_)
       rw [if_pos (by rfl)]
       try simp only [lz1, lz2, lz3, Act.put, lz4, lz5, lz6]
       have hcc := vltNumber i (by omega) x1
       go_wp2_with (go_at_call 26; refine hcc.mono ?_; rintro e x2 ⟨rfl, hc⟩)
       have HW2 := hide (HW1.out.trans0 hc)
       refine hK.out _ _ (fun _ => HW2.out) ?_
       have HC3b := hide hc
       clear hcc hc
       clear hK K
       try simp only [lz1, lz2, lz3, Act.put, lz4, lz5, lz6]
       refine AnyT.one (i := 4) (by kernel_rfl) rfl (fun K hK => ?_)
       rw [if_pos (by rfl)]
       try simp only [lz1, lz2, lz3, Act.put, lz4, lz5, lz6]
       go_simp
       have hd3 := (Chg.refl Non x2).alloc (.cells #[.string ⟨(numL i).toArray⟩] 9)
       have hnb := Blk.new x2 9 #[.string ⟨(numL i).toArray⟩]
       obtain ⟨ghnb, hghnb⟩ : ∃ g, g = x2.heap.size := ⟨_, rfl⟩
       rw [← hghnb] at hnb ⊢
       generalize hww : World.alloc x2 _ = x3
       rw [show x2.alloc (.cells #[.string ⟨(numL i).toArray⟩] 9) = x3 from hww] at hd3 hnb
       have HGhnb := hide hghnb
       clear hww hghnb
       have HW3 := hide (HW2.out.trans0 hd3)
       have HNB := hide hnb
       have HD4 := hide hd3
       refine hK.out _ _ (fun _ => HW3.out) ?_
       clear hK K
       try simp only [lz1, lz2, lz3, Act.put, lz4, lz5, lz6]
       refine AnyT.one (i := 5) (by kernel_rfl) rfl (fun K hK => ?_)
       rw [if_pos (by rfl)]
       try simp only [lz1, lz2, lz3, Act.put, lz4, lz5, lz6]
       have hcc := shStore (pre := ⟨#[116, 47]⟩) (x := ⟨(numL i).toArray⟩) (HVR.out.1.c0 HW3.out) (by rw [numA_size]; decide) (by rw [pN_cat]; exact supN_mem (by omega)) (by rw [pN_cat]; exact HVR.out.2.none_ (by omega)) ((HUB.out.c0 HC3b.out).c0 HD4.out) (fun b hb h => by have h1 := HVR.out.1.lt b h; have h2 := HW0.out.size; omega) (by have := HWT.out.2.1; omega) (by rw [supN_len]; omega) (HNB.out.cell 0)
       rw [pN_cat] at hcc
       go_wp2_with (go_at_call 24; refine hcc.mono ?_; rintro e x4 ⟨rfl, u9, hv9, hc9⟩)
       refine hK.out _ _ (fun h => absurd h (by decide)) ?_
       have HP9 := hide (And.intro hv9 hc9)
       clear hcc hv9 hc9
       clear hK K
       try simp only [lz1, lz2, lz3, Act.put, lz4, lz5, lz6]
       refine AnyT.takeL (i := 6) (v := ?_) rfl (by kernel_rfl) (by kernel_rfl) (fun _ _ _ h => h) (by kernel_rfl) (by kernel_rfl) (Or.inl ⟨by rfl, ?_⟩) ?_
       rotate_left
       ·(intro w9; go_simp; try with_reducible rfl)
       try simp only [lz1, lz2, lz3, Act.put, lz4, lz5, lz6]
       refine AnyT.nil (by kernel_rfl) ?_
       have HST2 := hide (show CpSt W T4 (fun b => b = vb) g gt vb h4 L mo (i + 1) (.slice YA (frK L (i * mo + k)).length yc) x4 from CpSt.next HT1.out.2.1 HT1.out.2.2.1 HT1.out.2.2.2 HT1.out.1.1 HV1.out.1.lt HCR.out HT6.out.2.2 HT6.out.2.1 (HWT.out.2.2.trans0 HW3.out) HP9.out.2 HT6.out.1 HP9.out.1 (HVR.out.2.put (by omega) u9) (HFR.out.1.c0 HW3.out) (fun b hb => by have h1 := HFR.out.2 b hb; have h2 := HW3.out.size; omega) (fun h => by
        have h1 := HX.out
        have h2 := HBA.out.lt
        rcases HT1.out.2.2.1 gt h with h | h
        ·exact h1.2.2.2.1 h.symm
        ·have := h1.2.2.1; omega) HT1.out.1.2.1 (by rw [HP.out.2.1]))
       go_wp2_with fail
       go_roundw
       case rel => exact ⟨i + 1, by go_num, by have := HP.out.2.2.1; have := HLN.out; omega, HST2⟩
       case measure => (have := HP.out.2.2.1; simp [intOf]; omega)
    ·--ENDSKIP
     obtain rfl : cn = 0 := by have := pcs_len L mo i; omega
     have hT6w : ∀ b, T6 b → w1.heap.size ≤ b := fun b hb => by
      have h1 := HREST.out.2.2.2.2.2.size
      have h2 := HCR.out.size
      have h3 := HC1.out.size
      have h4 := HBA.out.lt
      have h5 := HX.out.2.1
      have h6 := HREST.out.2.2.2.2.1
      rcases HT6.out.2.1 b hb with h | h
      ·rcases HT1.out.2.1 b h with h | h
       ·exact HREST.out.2.2.1 b h
       ·omega
      ·omega
     have hT6b : ∀ b, T6 b → b ≠ bs := fun b hb e => by
      have h2 := HCR.out.size
      have h4 := HBA.out.lt
      rcases HT6.out.2.1 b hb with h | h
      ·rcases HT1.out.2.1 b h with h | h
       ·have := HX.out.1 b h; omega
       ·omega
      ·omega
     have hT6v : ∀ b, V1 b → ¬ T6 b := fun b hv hb => by
      have h1 := HV1.out.1.lt b hv
      rcases HT6.out.2.1 b hb with h | h
      ·exact HT1.out.2.2.2 b h hv
      ·omega
     have hgv : ∀ b, V1 b → b ≠ gt := fun b hv e => by
      have h1 := HX.out
      have h2 := HBA.out.lt
      rcases HT1.out.2.2.1 b hv with h | h
      ·exact h1.2.2.2.1 (by rw [← e]; exact h.symm)
      ·have := h1.2.2.1; omega
     have hcx : Chg (fun b => w1.heap.size ≤ b) W w6 := (HCR.out.mono (S' := fun b => w1.heap.size ≤ b) fun b _ h => by
      rcases h with h | h
      ·exact HREST.out.2.2.1 b h
      ·rw [h]; exact HREST.out.2.2.2.2.1).trans HT6.out.2.2 fun b hb h => by
      rcases HT1.out.2.1 b h with h | h
      ·exact HREST.out.2.2.1 b h
      ·omega
     have hv6 : Vlt w6 V1 vb supN vl := HV1.out.1.chg HT6.out.2.2 (fun b hb ht => HT1.out.2.2.2 b ht hb)
     have hb6 : Blk w6 bs 65 #[.pointer (some ⟨vb, 0, none⟩), .string ⟨#[116, 47]⟩] := (HBA.out.chg HCR.out fun h => by
      rcases h with h | h
      ·have := HX.out.1 _ h; omega
      ·have := HX.out.2.1; omega).chg HT6.out.2.2 (fun h => by
      rcases HT1.out.2.1 _ h with h | h
      ·have := HX.out.1 _ h; omega
      ·have := HBA.out.lt; omega)
     have htw := refTwins (HREST.out.1.chg hcx (fun b hb h => by omega)) HS.out.2 (by have := HL.out.2; omega)
     have HCX := hide hcx
     have HT6S := hide (And.intro hT6w (And.intro hT6b (And.intro hT6v hgv)))
     have HVB := hide (And.intro hv6 hb6)
     have HDONE := hide (show L.length ≤ i * mo by omega)
     clear hcx hT6w hT6b hT6v hgv hv6 hb6 hlt hcn
     go_wp2_with fail
     refine htw.mono ?_
     rintro e w7 ⟨tv, rfl, ho, hc⟩
     clear htw
     have hb := ho.bl
     have hr3 := ho.rd
     obtain ⟨UA, uc, rfl, huc, hum⟩ := ho.shape
     have HC7 := hide hc
     have hnt := HT6.out.1.lt
     have htap := tApply (B := 372) (C := 93) (HT6.out.1.c0 hc) hr3.toW (fun b hb2 => ⟨fun h => by
      have h1 := hnt.1 b h
      rcases hb2.1 with h2 | h2
      ·omega
      ·have := (hb b h2).1; omega, fun h => by
      have h1 := hnt.2.1
      rcases hb2.1 with h2 | h2
      ·omega
      ·have := (hb b h2).1; omega⟩) (by have := HL.out.2; have := HS4.out.2.2; omega) (by have := HL.out.2; have := HS4.out.2.2; omega) (by have := HL.out.2; omega) (by have := HL.out.2; omega) (by have := HL.out.2; omega)
     clear ho hb hr3 hc hnt
     go_wp2_with fail
     refine htap.mono ?_
     rintro e w8 hpost
     unfold ApPost at hpost
     obtain ⟨z3, T8, h8, l8, rfl, hz9, _, _, _, _, hc8⟩ := hpost
     have hz9b : (z3 == 9) = false := beq_eq_false_iff_ne.2 hz9
     have HC8 := hide hc8
     clear htap hc8
     have hpl := lawPlant w8 2 (by omega) (by omega)
     rw [show ((2 : Nat) : Int) = 2 from rfl] at hpl
     go_wp2_with fail
     refine hpl.mono ?_
     rintro e w9 ⟨gu, gp, T9, rfl, hT9, hTn9, hgu, hc9⟩
     clear hpl
     have hv9 : Vlt w9 V1 vb supN vl := ((HVB.out.1.c0 HC7.out).chg HC8.out (fun b hb h => by
      rcases h with h | h
      ·exact HT6S.out.2.2.1 b hb h
      ·exact HT6S.out.2.2.2 b hb h)).c0 hc9
     have hb9 := ((HVB.out.2.c0 HC7.out).chg HC8.out (fun h => by
      rcases h with h | h
      ·exact HT6S.out.2.1 _ h rfl
      ·have := HX.out.2.2.1; omega)).c0 hc9
     have hcx9 : Chg (fun b => w1.heap.size ≤ b) W w9 := (((HCX.out.trans0 HC7.out).trans HC8.out fun b hb h => by
      rcases h with h | h
      ·exact HT6S.out.1 b h
      ·rw [h]; exact HREST.out.2.2.2.1).trans0 hc9)
     obtain ⟨x0, x1⟩ := blk2 hb9
     have hnm := shNames (pre := ⟨#[116, 47]⟩) hv9 (by rw [supN_len]; omega) (by decide) supN_small
     have HV9 := hide hv9
     have HB9 := hide hb9
     have HCX9 := hide hcx9
     have HV8 := hide (show (∀ b, V1 b → b < w8.heap.size) ∧ bs < w8.heap.size ∧ w8.heap.size ≤ w9.heap.size from by
      have n1 := HT6.out.2.2.size
      have n2 := HC7.out.size
      have n3 := HC8.out.size
      have n4 := HCR.out.size
      have n5 := HBA.out.lt
      exact ⟨fun b hb => by have := HV1.out.1.lt b hb; omega, by omega, hc9.size⟩)
     have HT9 := hide (And.intro hT9 (And.intro hTn9 hgu))
     clear hv9 hb9 hcx9 hT9 hTn9 hgu hc9 hz9 HC7 HC8
     go_wp2_with fail
     refine hnm.mono ?_
     rintro e w10 ⟨nv, ss, rfl, hperm, hrd, hc⟩
     clear hnm x0 x1
     have hno := names_out (n := i) (by omega) (hperm.trans HV1.out.2.2.1)
     have hrd2 : RdV w10 (fun b => w9.heap.size ≤ b ∧ b < w10.heap.size) 1 nv ((List.range i).map numL).length (((List.range i).map numL).map encStr) := by rw [← hno]; exact hrd
     obtain ⟨NA, nc, rfl, hnc, hnm⟩ := hrd2.shape
     have hil : ((List.range i).map numL).length = i := by simp
     rw [hil] at hnc ⊢
     have HNM := hide hrd2
     have HC10 := hide hc
     clear hperm hrd hrd2 hc hno hil
     go_wp2_with fail
     have hut0 : UtSt w10 T9 Non gp gu (L.drop (i * mo)) w10 := by
      rw [List.drop_eq_nil_of_le HDONE.out]
      exact ⟨T9, 0, HT9.out.1.c0 HC10.out, Nat.le_refl _, fun b hb => .inl hb, Chg.refl _ _⟩
     have HUT0 := hide hut0
     clear hut0
     go_loopw [10, 21] (fun okv iv wr => ∃ c : Nat, c ≤ i ∧ okv = .bool true ∧ iv = .int .i64 ((c : Int) - 1) ∧ Hid (UtSt w10 T9 Non gp gu (L.drop (c * mo)) wr)) (fun _ iv _ => (intOf iv + 1).toNat)
     case atStart => exact ⟨i, Nat.le_refl _, rfl, rfl, HUT0⟩
     case round =>
      clear HUT0
      obtain ⟨c, hci, rfl, rfl, hut⟩ := hrel
      cases c with
      | zero =>
       rw [Nat.zero_mul, List.drop_zero] at hut
       rw [show ((0 : Nat) : Int) - 1 = -1 from rfl]
       obtain ⟨Tz, hz, hTz, hhz, hsz, hcz⟩ := hut.out
       have hsc := tScan (m := 0) hTz (RdB.nil_ wr Non) (RdB.nil_ wr Non) (fun b hb => hb.elim) (by have := HLN.out; omega) (by have := HLN.out; omega) (by have := HLN.out; omega)
       rw [show cutM 0 (rngL [] [] L) = L from by rw [rng_all]; rfl] at hsc
       have hw18 : w1.heap.size ≤ w8.heap.size := by
        have h1 := HV8.out.2.1
        have h2 := HX.out.2.2.2.2
        have h3 := HC2.out.size
        have h4 := HC3.out.size
        have h5 := HS4.out.2.1.size
        omega
       have hzw : ∀ b, Tz b → w1.heap.size ≤ b := fun b hb => by
        rcases hsz b hb with h | h
        ·have := HT9.out.2.1 b h; omega
        ·have := HV8.out.2.2; have := HC10.out.size; omega
       have hcw : Chg (fun b => w1.heap.size ≤ b) W wr := (HCX9.out.trans0 HC10.out).trans hcz fun b hb h => by
        rcases h with h | h | h
        ·have := HT9.out.2.1 b h; omega
        ·have := HT9.out.2.2; omega
        ·exact h.elim
       have HCW3 := hide (And.intro hcw hzw)
       have HHZ := hide hhz
       clear hTz hhz hsz hcz hut hw18 hzw hcw
       go_wp2_with fail
       refine hsc.mono ?_
       rintro e w11 ⟨gv, Ty, rfl, hgot, hTy, hty, hcy⟩
       clear hsc
       have hcw11 : Chg (fun b => w1.heap.size ≤ b) W w11 := HCW3.out.1.trans hcy fun b hb h => HCW3.out.2 b h
       have hsm := refSameT hgot (HREST.out.2.1.chg hcw11 (fun b hb h => by omega))
       obtain ⟨GA, gc, rfl, _, _⟩ := hgot.shape
       have hyw : ∀ b, Ty b → w1.heap.size ≤ b := fun b hb => by
        have h1 := HCW3.out.1.size
        have h2 := HREST.out.2.2.2.2.2.size
        have h3 := HBA.out.lt
        have h4 := HX.out.2.2.2.2
        have h5 := HC2.out.size
        have h6 := HC3.out.size
        have h7 := HS4.out.2.1.size
        rcases hty b hb with h | h
        ·exact HCW3.out.2 b h
        ·omega
       have HTY := hide (And.intro hTy (And.intro hyw hcw11))
       clear hgot hTy hty hcy hyw hcw11
       go_wp2_with fail
       refine hsm.mono ?_
       rintro e w13 ⟨rfl, nq, hq⟩
       have hq13 : Chg Non w11 w13 := (Chg.refl Non w11).quiet ⟨nq, hq⟩
       have hck := tCheck (HTY.out.1.c0 hq13) (by have := HLN.out; have := HHZ.out; omega) (by have := HLN.out; omega)
       have HQ := hide hq13
       clear hsm hq hq13
       go_wp2_with fail
       refine hck.mono ?_
       rintro e w14 ⟨rfl, T14, hT14, ht14, hc14⟩
       clear hck
       have hfin : Chg Non w w14 := HREST.out.2.2.2.2.2.trans ((HTY.out.2.2.trans0 HQ.out).trans hc14 fun b hb h => HTY.out.2.1 b h) fun b hb h => by have := HC1.out.size; omega
       clear hT14 ht14 hc14
       go_wp2_with fail
       go_ret
       exact ⟨rfl, by rw [← HWC.out]; exact hfin⟩
      | succ j =>
       rw [show ((j + 1 : Nat) : Int) - 1 = (j : Int) by omega]
       obtain ⟨T1b, h1, hT1, hh1, hs1, hc1⟩ := hut.out
       have hN1 : ∀ b, T9 b → b < w9.heap.size := HT9.out.1.lt.1
       have hgu9 : gu < w9.heap.size := HT9.out.1.lt.2.1
       have hnmr := HNM.out.chg hc1 (fun b hb h => by
        rcases h with h | h | h
        ·have := hN1 b h; omega
        ·omega
        ·exact h)
       have hjl : j < ((List.range i).map numL).length := by simp; omega
       obtain ⟨ad, rfl, _, hcell⟩ := RdV.str hnmr hjl
       have hcell2 : wr.cell? (ad.add j) = some (.string ⟨(numL j).toArray⟩) := by
        rw [List.getElem_map, List.getElem_range] at hcell; exact hcell
       have hji : (j : Int) < (i : Int) := by omega
       have hji2 : j < i := by omega
       have hj0 : (0 : Int) ≤ (j : Int) := by omega
       have hvw := (HV9.out.c0 HC10.out).chg hc1 (fun b hb h => by
        have h9 := HV8.out.1 b hb
        rcases h with h | h | h
        ·have := HT9.out.2.1 b h; omega
        ·have := HT9.out.2.2; omega
        ·exact h)
       have hbw := (HB9.out.c0 HC10.out).chg hc1 (fun h => by
        have h9 := HV8.out.2.1
        rcases h with h | h | h
        ·have := HT9.out.2.1 _ h; omega
        ·have := HT9.out.2.2; omega
        ·exact h)
       have hel := encC_len (pcs L mo j) fun p hp => HLS.out p (pcs_mem hp)
       have hel2 : (pcs L mo j).length ≤ 60 := by have := HLN.out; have := pcs_len L mo j; omega
       have HCELL := hide hcell2
       have HVW := hide hvw
       have HBW := hide hbw
       have HEL := hide (show (encC (pcs L mo j)).length ≤ 18000 by omega)
       have HNU := hide (And.intro hN1 hgu9)
       have HT1 := hide (And.intro hT1 (And.intro hh1 (And.intro hs1 hc1)))
       have HPL := hide hel2
       clear hcell hcell2 hvw hbw hel hN1 hgu9 hnmr hjl hT1 hh1 hs1 hc1 hut hel2
       go_upto_region 34 with fail
       refine wp_region_T (Chg Non wr) 6 (by kernel_rfl) ?_
       have HW0 := hide ((Chg.refl Non wr).drew)
       generalize World.drew wr = x0 at HW0 ⊢
       refine AnyT.takeM (i := 0) (v := ?_) rfl (by kernel_rfl) (by kernel_rfl) (fun _ _ _ h => h) (by kernel_rfl) (by kernel_rfl) (Or.inl ⟨by rfl, ?_⟩) HW0.out ?_
       rotate_left
       ·(intro w9 h9; obtain ⟨y0, y1⟩ := blk2 (HBW.out.c0 h9); go_simp; try with_reducible rfl)
       try simp only [lz1, lz2, lz3, Act.put, lz4, lz5, lz6]
       refine AnyT.takeM (i := 1) (v := ?_) rfl (by kernel_rfl) (by kernel_rfl) (fun _ _ _ h => h) (by kernel_rfl) (by kernel_rfl) (Or.inl ⟨by rfl, ?_⟩) HW0.out ?_
       rotate_left
       ·(intro w9 h9; go_simp; try with_reducible rfl)
       try simp only [lz1, lz2, lz3, Act.put, lz4, lz5, lz6]
       refine AnyT.takeM (i := 2) (v := ?_) rfl (by kernel_rfl) (by kernel_rfl) (fun _ _ _ h => h) (by kernel_rfl) (by kernel_rfl) (Or.inl ⟨by rfl, ?_⟩) HW0.out ?_
       rotate_left
       ·(intro w9 h9; go_simp; try with_reducible rfl)
       try simp only [lz1, lz2, lz3, Act.put, lz4, lz5, lz6]
       refine AnyT.takeM (i := 3) (v := ?_) rfl (by kernel_rfl) (by kernel_rfl) (fun _ _ _ h => h) (by kernel_rfl) (by kernel_rfl) (Or.inl ⟨by rfl, ?_⟩) HW0.out ?_
       rotate_left
       ·(intro w9 h9; go_simp; try with_reducible rfl)
       try simp only [lz1, lz2, lz3, Act.put, lz4, lz5, lz6]
       refine AnyT.takeM (i := 4) (v := ?_) rfl (by kernel_rfl) (by kernel_rfl) (fun _ _ _ h => h) (by kernel_rfl) (by kernel_rfl) (Or.inl ⟨by rfl, ?_⟩) HW0.out ?_
       rotate_left
       ·(intro w9 h9; have y2 := h9.cell HCELL.out (fun h => h); go_simp; try with_reducible rfl)
       try simp only [lz1, lz2, lz3, Act.put, lz4, lz5, lz6]
       refine AnyT.one (i := 5) (by kernel_rfl) rfl (fun K hK => ?_)
       rw [if_pos (by rfl)]
       try simp only [lz1, lz2, lz3, Act.put, lz4, lz5, lz6]
       go_simp
       have hd1 := (Chg.refl Non x0).alloc (.cells #[.string ⟨(numL j).toArray⟩] 9)
       have hnb := Blk.new x0 9 #[.string ⟨(numL j).toArray⟩]
       obtain ⟨ghnb, hghnb⟩ : ∃ g, g = x0.heap.size := ⟨_, rfl⟩
       rw [← hghnb] at hnb ⊢
       generalize hww : World.alloc x0 _ = x1
       rw [show x0.alloc (.cells #[.string ⟨(numL j).toArray⟩] 9) = x1 from hww] at hd1 hnb
       have HGhnb := hide hghnb
       clear hww hghnb
       have HW1 := hide (HW0.out.trans0 hd1)
       have HNB := hide hnb
       refine hK.out _ _ (fun _ => HW1.out) ?_
       clear hK K
       try simp only [lz1, lz2, lz3, Act.put, lz4, lz5, lz6]
       refine AnyT.one (i := 6) (by kernel_rfl) rfl (fun K hK => ?_)
       rw [if_pos (by rfl)]
       try simp only [lz1, lz2, lz3, Act.put, lz4, lz5, lz6]
       have hcc := shFetch (pre := ⟨#[116, 47]⟩) (x := ⟨(numL j).toArray⟩) (HVW.out.c0 HW1.out) (by rw [numA_size]; decide) (by rw [pN_cat]; exact HV1.out.2.2.2 j (by omega)) (by have := HEL.out; omega) (HNB.out.cell 0)
       go_wp2_with (go_at_call 28; refine hcc.mono ?_; rintro e x2 ⟨u9, rfl, hu9, hc9⟩; obtain ⟨UA9, un9, uc9, rfl⟩ := hu9.shapeH)
       refine hK.out _ _ (fun h => absurd h (by decide)) ?_
       have HU9 := hide (And.intro hu9 hc9)
       clear hcc hu9 hc9
       clear hK K
       try simp only [lz1, lz2, lz3, Act.put, lz4, lz5, lz6]
       refine AnyT.takeL (i := 7) (v := ?_) rfl (by kernel_rfl) (by kernel_rfl) (fun _ _ _ h => h) (by kernel_rfl) (by kernel_rfl) (Or.inl ⟨by rfl, ?_⟩) ?_
       rotate_left
       ·(intro w9; go_simp; try with_reducible rfl)
       try simp only [lz1, lz2, lz3, Act.put, lz4, lz5, lz6]
       refine AnyT.takeL (i := 8) (v := ?_) rfl (by kernel_rfl) (by kernel_rfl) (fun _ _ _ h => h) (by kernel_rfl) (by kernel_rfl) (Or.inl ⟨by rfl, ?_⟩) ?_
       rotate_left
       ·(intro w9; go_simp; try with_reducible rfl)
       try simp only [lz1, lz2, lz3, Act.put, lz4, lz5, lz6]
       refine AnyT.takeL (i := 9) (v := ?_) rfl (by kernel_rfl) (by kernel_rfl) (fun _ _ _ h => h) (by kernel_rfl) (by kernel_rfl) (Or.inl ⟨by rfl, ?_⟩) ?_
       rotate_left
       ·(intro w9; go_simp; try with_reducible rfl)
       try simp only [lz1, lz2, lz3, Act.put, lz4, lz5, lz6]
       refine AnyT.takeL (i := 10) (v := ?_) rfl (by kernel_rfl) (by kernel_rfl) (fun _ _ _ h => h) (by kernel_rfl) (by kernel_rfl) (Or.inl ⟨by rfl, ?_⟩) ?_
       rotate_left
       ·(intro w9; go_simp; try with_reducible rfl)
       try simp only [lz1, lz2, lz3, Act.put, lz4, lz5, lz6]
       refine AnyT.takeL (i := 11) (v := ?_) rfl (by kernel_rfl) (by kernel_rfl) (fun _ _ _ h => h) (by kernel_rfl) (by kernel_rfl) (Or.inl ⟨by rfl, ?_⟩) ?_
       rotate_left
       ·(intro w9; go_simp; try with_reducible rfl)
       try simp only [lz1, lz2, lz3, Act.put, lz4, lz5, lz6]
       refine AnyT.nil (by kernel_rfl) ?_
       have hpr := packRead HU9.out.1.rd (by have := HEL.out; omega)
       go_wp2_with fail
       refine hpr.mono ?_
       rintro e w12 ⟨gr, rfl, hgr, hrd, hc12⟩
       clear hpr
       obtain ⟨fs, hfs⟩ : ∃ n, n = x2.heap.size := ⟨_, rfl⟩
       rw [← hfs] at hgr hrd
       have hrd2 : Rdr w12 (fun b => fs ≤ b ∧ b < w12.heap.size) gr (encC (pcs L mo j)) (encC ((pcs L mo j).take 0)).length 0 := hrd.cut fun b hb hl => ⟨hb, hl⟩
       have hgl := hrd.lt
       have hcw := (HW1.out.trans0 HU9.out.2).trans0 hc12
       have hcx2 := (HW1.out.trans0 HU9.out.2).size
       have hut2 : UtSt w12 T1b (fun b => b = gr) gp gu ((pcs L mo j).take 0 ++ L.drop ((j + 1) * mo)) w12 := ⟨T1b, h1, by rw [List.take_zero, List.nil_append]; exact HT1.out.1.c0 hcw, by rw [List.take_zero, List.nil_append]; exact HT1.out.2.1, fun b hb => .inl hb, Chg.refl _ _⟩
       have HST := hide (And.intro hrd2 hut2)
       have HG := hide (show (∀ b, T1b b → b < fs) ∧ gu < fs ∧ fs ≤ gr ∧ gr < w12.heap.size ∧ w10.heap.size ≤ gr from ⟨fun b hb => by have := HT1.out.1.lt.1 b hb; omega, by have := HT1.out.1.lt.2.1; omega, hgr, hgl, by have := HT1.out.2.2.2.size; omega⟩)
       have HCW2 := hide hcw
       obtain ⟨pn, hpn⟩ : ∃ n, n = (pcs L mo j).length := ⟨_, rfl⟩
       have hp60 : pn ≤ 60 := by have := HPL.out; omega
       have HPN := hide hpn
       have HCI := hide hci
       clear hfs hgr hrd hc12 hrd2 hgl hcw hcx2 hut2 hpn hci
       go_wp2_with fail
       go_loopw [10] (fun okv wr2 => ∃ k : Nat, k ≤ pn ∧ okv = .bool true ∧ Hid (Rdr wr2 (fun b => fs ≤ b ∧ b < w12.heap.size) gr (encC (pcs L mo j)) (encC ((pcs L mo j).take k)).length 0 ∧ UtSt w12 T1b (fun b => b = gr) gp gu ((pcs L mo j).take k ++ L.drop ((j + 1) * mo)) wr2)) (fun _ wr2 => (encC (pcs L mo j)).length - posOf wr2 gr)
       case atStart => exact ⟨0, Nat.zero_le _, rfl, HST⟩
       case round =>
        clear HST
        rename World => wr2
        obtain ⟨k, hkp, rfl, hst⟩ := hrel
        have hle := rdrLeft hst.out.1
        by_cases hkn : k < pn
        ·have hk2 : k < (pcs L mo j).length := by have := HPN.out; omega
         obtain ⟨lf, hlf⟩ : ∃ n, n = (encC (pcs L mo j)).length - (encC ((pcs L mo j).take k)).length := ⟨_, rfl⟩
         have hpos : 0 < lf := by have := encC_left hk2; omega
         rw [← hlf] at hle
         have e1 : decide ((lf : Int) > 0) = true := decide_eq_true (by omega)
         have e2 : decide (0 < (lf : Int)) = true := decide_eq_true (by omega)
         have e3 : decide (0 < lf) = true := decide_eq_true (by omega)
         clear hlf
         go_wp2_with fail
         refine hle.mono ?_
         rintro e w13 ⟨rfl, hq⟩
         have hq13 : Chg Non wr2 w13 := (Chg.refl Non wr2).quiet hq
         have h13 := hst.out.1.c0 hq13
         have herr := rdrErr h13
         have H13 := hide (And.intro h13 (hst.out.2.c0 hq13))
         have HQ := hide hq13
         have HOLD := hide hst.out.1.pos
         clear hle hq hq13 h13 hst
         go_wp2_with fail
         refine herr.mono ?_
         rintro e w14 ⟨rfl, rfl⟩
         clear herr
         have hps := HLS.out _ (pcs_mem (List.getElem_mem hk2))
         have hkey := encC_key hk2 hps.1
         have hval := encC_val hk2 hps.2
         have hput := pcs_put HT4.out.upL hk2
         obtain ⟨ka, hka⟩ : ∃ x, x = (pcs L mo j)[k].1 := ⟨_, rfl⟩
         obtain ⟨va, hva⟩ : ∃ x, x = (pcs L mo j)[k].2 := ⟨_, rfl⟩
         rw [← hka] at hkey hval hput hps
         rw [← hva] at hval hput hps
         have htx := rdrText H13.out.1 (by have := HEL.out; omega)
         rw [hkey] at htx
         dsimp only at htx
         have HP2 := hide (And.intro hps (And.intro hval (And.intro hput hk2)))
         have HKN := hide hkn
         clear hps hkey hval hput hka hva hk2 hkn
         go_wp2_with fail
         refine htx.mono ?_
         rintro e w15 ⟨K, rfl, hK1, hr15, hc15⟩
         clear htx
         have htx := rdrText hr15 (by have := HEL.out; omega)
         rw [HP2.out.2.1] at htx
         dsimp only at htx
         have HC15 := hide hc15
         have HK1 := hide hK1
         clear hr15 hc15 hK1
         go_wp2_with fail
         refine htx.mono ?_
         rintro e w16 ⟨V, rfl, hV2, hr16, hc16⟩
         clear htx
         have hgw : gr < w14.heap.size := H13.out.1.lt
         obtain ⟨T2b, h2, hT2, hh2, hs2, hc2⟩ := H13.out.2
         have hlt2 := hT2.lt
         have hng : ∀ b, T2b b → b ≠ gr := fun b hb e => by
          have h9 := HG.out
          rcases hs2 b hb with h | h
          ·have := h9.1 b h; omega
          ·omega
         have hgn : gu ≠ gr := by have := HG.out; omega
         have hT16 := (hT2.chg HC15.out (fun b hb e => hng b hb e) hgn).chg hc16 (fun b hb e => hng b hb e) hgn
         have hk16 : RdB w16 (fun b => w14.heap.size ≤ b ∧ b < w15.heap.size) K ka := HK1.out.rdB.chg hc16 (fun b hb e => by omega)
         have hv16 := hV2.rdB
         obtain ⟨KA, kc, rfl, _, _⟩ := hk16.shape
         obtain ⟨VA, vc, rfl, _, _⟩ := hv16.shape
         have hc17 := (Chg.refl Non w16).alloc (.cells #[.slice KA ka.length kc, .slice VA va.length vc, .bool false] 86)
         have n15 := HC15.out.size
         have n16 := hc16.size
         have n17 := hc17.size
         have hrw := RdW.one (F := fun b => w14.heap.size ≤ b ∧ b < w16.heap.size) (hk16.mono fun b hb => by omega) (hv16.mono fun b hb => by omega) 86
         have hML : ((pcs L mo j).take k ++ L.drop ((j + 1) * mo)).length ≤ 60 ∧ ((pcs L mo j).take k ++ L.drop ((j + 1) * mo)).length + 1 ≤ 61 := by
          have h1 := congrArg List.length (pcs_app L mo j)
          have h3 := HLN.out
          rw [List.length_append, List.length_drop, List.length_drop] at h1
          rw [List.length_append, List.length_take, List.length_drop]
          have h4 := HP2.out.2.2.2
          omega
         have htap := tApply (B := 256) (C := 64) (hT16.c0 hc17) hrw (fun b hb => by
          rcases hb with h | h
          ·exact ⟨fun h3 => by have := hlt2.1 b h3; omega, by omega⟩
          ·exact ⟨fun h3 => by have := hlt2.1 b h3; omega, by omega⟩) (by simp only [List.length_singleton]; omega) (by simp only [List.length_singleton]; omega) (by simp only [List.length_singleton]; omega) (by simp only [List.length_singleton]; omega) (by simp)
         have HB17 := hide (show (∀ b, T2b b → Ext T1b w12 (w16.alloc (.cells #[.slice KA ka.length kc, .slice VA va.length vc, .bool false] 86)) b) ∧ Chg (fun b => T1b b ∨ b = gu ∨ b = gr) w12 (w16.alloc (.cells #[.slice KA ka.length kc, .slice VA va.length vc, .bool false] 86)) from
          ⟨fun b hb => (hs2 b hb).up (by omega), ((hc2.trans HC15.out fun b _ e => .inr (.inr e)).trans hc16 fun b _ e => .inr (.inr e)).trans0 hc17⟩)
         have HR17 := hide (hr16.c0 hc17)
         have HML := hide (And.intro hML (And.intro hh2 hng))
         clear hng hgn hT16 hk16 hv16 hc17 n15 n16 n17 hrw hML hr16 hc16 hV2 hlt2 hT2 hh2 hs2 hc2 hgw
         go_wp2_with fail
         refine htap.mono ?_
         rintro e w18 hpost
         unfold ApPost at hpost
         obtain ⟨z5, T5, h5, l5, rfl, hz5, himp, hh5, hT5, hs5, hc5⟩ := hpost
         obtain ⟨e5, e6⟩ := himp (by simp only [List.length_singleton]; have := HML.out; omega)
         rw [appR_one HP2.out.1.1 HP2.out.1.2] at e5 e6
         dsimp only at e5 e6
         rw [HP2.out.2.2.1] at e5
         subst e6
         rw [e5] at hT5
         have hu5 : UtSt w12 T1b (fun b => b = gr) gp gu ((pcs L mo j).take (k + 1) ++ L.drop ((j + 1) * mo)) w18 := UtSt.step HB17.out.1 HB17.out.2 hT5 hh5 HML.out.2.1 (by
          have := HP2.out.2.2.2
          rw [List.length_append, List.length_append, List.length_take, List.length_take]; omega) hs5 hc5
         have hR18 := HR17.out.chg hc5 (fun h => by
          rcases h with h | h
          ·exact HML.out.2.2 _ h rfl
          ·have := HG.out; omega) (fun b hb _ h => by
          have h9 := HG.out
          rcases h with h | h
          ·rcases HB17.out.1 b h with h | h
           ·have := h9.1 b h; omega
           ·omega
          ·omega)
         have hp18 := hR18.pos
         have HSTN := hide (And.intro hR18 hu5)
         have HPOS := hide hp18
         clear htap e5 hz5 himp hh5 hT5 hs5 hc5 hu5 hR18 hp18
         go_wp2_with fail
         go_roundw
         case rel => exact ⟨k + 1, HKN.out, rfl, HSTN⟩
         case measure =>
          have h1 := HPOS.out
          have h2 := HOLD.out
          have h3 := congrArg List.length (encC_take HP2.out.2.2.2)
          rw [List.length_append, List.length_append] at h3
          have h4 := partB_pos (pcs L mo j)[k].1
          rw [h1.1, h2.1]
          have h5 := h1.2
          omega
        ·obtain rfl : k = pn := by omega
         have hfull : (pcs L mo j).take k = pcs L mo j := by rw [HPN.out, List.take_length]
         obtain ⟨lf, hlf⟩ : ∃ n, n = (encC (pcs L mo j)).length - (encC ((pcs L mo j).take k)).length := ⟨_, rfl⟩
         rw [← hlf] at hle
         obtain rfl : lf = 0 := by rw [hlf, hfull]; omega
         have hu9 := hst.out.2
         rw [hfull, pcs_app] at hu9
         have HUX := hide hu9
         clear hlf hfull hu9 hst
         rw [show ((0 : Nat) : Int) = 0 from rfl] at hle
         go_wp2_with fail
         refine hle.mono ?_
         rintro e w13 ⟨rfl, hq⟩
         have hq13 : Chg Non wr2 w13 := (Chg.refl Non wr2).quiet hq
         have HUJ := hide (show UtSt w10 T9 Non gp gu (L.drop (j * mo)) w13 from UtSt.join (fun b hb => (HT1.out.2.2.1 b hb).up HCW2.out.size) (HT1.out.2.2.2.trans0 HCW2.out) (HUX.out.c0 hq13) (fun b hb => by have := HG.out; have hb : b = gr := hb; omega))
         clear hle hq hq13
         go_wp2_with fail
         go_roundw
         case rel => exact ⟨j, by have := HCI.out; omega, rfl, by go_num, HUJ⟩
         case measure => (simp [intOf] <;> omega)
end Go.Proofs.YtliimeoblffigaaGreat

