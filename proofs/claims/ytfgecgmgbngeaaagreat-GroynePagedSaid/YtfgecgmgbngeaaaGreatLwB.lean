/- The walk of groynetop.GroynePaged. -/
import Derived.Test.YtfgecgmgbngeaaaGreatLwA
set_option maxRecDepth 100000
namespace Go.Proofs.YtfgecgmgbngeaaaGreat
open Go.RowKit Go.Maps
set_option linter.unusedVariables false
set_option linter.unusedSimpArgs false

set_option maxHeartbeats 32000000 in
theorem pagedW {w : World} {F : Nat → Prop} {lf1 lf2 : Bool} {K1 V1 N1 K2 V2 N2 : Option Addr} {kn1 kc1 vn1 vc1 nn1 nc1 kn2 kc2 vn2 vc2 nn2 nc2 : Nat} {ks1 vs1 ks2 vs2 : List (List UInt8)} {ns1 ns2 : List Int} {arm : Int}
    (hk1 : RdBB w F (.slice K1 kn1 kc1) ks1) (hv1 : RdBB w F (.slice V1 vn1 vc1) vs1) (hn1 : RdI w F (.slice N1 nn1 nc1) ns1) (hk2 : RdBB w F (.slice K2 kn2 kc2) ks2) (hv2 : RdBB w F (.slice V2 vn2 vc2) vs2) (hn2 : RdI w F (.slice N2 nn2 nc2) ns2) (hF : ∀ b, F b → b < w.heap.size) (harm : arm < 9223372036854775808) :
    Calls Tryz.prog 3 #[.agg #[.bool lf1, .slice K1 kn1 kc1, .slice V1 vn1 vc1, .slice N1 nn1 nc1], .agg #[.bool lf2, .slice K2 kn2 kc2, .slice V2 vn2 vc2, .slice N2 nn2 nc2], .int .i64 arm] w fun e w' => e = .returned (.bool true) ∧ Chg Non w w' := by
  obtain ⟨N, hN⟩ : ∃ N, N = w.heap.size := ⟨_, rfl⟩
  have hb3 := Blk.new w 25 #[.bool lf1, .slice K1 kn1 kc1, .slice V1 vn1 vc1, .slice N1 nn1 nc1]
  have hc3 := (Chg.refl Non w).alloc (.cells #[.bool lf1, .slice K1 kn1 kc1, .slice V1 vn1 vc1, .slice N1 nn1 nc1] 25)
  have hn3 := sizeAl' w (.cells #[.bool lf1, .slice K1 kn1 kc1, .slice V1 vn1 vc1, .slice N1 nn1 nc1] 25)
  have hb4 := Blk.new (w.alloc (.cells #[.bool lf1, .slice K1 kn1 kc1, .slice V1 vn1 vc1, .slice N1 nn1 nc1] 25)) 25 #[.bool lf2, .slice K2 kn2 kc2, .slice V2 vn2 vc2, .slice N2 nn2 nc2]
  have hc4 := (Chg.refl Non (w.alloc (.cells #[.bool lf1, .slice K1 kn1 kc1, .slice V1 vn1 vc1, .slice N1 nn1 nc1] 25))).alloc (.cells #[.bool lf2, .slice K2 kn2 kc2, .slice V2 vn2 vc2, .slice N2 nn2 nc2] 25)
  have hn4 := sizeAl' (w.alloc (.cells #[.bool lf1, .slice K1 kn1 kc1, .slice V1 vn1 vc1, .slice N1 nn1 nc1] 25)) (.cells #[.bool lf2, .slice K2 kn2 kc2, .slice V2 vn2 vc2, .slice N2 nn2 nc2] 25)
  rw [hn3] at hb4 hn4
  have hc2 := hc3.trans0 hc4
  have hb32 := hb3.c0 hc4
  have HR1 := hide (And.intro (hk1.c0 hc2) (And.intro (hv1.c0 hc2) (hn1.c0 hc2)))
  have HR2 := hide (And.intro (hk2.c0 hc2) (And.intro (hv2.c0 hc2) (hn2.c0 hc2)))
  have HAR := hide harm
  clear hk1 hv1 hn1 hk2 hv2 hn2 hc3 hc4 hb3 harm
  go_enter Tryz.func3, Tryz.ntmps3
  go_upto_region 1 with fail
  clear hn3
  have hF2 : ∀ b, F b → b < N := fun b hb => by rw [hN]; exact hF b hb
  rw [← hN] at hb32 hb4 hn4 ⊢
  have HN := hide hN
  clear hN hF
  generalize World.alloc (World.alloc w _) _ = w2 at hb32 hb4 hn4 hc2 HR1 HR2 ⊢
  have HB := hide (And.intro hb32 hb4)
  have HC2 := hide hc2
  have HN2 := hide hn4
  have HF2 := hide hF2
  clear hb32 hb4 hc2 hn4 hF2
  have hck1 := refCheckN (lf := lf1) HR1.out.1 HR1.out.2.1 HR1.out.2.2
  have x0 : w2.cell? ⟨N, 0, none⟩ = some (.bool lf1) := HB.out.1.cell 0
  have x1 : w2.cell? ⟨N, 1, none⟩ = some (.slice K1 kn1 kc1) := HB.out.1.cell 1
  have x2 : w2.cell? ⟨N, 2, none⟩ = some (.slice V1 vn1 vc1) := HB.out.1.cell 2
  have x3 : w2.cell? ⟨N, 3, none⟩ = some (.slice N1 nn1 nc1) := HB.out.1.cell 3
  go_wp2_with fail
  refine hck1.mono ?_
  rintro e w3 ⟨c1, rfl, hch1, hc3⟩
  clear hck1 x0 x1 x2 x3
  have HC3 := hide hc3
  have HB3 := hide (And.intro (HB.out.1.c0 hc3) (HB.out.2.c0 hc3))
  clear hc3
  have y0 : w3.cell? ⟨N + 1, 0, none⟩ = some (.bool lf2) := HB3.out.2.cell 0
  have y1 : w3.cell? ⟨N + 1, 1, none⟩ = some (.slice K2 kn2 kc2) := HB3.out.2.cell 1
  have y2 : w3.cell? ⟨N + 1, 2, none⟩ = some (.slice V2 vn2 vc2) := HB3.out.2.cell 2
  have y3 : w3.cell? ⟨N + 1, 3, none⟩ = some (.slice N2 nn2 nc2) := HB3.out.2.cell 3
  by_cases h1 : c1 = 0
  · have HCH1 := hide (hch1 h1)
    clear hch1
    subst h1
    have hck2 := refCheckN (lf := lf2) (HR2.out.1.c0 HC3.out) (HR2.out.2.1.c0 HC3.out) (HR2.out.2.2.c0 HC3.out)
    go_wp2_with fail
    refine hck2.mono ?_
    rintro e w4 ⟨c2, rfl, hch2, hc4⟩
    clear hck2 y0 y1 y2 y3
    have HC4 := hide hc4
    have HB4 := hide (And.intro (HB3.out.1.c0 hc4) (HB3.out.2.c0 hc4))
    have x0 : w4.cell? ⟨N, 0, none⟩ = some (.bool lf1) := HB4.out.1.cell 0
    have x1 : w4.cell? ⟨N, 1, none⟩ = some (.slice K1 kn1 kc1) := HB4.out.1.cell 1
    have x2 : w4.cell? ⟨N, 2, none⟩ = some (.slice V1 vn1 vc1) := HB4.out.1.cell 2
    have x3 : w4.cell? ⟨N, 3, none⟩ = some (.slice N1 nn1 nc1) := HB4.out.1.cell 3
    have y0 : w4.cell? ⟨N + 1, 0, none⟩ = some (.bool lf2) := HB4.out.2.cell 0
    have y1 : w4.cell? ⟨N + 1, 1, none⟩ = some (.slice K2 kn2 kc2) := HB4.out.2.cell 1
    have y2 : w4.cell? ⟨N + 1, 2, none⟩ = some (.slice V2 vn2 vc2) := HB4.out.2.cell 2
    have y3 : w4.cell? ⟨N + 1, 3, none⟩ = some (.slice N2 nn2 nc2) := HB4.out.2.cell 3
    clear hc4
    by_cases h2 : c2 = 0
    rotate_left
    · have hd1 : decide (c2 = 0) = false := decide_eq_false h2
      clear hch2
      go_wp2_with fail
      go_ret
      exact ⟨rfl, (HC2.out.trans0 HC3.out).trans0 HC4.out⟩
    have HCH2 := hide (hch2 h2)
    clear hch2
    subst h2
    cases lf1 with
    | false =>
      go_wp2_with fail
      go_ret
      exact ⟨rfl, (HC2.out.trans0 HC3.out).trans0 HC4.out⟩
    | true =>
    cases lf2 with
    | false =>
      go_wp2_with fail
      go_ret
      exact ⟨rfl, (HC2.out.trans0 HC3.out).trans0 HC4.out⟩
    | true =>
    by_cases hl1 : 120 < kn1
    · have hd1 : decide ((120 : Int) < (kn1 : Int)) = true := decide_eq_true (by omega)
      go_wp2_with fail
      go_ret
      exact ⟨rfl, (HC2.out.trans0 HC3.out).trans0 HC4.out⟩
    have hd1 : decide ((120 : Int) < (kn1 : Int)) = false := decide_eq_false (by omega)
    by_cases hl2 : 120 < kn2
    · have hd2 : decide ((120 : Int) < (kn2 : Int)) = true := decide_eq_true (by omega)
      go_wp2_with fail
      go_ret
      exact ⟨rfl, (HC2.out.trans0 HC3.out).trans0 HC4.out⟩
    have hd2 : decide ((120 : Int) < (kn2 : Int)) = false := decide_eq_false (by omega)
    have hkn1 : kn1 = ks1.length := by
      obtain ⟨_, _, e, _⟩ := HR1.out.1.shape
      injection e
    have hkn2 : kn2 = ks2.length := by
      obtain ⟨_, _, e, _⟩ := HR2.out.1.shape
      injection e
    obtain ⟨l1, hg1, ek1, ev1, en1⟩ : ∃ l, GoodKV l ∧ ksL l = ks1 ∧ vsL l = vs1 ∧ l.length = ks1.length := ⟨_, (HCH1.out rfl).kv⟩
    obtain ⟨l2, hg2, ek2, ev2, en2⟩ : ∃ l, GoodKV l ∧ ksL l = ks2 ∧ vsL l = vs2 ∧ l.length = ks2.length := ⟨_, (HCH2.out rfl).kv⟩
    have HL1 := hide (show GoodKV l1 ∧ l1.length ≤ 120 from ⟨hg1, by omega⟩)
    have HL2 := hide (show GoodKV l2 ∧ l2.length ≤ 120 from ⟨hg2, by omega⟩)
    have HKV1 := hide (show RdBB w4 F (.slice K1 kn1 kc1) (ksL l1) ∧ RdBB w4 F (.slice V1 vn1 vc1) (vsL l1) from ⟨by rw [ek1]; exact (HR1.out.1.c0 HC3.out).c0 HC4.out, by rw [ev1]; exact (HR1.out.2.1.c0 HC3.out).c0 HC4.out⟩)
    have HKV2 := hide (show RdBB w4 F (.slice K2 kn2 kc2) (ksL l2) ∧ RdBB w4 F (.slice V2 vn2 vc2) (vsL l2) from ⟨by rw [ek2]; exact (HR2.out.1.c0 HC3.out).c0 HC4.out, by rw [ev2]; exact (HR2.out.2.1.c0 HC3.out).c0 HC4.out⟩)
    have HZ := hide (show nn1 = 0 ∧ nn2 = 0 from by
      obtain ⟨_, _, e1, _⟩ := RdV.shape HR1.out.2.2
      obtain ⟨_, _, e2, _⟩ := RdV.shape HR2.out.2.2
      injection e1 with _ e1
      injection e2 with _ e2
      exact ⟨by rw [e1]; exact (HCH1.out rfl).z, by rw [e2]; exact (HCH2.out rfl).z⟩)
    have s4 : N + 2 ≤ w4.heap.size := by
      have := HN2.out
      have := HC3.out.size
      have := HC4.out.size
      omega
    have HC := hide ((HC2.out.trans0 HC3.out).trans0 HC4.out)
    clear hg1 hg2 ek1 ek2 ev1 ev2 en1 en2 hkn1 hkn2 HR1 HR2 HCH1 HCH2 HB HB3 HC2 HC3 HC4 HN2
    have hnew := dgNew w4 (supP ⟨#[112, 47]⟩)
    go_wp2_with fail
    refine hnew.mono ?_
    rintro e w5 ⟨gd, rfl, hgd, hdrv, hc5⟩
    have hop := plOpen (hand := 3) (tab := []) hdrv rfl (by decide) (by omega) (by omega) ⟨List.Pairwise.nil, fun p hp => by simp at hp, fun p hp => by simp at hp, fun p hp => by simp at hp, by simp, fun p hp => by simp at hp⟩ (.inl ⟨rfl, rfl⟩) (by simp [noF])
    have HDB := hide (show ∀ b, Ext Non w4 w5 b → N + 2 ≤ b from fun b hb => by
      rcases hb with h | h
      · exact h.elim
      · omega)
    have n5 := hc5.size
    have HC5 := hide hc5
    clear hnew hdrv hgd hc5 x0 x1 x2 x3 y0 y1 y2 y3 hl1 hl2 hd1 hd2
    go_wp2_with fail
    refine hop.mono ?_
    rintro e w6 ⟨g, nv, TP, bs, bf, ba, sf, rfl, hP, hsf, hTP, hc6⟩
    clear hop
    have HC46 := hide ((HC5.out.trans0 hc6).mono (S' := fun b => N + 2 ≤ b) fun _ _ h => h.elim)
    have HB6 := hide (And.intro (HB4.out.1.chg HC46.out (by omega)) (HB4.out.2.chg HC46.out (by omega)))
    have hF4 : ∀ b, F b → ¬ N + 2 ≤ b := fun b hb => by have := HF2.out b hb; omega
    have hfb : ∀ b, F b → b < w6.heap.size ∧ ¬ (Ext Non w4 w5 b ∨ TP b) := fun b hb => by
      have h1 := HF2.out b hb
      have h2 := HC46.out.size
      have h3 := hTP b
      have h4 := HDB.out b
      refine ⟨by omega, fun e => ?_⟩
      rcases e with e | e
      · have := h4 e; omega
      · have := h3 e; omega
    have hlaid := laidW (NA := N1) (nn := nn1) (nc := nc1) (sv := none) hP ⟨PG.new_ hsf, by simp, by simp, fun e => e⟩ rfl (by omega) (by omega) (by simp) (HKV1.out.1.chg HC46.out hF4) (HKV1.out.2.chg HC46.out hF4) HL1.out.1 HL1.out.2 hfb
    have x0 : w6.cell? ⟨N, 0, none⟩ = some (.bool true) := HB6.out.1.cell 0
    have x1 : w6.cell? ⟨N, 1, none⟩ = some (.slice K1 kn1 kc1) := HB6.out.1.cell 1
    have x2 : w6.cell? ⟨N, 2, none⟩ = some (.slice V1 vn1 vc1) := HB6.out.1.cell 2
    have x3 : w6.cell? ⟨N, 3, none⟩ = some (.slice N1 nn1 nc1) := HB6.out.1.cell 3
    have n6 := hc6.size
    have HTP := hide (show ∀ b, TP b → N + 2 ≤ b from fun b hb => by have := hTP b hb; omega)
    clear hP hsf hTP hc6 hF4 hfb
    go_wp2_with fail
    refine hlaid.mono ?_
    rintro e w7 ⟨hc7, ⟨_, hno, _⟩ | ⟨rfl, S1, sl1, at1, TD1, TP1, G1, cl1, a3, PL1, hP1, hU1, ⟨hL1, hne1⟩, e1, e2⟩⟩
    · exact absurd rfl hno
    have hsave := plSave hP1 hU1.g (by have := hU1.le; omega) (by have := hU1.q; simp at this; omega) (.inr rfl)
    have HU1 := hide hU1
    have HLP1 := hide (And.intro hL1 hne1)
    have n7 := hc7.size
    have HT1 := hide (show ∀ b, TD1 b ∨ TP1 b → N + 2 ≤ b from fun b hb => by
      rcases hb with hb | hb
      · rcases e1 b hb with h | h
        · exact HDB.out b h
        · omega
      · rcases e2 b hb with h | h
        · exact HTP.out b h
        · omega)
    have HC47 := hide (HC46.out.trans hc7 fun b hb e => by
      rcases e with e | e
      · exact HDB.out b e
      · exact HTP.out b e)
    clear hlaid hP1 hU1 hL1 hne1 hc7 e1 e2 x0 x1 x2 x3
    go_wp2_with fail
    refine hsave.mono ?_
    rintro e w8 ⟨hc8, ⟨_, hno, _⟩ | ⟨rfl, S2, sl2, sf2, at2, TD2, TP2, G2, bf2, hP2, ht2, hk2, ⟨ct, hct, hG2, hcn2⟩, har2, hq2, hat2, e1, e2⟩⟩
    · exact absurd (HU1.out.arm rfl) hno
    have HC48 := hide (HC47.out.trans hc8 fun b hb e => HT1.out b e)
    have n8 := hc8.size
    have HT2 := hide (show ∀ b, TD2 b ∨ TP2 b → N + 2 ≤ b from fun b hb => by
      rcases hb with hb | hb
      · rcases e1 b hb with h | h
        · exact HT1.out b (.inl h)
        · omega
      · rcases e2 b hb with h | h
        · exact HT1.out b (.inr h)
        · omega)
    have HK1 := hide (show ∀ f, Last ⟨#[112, 47]⟩ sl2 (some (metaB sl2, ct)) f → Kept ⟨#[112, 47]⟩ l1 f from fun f hf => Kept.of HLP1.out.1 HLP1.out.2 ht2 hk2 (fun p _ => hct p.1) (hf _ rfl))
    have HG2 := hide hG2
    have hkeys : sl2.map (·.1) = List.range PL1.length := hk2.trans HLP1.out.1.keys
    have hm : PL1.length ≤ 121 := by have := HLP1.out.1.n; have := HL1.out.2; omega
    have HA2 := hide (show S2.arm = none ∧ S2.queue = [] ∧ at2.length ≤ 3 from ⟨har2 (HU1.out.arm rfl), hq2, by rw [hat2]; exact HU1.out.le⟩)
    have hids := plIds hP2 hG2.inv.rs hG2.inv.nS
    have HP2 := hide hP2
    have HKE := hide hkeys
    clear hsave hc8 hP2 ht2 hk2 hct hG2 hcn2 har2 hq2 hat2 e1 e2 hkeys HLP1 HU1 HT1 HC46 HC47 HTP HDB HC5 HB6 n5 n6 n7
    go_wp2_with fail
    refine hids.mono ?_
    rintro e w9 ⟨v, rfl, hv, hc9⟩
    have hle' : (sl2.map fun p => (p.1 : Int)) = (List.range PL1.length).map fun k : Nat => (k : Int) := by
      rw [← HKE.out, List.map_map]; rfl
    rw [hle'] at hv
    obtain ⟨IA, ic, rfl, hic, hicm⟩ := hv.shape
    rw [List.length_map, List.length_range] at hv hic ⊢
    obtain ⟨m, hmm⟩ : ∃ m, m = PL1.length := ⟨_, rfl⟩
    rw [← hmm] at hv hic hm ⊢
    have HKM := hide (show sl2.map (·.1) = List.range m from by rw [hmm]; exact HKE.out)
    have HV := hide hv
    have HP9 := hide (HP2.out.c0 hc9)
    have HC49 := hide (HC48.out.trans0 hc9)
    have n9 := hc9.size
    have n49 := HC49.out.size
    have HLT := hide (show gd < w8.heap.size ∧ bs < w8.heap.size ∧ ba < w8.heap.size from ⟨HP2.out.drv.lt HP2.out.drv.tg, HP2.out.lt _ HP2.out.tg.2.1, HP2.out.lt _ HP2.out.tg.2.2.2⟩)
    clear hmm hle' hv hids hc9 HP2 HC48 HKE
    by_cases ha : 0 ≤ arm
    · have hda : decide (0 ≤ arm) = true := decide_eq_true ha
      obtain ⟨t, ht⟩ : ∃ t : Nat, Int.tmod arm 30 = (t : Int) := ⟨(Int.tmod arm 30).toNat, (Int.toNat_of_nonneg (Int.tmod_nonneg _ ha)).symm⟩
      have ht9 : t < 30 := by
        have := Int.tmod_lt_of_pos arm (show (0 : Int) < 30 by omega)
        omega
      have hw9 : IntKind.i64.wrap (t : Int) = (t : Int) := IntWalk.i64_in _ (by omega)
      have harm := dgArm HP9.out.drv t (by omega)
      go_wp2_with fail
      refine harm.mono ?_
      rintro e wx ⟨rfl, hdx, hcx⟩
      obtain ⟨TDx, TPx, Sx, hPx, hGx, hqx, hTx⟩ : ∃ TDx TPx Sx, PoolM wx TDx TPx G2 gd g ⟨#[112, 47]⟩ 3 Sx sl2 sf2 at2 bs bf2 ba cl1 0 0 a3 ∧ PG ⟨#[112, 47]⟩ Sx sl2 sf2 at2 sl2 (some (metaB sl2, ct)) ∧ Sx.queue = [] ∧ ∀ b, TDx b ∨ TPx b → N + 2 ≤ b :=
        ⟨Ext TD2 w9 wx, TP2, _, HP9.out.drive (hdx.up (fun b hb => .inl hb) (Ext.lt HP9.out.drv.lt' hcx.size)) (hcx.mono fun b _ e => by have e : b = gd := e; rw [e]; exact HP9.out.drv.tg), HG2.out.armed _, HA2.out.2.1, fun b hb => by
          rcases hb with (h | h) | h
          · exact HT2.out b (.inl h)
          · omega
          · exact HT2.out b (.inr h)⟩
      have HCx := hide (HC49.out.trans hcx fun b hb e => by have e : b = gd := e; rw [e]; exact HT2.out gd (.inl HP9.out.drv.tg))
      have hv := HV.out.chg hcx (fun b hb e => by have e : b = gd := e; have := (HV.out.lt b hb).1; have := HLT.out.1; omega)
      have HVx := hide hv
      have nx := hcx.size
      clear hda ht ht9 hw9 harm hdx hcx hv
      have HGX := hide (And.intro hGx (And.intro hqx hTx))
      have HPX := hide hPx
      clear hPx hGx hqx hTx HG2 HT2
      go_wp2_with fail
      go_loopw [12, 79] (fun dv iv wr => ∃ (k : Nat) (sl3 : Slots) (at3 : Ats), dv = .bool true ∧ iv = .int .i64 (k : Int) ∧ k ≤ m ∧ PoolM wr TDx TPx G2 gd g ⟨#[112, 47]⟩ 3 Sx sl3 sf2 at3 bs bf2 ba cl1 0 0 a3 ∧ Hid (PG ⟨#[112, 47]⟩ Sx sl3 sf2 at3 sl2 (some (metaB sl2, ct)) ∧ sl3.map (·.1) = (List.range m).drop k) ∧ Chg (fun k => k = bs ∨ k = ba) wx wr) (fun _ iv _ => m - (intOf iv).toNat)
      case atStart => exact ⟨0, sl2, at2, rfl, rfl, Nat.zero_le _, HPX.out, hide ⟨HGX.out.1, HKM.out⟩, Chg.refl _ _⟩
      case round =>
        obtain ⟨k, sl3, at3, rfl, rfl, hkm, hP3, hG3, hcw⟩ := hrel
        have nr := hcw.size
        have HKM3 := hide hkm
        clear hkm
        by_cases hkl : k < m
        · have hd : (List.range m).drop k = k :: (List.range m).drop (k + 1) := by
            rw [List.drop_eq_getElem_cons (by rw [List.length_range]; exact hkl), List.getElem_range]
          have hin : ∃ p ∈ sl3, p.1 = k := by
            have h9 : k ∈ sl3.map (·.1) := by rw [hG3.out.2, hd]; simp
            obtain ⟨p, hp, e⟩ := List.mem_map.1 h9
            exact ⟨p, hp, e⟩
          have hfr := plFree hP3 (i := k) (by omega) hin hG3.out.1.inv.rs
          have hiv := HVx.out.chg hcw (fun b hb e => by
            have h1 := (HVx.out.lt b hb).1
            have h2 := HLT.out
            rcases e with e | e <;> omega)
          obtain ⟨gi, ci, ei, hgi, hcell⟩ := hiv.at_ (k := k) (by rw [List.length_map, List.length_range]; exact hkl)
          rw [List.getElem_map, List.getElem_range] at hcell
          rw [List.length_map, List.length_range] at ei
          injection ei with ei1 _ ei2
          subst ei1
          subst ei2
          have HKL := hide hkl
          have HCW := hide hcw
          have hkl2 : (k : Int) < (m : Int) := by omega
          clear hd hin hiv hcw hP3
          go_wp2_with fail
          refine hfr.mono ?_
          rintro e wf ⟨rfl, hPf, hcf⟩
          have HPF := hide hPf
          have HCF := hide (HCW.out.trans hcf fun _ _ h => h)
          have HGF := hide (And.intro (hG3.out.1.free_ k) (range_del hG3.out.1.inv.rs hG3.out.2 HKL.out))
          clear hfr hcell hPf hcf
          go_wp2_with fail
          go_roundw
          case rel => exact ⟨k + 1, _, _, rfl, by go_num, HKL.out, HPF.out, HGF, HCF.out⟩
          case measure => (have := HKL.out; simp [intOf]; omega)
        · have hkk : k = m := by have := HKM3.out; omega
          subst hkk
          have h3 : sl3 = [] := by
            have := hG3.out.2
            rw [List.drop_of_length_le (by rw [List.length_range]; exact Nat.le_refl _)] at this
            exact List.map_eq_nil_iff.1 this
          subst h3
          have h4 : at3 = [] := List.eq_nil_iff_forall_not_mem.2 fun p hp => by
            obtain ⟨s, hs⟩ := hG3.out.1.inv.sub p hp
            simp at hs
          subst h4
          have HC4r := hide (HCx.out.trans hcw fun b hb e => by
            rcases e with e | e
            · rw [e]; exact HGX.out.2.2 bs (.inr HPX.out.tg.2.1)
            · rw [e]; exact HGX.out.2.2 ba (.inr HPX.out.tg.2.2.2))
          have HBr := hide (And.intro (HB4.out.1.chg HC4r.out (by omega)) (HB4.out.2.chg HC4r.out (by omega)))
          have hF4 : ∀ b, F b → ¬ N + 2 ≤ b := fun b hb => by have := HF2.out b hb; omega
          have hfb : ∀ b, F b → b < wr.heap.size ∧ ¬ (TDx b ∨ TPx b) := fun b hb => by
            have h1 := HF2.out b hb
            have h2 := HC4r.out.size
            exact ⟨by omega, fun e => by have := HGX.out.2.2 b e; omega⟩
          have hlaid := laidW (NA := N2) (nn := nn2) (nc := nc2) hP3 ⟨hG3.out.1, by simp, Nat.le_refl _, fun e => e⟩ rfl (by omega) (by omega) (by rw [HGX.out.2.1]; simp) (HKV2.out.1.chg HC4r.out hF4) (HKV2.out.2.chg HC4r.out hF4) HL2.out.1 HL2.out.2 hfb
          have y0 : wr.cell? ⟨N + 1, 0, none⟩ = some (.bool true) := HBr.out.2.cell 0
          have y1 : wr.cell? ⟨N + 1, 1, none⟩ = some (.slice K2 kn2 kc2) := HBr.out.2.cell 1
          have y2 : wr.cell? ⟨N + 1, 2, none⟩ = some (.slice V2 vn2 vc2) := HBr.out.2.cell 2
          have y3 : wr.cell? ⟨N + 1, 3, none⟩ = some (.slice N2 nn2 nc2) := HBr.out.2.cell 3
          have hgt : ¬ k < k := Nat.lt_irrefl _
          have HTx := hide HGX.out.2.2
          have HQX := hide HGX.out.2.1
          have n4r := HC4r.out.size
          clear hcw hP3 hF4 hfb HGX HPX HCx HVx HKM HKM3
          go_wp2_with fail
          refine hlaid.mono ?_
          rintro e wl ⟨hcl, ⟨rfl, _, Sy, hdy, hpd⟩ | ⟨rfl, S1, sl1, at1, TD1, TP1, G1, cl9, a9, PL2, hP1, hU1, ⟨hL1, hne1⟩, e1, e2⟩⟩
          · have HCy := hide (HC4r.out.trans hcl fun b hb e => HTx.out b e)
            have HTy := hide (show ∀ b, Ext TDx wr wl b → N + 2 ≤ b from fun b hb => by
              rcases hb with h | h
              · exact HTx.out b (.inl h)
              · omega)
            have HE := hide (show Ends ⟨#[112, 47]⟩ Sy (fun f => ∃ l, (l = l1 ∨ l = l2) ∧ Kept ⟨#[112, 47]⟩ l f) from hpd.ends fun f hf => ⟨l1, .inl rfl, HK1.out f hf⟩)
            have hdd := dgDead hdy
            rw [hpd.dead] at hdd
            have HDY := hide hdy
            have ny := hcl.size
            clear hlaid hcl hpd hdy y0 y1 y2 y3 hgt
            go_wp2_with fail
            refine hdd.mono ?_
            rintro e wy ⟨rfl, hwy⟩
            subst hwy
            clear hdd
            have hcr := dgCrash (keep := arm) HDY.out (by simp [supP]) HE.out.bs HE.out.dq HE.out.un
            go_wp2_with fail
            refine hcr.mono ?_
            rintro e wa ⟨rfl, kk, hdr, hca⟩
            obtain ⟨f, hf⟩ : ∃ f, f = crashF Sy.safe Sy.queue kk := ⟨_, rfl⟩
            rw [← hf] at hdr
            have hbf : BndF f := by rw [hf]; exact HE.out.bnd kk
            obtain ⟨l, hl, hK⟩ : ∃ l, (l = l1 ∨ l = l2) ∧ Kept ⟨#[112, 47]⟩ l f := by rw [hf]; exact HE.out.rk kk
            obtain ⟨tab, PL, ht, hme, hfit, hbig, hkeys, hflat, hsz, hnn, hcont, hPG⟩ := hK.pg hbf
            have hop2 := plOpen (hand := 2) (tab := tab) hdr rfl (by decide) (by omega) (by omega) ht (.inr ⟨hme, hfit⟩) hbig
            have HCa := hide (HCy.out.trans hca fun b hb e => by have e : b = gd := e; rw [e]; exact HTy.out gd HDY.out.tg)
            have HTa := hide (show ∀ b, Ext (Ext TDx wr wy) wy wa b → N + 2 ≤ b from fun b hb => by
              rcases hb with h | h
              · exact HTy.out b h
              · have := HCy.out.size; omega)
            have HPG := hide (And.intro hPG (And.intro hkeys (And.intro hcont (And.intro hsz (And.intro hnn hflat)))))
            clear hcr hdr hca hf hbf ht hme hfit hbig hkeys hflat hsz hnn hcont hPG hK HE HDY
            go_wp2_with fail
            refine hop2.mono ?_
            rintro e wb ⟨g2, nv2, TP3, bs3, bf3, ba3, sf3, rfl, hP5, hsf3, hTP3, hcb⟩
            have hlg : GoodKV l ∧ l.length ≤ 120 := by
              rcases hl with rfl | rfl
              · exact HL1.out
              · exact HL2.out
            have hj := joinedW hP5 (HPG.out.1 sf3 hsf3) (by omega) (by simp) (by omega) (by simp) rfl HPG.out.2.1 HPG.out.2.2.1 (fun x hx => ⟨HPG.out.2.2.2.1 x hx, GoodKV.of_flat (by rw [HPG.out.2.2.2.2.2]; exact hlg.1) x hx⟩) (by have := HPG.out.2.2.2.2.1; have := hlg.2; omega) (by rw [HPG.out.2.2.2.2.2]; exact hlg.2)
            rw [HPG.out.2.2.2.2.2] at hj
            have HCb := hide (HCa.out.trans0 hcb)
            have HTb := hide (show ∀ b, Ext (Ext TDx wr wy) wy wa b ∨ TP3 b → N + 2 ≤ b from fun b hb => by
              rcases hb with h | h
              · exact HTa.out b h
              · have := hTP3 b h; have := HCa.out.size; omega)
            clear hop2 hP5 hsf3 hTP3 hcb HPG hlg
            go_wp2_with fail
            refine hj.mono ?_
            rintro e wc ⟨kA, kn, kc, vA, vn, vc, rfl, hrk, hrv, hcc⟩
            have HCc := hide (HCb.out.trans hcc fun b hb e => HTb.out b e)
            have hbx := Blk.new wc 25 #[.bool true, .slice kA kn kc, .slice vA vn vc, .slice none 0 0]
            have hcx := (Chg.refl Non wc).alloc (.cells #[.bool true, .slice kA kn kc, .slice vA vn vc, .slice none 0 0] 25)
            have hrk5 := hrk.c0 hcx
            have hrv5 := hrv.c0 hcx
            clear hj hrk hrv hcc
            go_upto_region 24 with fail
            obtain ⟨bx, hbxe⟩ : ∃ b, b = wc.heap.size := ⟨_, rfl⟩
            rw [← hbxe] at hbx ⊢
            have HCd := hide (HCc.out.trans0 hcx)
            clear hbxe
            generalize World.alloc wc _ = wd at hbx hrk5 hrv5 HCd ⊢
            have x0 : wd.cell? ⟨bx, 0, none⟩ = some (.bool true) := hbx.cell 0
            have x1 : wd.cell? ⟨bx, 1, none⟩ = some (.slice kA kn kc) := hbx.cell 1
            have x2 : wd.cell? ⟨bx, 2, none⟩ = some (.slice vA vn vc) := hbx.cell 2
            have x3 : wd.cell? ⟨bx, 3, none⟩ = some (.slice none 0 0) := hbx.cell 3
            have HBd := hide (And.intro (HB4.out.1.chg HCd.out (by omega)) (HB4.out.2.chg HCd.out (by omega)))
            have HBX := hide hbx
            have hF4 : ∀ b, F b → ¬ N + 2 ≤ b := fun b hb => by have := HF2.out b hb; omega
            have HRX := hide (And.intro hrk5 hrv5)
            clear hcx hbx hrk5 hrv5
            have z0 : wd.cell? ⟨N, 0, none⟩ = some (.bool true) := HBd.out.1.cell 0
            have z1 : wd.cell? ⟨N, 1, none⟩ = some (.slice K1 kn1 kc1) := HBd.out.1.cell 1
            have z2 : wd.cell? ⟨N, 2, none⟩ = some (.slice V1 vn1 vc1) := HBd.out.1.cell 2
            have z3 : wd.cell? ⟨N, 3, none⟩ = some (.slice N1 nn1 nc1) := HBd.out.1.cell 3
            have y0 : wd.cell? ⟨N + 1, 0, none⟩ = some (.bool true) := HBd.out.2.cell 0
            have y1 : wd.cell? ⟨N + 1, 1, none⟩ = some (.slice K2 kn2 kc2) := HBd.out.2.cell 1
            have y2 : wd.cell? ⟨N + 1, 2, none⟩ = some (.slice V2 vn2 vc2) := HBd.out.2.cell 2
            have y3 : wd.cell? ⟨N + 1, 3, none⟩ = some (.slice N2 nn2 nc2) := HBd.out.2.cell 3
            obtain ⟨hz1, hz2⟩ := HZ.out
            subst hz1
            subst hz2
            have hs := refSameL (nc1 := 0) (N1 := none) (N2 := N1) (nc2 := nc1) HRX.out.1 HRX.out.2 (HKV1.out.1.chg HCd.out hF4) (HKV1.out.2.chg HCd.out hF4)
            have hl9 : (decide (ksL l = ksL l1) && decide (vsL l = vsL l1)) = true ∨ l = l2 := by
              rcases hl with rfl | rfl
              · exact .inl (by simp)
              · exact .inr rfl
            generalize (decide (ksL l = ksL l1) && decide (vsL l = vsL l1)) = rr at hs hl9
            go_wp2_with fail
            refine hs.mono ?_
            rintro e we ⟨rfl, hce⟩
            clear hs
            cases rr with
            | true =>
              clear x0 x1 x2 x3 y0 y1 y2 y3 z0 z1 z2 z3
              go_wp2_with fail
              go_ret
              exact ⟨rfl, HC.out.trans (HCd.out.trans0 hce) fun b hb e => by have := HN.out; have e : N + 2 ≤ b := e; omega⟩
            | false =>
              have hl8 : l = l2 := hl9.elim (fun e => by cases e) fun e => e
              subst hl8
              clear hl9
              have hs := refSameL (nc1 := 0) (N1 := none) (N2 := N2) (nc2 := nc2) (HRX.out.1.c0 hce) (HRX.out.2.c0 hce) ((HKV2.out.1.chg HCd.out hF4).c0 hce) ((HKV2.out.2.chg HCd.out hF4).c0 hce)
              rw [decide_eq_true (rfl : ksL l = ksL l), decide_eq_true (rfl : vsL l = vsL l)] at hs
              have HBe := hide (And.intro (HBX.out.c0 hce) (HBd.out.2.c0 hce))
              clear x0 x1 x2 x3 y0 y1 y2 y3 z0 z1 z2 z3
              have x0 : we.cell? ⟨bx, 0, none⟩ = some (.bool true) := HBe.out.1.cell 0
              have x1 : we.cell? ⟨bx, 1, none⟩ = some (.slice kA kn kc) := HBe.out.1.cell 1
              have x2 : we.cell? ⟨bx, 2, none⟩ = some (.slice vA vn vc) := HBe.out.1.cell 2
              have x3 : we.cell? ⟨bx, 3, none⟩ = some (.slice none 0 0) := HBe.out.1.cell 3
              have y0 : we.cell? ⟨N + 1, 0, none⟩ = some (.bool true) := HBe.out.2.cell 0
              have y1 : we.cell? ⟨N + 1, 1, none⟩ = some (.slice K2 kn2 kc2) := HBe.out.2.cell 1
              have y2 : we.cell? ⟨N + 1, 2, none⟩ = some (.slice V2 vn2 vc2) := HBe.out.2.cell 2
              have y3 : we.cell? ⟨N + 1, 3, none⟩ = some (.slice N2 0 nc2) := HBe.out.2.cell 3
              have HCe := hide hce
              clear hce
              go_wp2_with fail
              refine hs.mono ?_
              rintro e we2 ⟨rfl, hce2⟩
              go_wp2_with fail
              go_ret
              exact ⟨rfl, HC.out.trans ((HCd.out.trans0 HCe.out).trans0 hce2) fun b hb e => by have := HN.out; have e : N + 2 ≤ b := e; omega⟩
          have hTl : ∀ b, TD1 b ∨ TP1 b → N + 2 ≤ b := fun b hb => by
            rcases hb with hb | hb
            · rcases e1 b hb with h | h
              · exact HTx.out b (.inl h)
              · omega
            · rcases e2 b hb with h | h
              · exact HTx.out b (.inr h)
              · omega
          have hsave := plSave hP1 hU1.g (by have := hU1.le; omega) (by have := hU1.q; rw [HQX.out] at this; simp at this; omega) (.inl (by simp))
          have HC4l := hide (HC4r.out.trans hcl fun b hb e => HTx.out b e)
          have HTl := hide hTl
          have HLP := hide (And.intro hL1 hne1)
          have nl := hcl.size
          clear hlaid hcl hP1 hU1 hL1 hne1 e1 e2 hTl y0 y1 y2 y3 hgt HBr
          go_wp2_with fail
          refine hsave.mono ?_
          rintro e ws ⟨hcs, ⟨rfl, _, Sy, sl', hdy, hty, hky, ⟨ct', hct', hpd⟩⟩ | ⟨rfl, Sy, sl', sf', at', TD', TP', G', bf', hPy, hty, hky, ⟨ct', hct', hGy, _⟩, _, hqy, _, e1, e2⟩⟩
          · have HCy := hide (HC4l.out.trans hcs fun b hb e => HTl.out b e)
            have HTy := hide (show ∀ b, Ext TD1 wl ws b → N + 2 ≤ b from fun b hb => by
              rcases hb with h | h
              · exact HTl.out b (.inl h)
              · omega)
            have HE := hide (show Ends ⟨#[112, 47]⟩ Sy (fun f => ∃ l, (l = l1 ∨ l = l2) ∧ Kept ⟨#[112, 47]⟩ l f) from hpd.ends fun f hf => by
              rcases hf with hf | hf
              · exact ⟨l1, .inl rfl, HK1.out f hf⟩
              · exact ⟨l2, .inr rfl, Kept.of HLP.out.1 HLP.out.2 hty hky hct' hf⟩)
            have hdd := dgDead hdy
            rw [hpd.dead] at hdd
            have HDY := hide hdy
            have ny := hcs.size
            clear hsave hcs hpd hdy hty hky hct'
            go_wp2_with fail
            refine hdd.mono ?_
            rintro e wy ⟨rfl, hwy⟩
            subst hwy
            clear hdd
            have hcr := dgCrash (keep := arm) HDY.out (by simp [supP]) HE.out.bs HE.out.dq HE.out.un
            go_wp2_with fail
            refine hcr.mono ?_
            rintro e wa ⟨rfl, kk, hdr, hca⟩
            obtain ⟨f, hf⟩ : ∃ f, f = crashF Sy.safe Sy.queue kk := ⟨_, rfl⟩
            rw [← hf] at hdr
            have hbf : BndF f := by rw [hf]; exact HE.out.bnd kk
            obtain ⟨l, hl, hK⟩ : ∃ l, (l = l1 ∨ l = l2) ∧ Kept ⟨#[112, 47]⟩ l f := by rw [hf]; exact HE.out.rk kk
            obtain ⟨tab, PL, ht, hme, hfit, hbig, hkeys, hflat, hsz, hnn, hcont, hPG⟩ := hK.pg hbf
            have hop2 := plOpen (hand := 2) (tab := tab) hdr rfl (by decide) (by omega) (by omega) ht (.inr ⟨hme, hfit⟩) hbig
            have HCa := hide (HCy.out.trans hca fun b hb e => by have e : b = gd := e; rw [e]; exact HTy.out gd HDY.out.tg)
            have HTa := hide (show ∀ b, Ext (Ext TD1 wl wy) wy wa b → N + 2 ≤ b from fun b hb => by
              rcases hb with h | h
              · exact HTy.out b h
              · have := HCy.out.size; omega)
            have HPG := hide (And.intro hPG (And.intro hkeys (And.intro hcont (And.intro hsz (And.intro hnn hflat)))))
            clear hcr hdr hca hf hbf ht hme hfit hbig hkeys hflat hsz hnn hcont hPG hK HE HDY
            go_wp2_with fail
            refine hop2.mono ?_
            rintro e wb ⟨g2, nv2, TP3, bs3, bf3, ba3, sf3, rfl, hP5, hsf3, hTP3, hcb⟩
            have hlg : GoodKV l ∧ l.length ≤ 120 := by
              rcases hl with rfl | rfl
              · exact HL1.out
              · exact HL2.out
            have hj := joinedW hP5 (HPG.out.1 sf3 hsf3) (by omega) (by simp) (by omega) (by simp) rfl HPG.out.2.1 HPG.out.2.2.1 (fun x hx => ⟨HPG.out.2.2.2.1 x hx, GoodKV.of_flat (by rw [HPG.out.2.2.2.2.2]; exact hlg.1) x hx⟩) (by have := HPG.out.2.2.2.2.1; have := hlg.2; omega) (by rw [HPG.out.2.2.2.2.2]; exact hlg.2)
            rw [HPG.out.2.2.2.2.2] at hj
            have HCb := hide (HCa.out.trans0 hcb)
            have HTb := hide (show ∀ b, Ext (Ext TD1 wl wy) wy wa b ∨ TP3 b → N + 2 ≤ b from fun b hb => by
              rcases hb with h | h
              · exact HTa.out b h
              · have := hTP3 b h; have := HCa.out.size; omega)
            clear hop2 hP5 hsf3 hTP3 hcb HPG hlg
            go_wp2_with fail
            refine hj.mono ?_
            rintro e wc ⟨kA, kn, kc, vA, vn, vc, rfl, hrk, hrv, hcc⟩
            have HCc := hide (HCb.out.trans hcc fun b hb e => HTb.out b e)
            have hbx := Blk.new wc 25 #[.bool true, .slice kA kn kc, .slice vA vn vc, .slice none 0 0]
            have hcx := (Chg.refl Non wc).alloc (.cells #[.bool true, .slice kA kn kc, .slice vA vn vc, .slice none 0 0] 25)
            have hrk5 := hrk.c0 hcx
            have hrv5 := hrv.c0 hcx
            clear hj hrk hrv hcc
            go_upto_region 24 with fail
            obtain ⟨bx, hbxe⟩ : ∃ b, b = wc.heap.size := ⟨_, rfl⟩
            rw [← hbxe] at hbx ⊢
            have HCd := hide (HCc.out.trans0 hcx)
            clear hbxe
            generalize World.alloc wc _ = wd at hbx hrk5 hrv5 HCd ⊢
            have x0 : wd.cell? ⟨bx, 0, none⟩ = some (.bool true) := hbx.cell 0
            have x1 : wd.cell? ⟨bx, 1, none⟩ = some (.slice kA kn kc) := hbx.cell 1
            have x2 : wd.cell? ⟨bx, 2, none⟩ = some (.slice vA vn vc) := hbx.cell 2
            have x3 : wd.cell? ⟨bx, 3, none⟩ = some (.slice none 0 0) := hbx.cell 3
            have HBd := hide (And.intro (HB4.out.1.chg HCd.out (by omega)) (HB4.out.2.chg HCd.out (by omega)))
            have HBX := hide hbx
            have hF4 : ∀ b, F b → ¬ N + 2 ≤ b := fun b hb => by have := HF2.out b hb; omega
            have HRX := hide (And.intro hrk5 hrv5)
            clear hcx hbx hrk5 hrv5
            have z0 : wd.cell? ⟨N, 0, none⟩ = some (.bool true) := HBd.out.1.cell 0
            have z1 : wd.cell? ⟨N, 1, none⟩ = some (.slice K1 kn1 kc1) := HBd.out.1.cell 1
            have z2 : wd.cell? ⟨N, 2, none⟩ = some (.slice V1 vn1 vc1) := HBd.out.1.cell 2
            have z3 : wd.cell? ⟨N, 3, none⟩ = some (.slice N1 nn1 nc1) := HBd.out.1.cell 3
            have y0 : wd.cell? ⟨N + 1, 0, none⟩ = some (.bool true) := HBd.out.2.cell 0
            have y1 : wd.cell? ⟨N + 1, 1, none⟩ = some (.slice K2 kn2 kc2) := HBd.out.2.cell 1
            have y2 : wd.cell? ⟨N + 1, 2, none⟩ = some (.slice V2 vn2 vc2) := HBd.out.2.cell 2
            have y3 : wd.cell? ⟨N + 1, 3, none⟩ = some (.slice N2 nn2 nc2) := HBd.out.2.cell 3
            obtain ⟨hz1, hz2⟩ := HZ.out
            subst hz1
            subst hz2
            have hs := refSameL (nc1 := 0) (N1 := none) (N2 := N1) (nc2 := nc1) HRX.out.1 HRX.out.2 (HKV1.out.1.chg HCd.out hF4) (HKV1.out.2.chg HCd.out hF4)
            have hl9 : (decide (ksL l = ksL l1) && decide (vsL l = vsL l1)) = true ∨ l = l2 := by
              rcases hl with rfl | rfl
              · exact .inl (by simp)
              · exact .inr rfl
            generalize (decide (ksL l = ksL l1) && decide (vsL l = vsL l1)) = rr at hs hl9
            go_wp2_with fail
            refine hs.mono ?_
            rintro e we ⟨rfl, hce⟩
            clear hs
            cases rr with
            | true =>
              clear x0 x1 x2 x3 y0 y1 y2 y3 z0 z1 z2 z3
              go_wp2_with fail
              go_ret
              exact ⟨rfl, HC.out.trans (HCd.out.trans0 hce) fun b hb e => by have := HN.out; have e : N + 2 ≤ b := e; omega⟩
            | false =>
              have hl8 : l = l2 := hl9.elim (fun e => by cases e) fun e => e
              subst hl8
              clear hl9
              have hs := refSameL (nc1 := 0) (N1 := none) (N2 := N2) (nc2 := nc2) (HRX.out.1.c0 hce) (HRX.out.2.c0 hce) ((HKV2.out.1.chg HCd.out hF4).c0 hce) ((HKV2.out.2.chg HCd.out hF4).c0 hce)
              rw [decide_eq_true (rfl : ksL l = ksL l), decide_eq_true (rfl : vsL l = vsL l)] at hs
              have HBe := hide (And.intro (HBX.out.c0 hce) (HBd.out.2.c0 hce))
              clear x0 x1 x2 x3 y0 y1 y2 y3 z0 z1 z2 z3
              have x0 : we.cell? ⟨bx, 0, none⟩ = some (.bool true) := HBe.out.1.cell 0
              have x1 : we.cell? ⟨bx, 1, none⟩ = some (.slice kA kn kc) := HBe.out.1.cell 1
              have x2 : we.cell? ⟨bx, 2, none⟩ = some (.slice vA vn vc) := HBe.out.1.cell 2
              have x3 : we.cell? ⟨bx, 3, none⟩ = some (.slice none 0 0) := HBe.out.1.cell 3
              have y0 : we.cell? ⟨N + 1, 0, none⟩ = some (.bool true) := HBe.out.2.cell 0
              have y1 : we.cell? ⟨N + 1, 1, none⟩ = some (.slice K2 kn2 kc2) := HBe.out.2.cell 1
              have y2 : we.cell? ⟨N + 1, 2, none⟩ = some (.slice V2 vn2 vc2) := HBe.out.2.cell 2
              have y3 : we.cell? ⟨N + 1, 3, none⟩ = some (.slice N2 0 nc2) := HBe.out.2.cell 3
              have HCe := hide hce
              clear hce
              go_wp2_with fail
              refine hs.mono ?_
              rintro e we2 ⟨rfl, hce2⟩
              go_wp2_with fail
              go_ret
              exact ⟨rfl, HC.out.trans ((HCd.out.trans0 HCe.out).trans0 hce2) fun b hb e => by have := HN.out; have e : N + 2 ≤ b := e; omega⟩
          · have HCy := hide (HC4l.out.trans hcs fun b hb e => HTl.out b e)
            have HTy := hide (show ∀ b, TD' b → N + 2 ≤ b from fun b hb => by
              rcases e1 b hb with h | h
              · exact HTl.out b (.inl h)
              · omega)
            have HE := hide (show Ends ⟨#[112, 47]⟩ Sy (fun f => Kept ⟨#[112, 47]⟩ l2 f) from hGy.ends hqy (Kept.of HLP.out.1 HLP.out.2 hty hky (fun p _ => hct' p.1) (hGy.hold _ rfl)))
            have HDY := hide hPy.drv
            have ny := hcs.size
            obtain ⟨wy, hwy⟩ : ∃ w', w' = ws := ⟨_, rfl⟩
            subst hwy
            clear hsave hcs hPy hty hky hct' hGy hqy e1 e2
            go_wp2_with fail
            have hcr := dgCrash (keep := arm) HDY.out (by simp [supP]) HE.out.bs HE.out.dq HE.out.un
            go_wp2_with fail
            refine hcr.mono ?_
            rintro e wa ⟨rfl, kk, hdr, hca⟩
            obtain ⟨f, hf⟩ : ∃ f, f = crashF Sy.safe Sy.queue kk := ⟨_, rfl⟩
            rw [← hf] at hdr
            have hbf : BndF f := by rw [hf]; exact HE.out.bnd kk
            obtain ⟨l, hl, hK⟩ : ∃ l, l = l2 ∧ Kept ⟨#[112, 47]⟩ l f := ⟨l2, rfl, by rw [hf]; exact HE.out.rk kk⟩
            obtain ⟨tab, PL, ht, hme, hfit, hbig, hkeys, hflat, hsz, hnn, hcont, hPG⟩ := hK.pg hbf
            have hop2 := plOpen (hand := 2) (tab := tab) hdr rfl (by decide) (by omega) (by omega) ht (.inr ⟨hme, hfit⟩) hbig
            have HCa := hide (HCy.out.trans hca fun b hb e => by have e : b = gd := e; rw [e]; exact HTy.out gd HDY.out.tg)
            have HTa := hide (show ∀ b, Ext TD' wy wa b → N + 2 ≤ b from fun b hb => by
              rcases hb with h | h
              · exact HTy.out b h
              · have := HCy.out.size; omega)
            have HPG := hide (And.intro hPG (And.intro hkeys (And.intro hcont (And.intro hsz (And.intro hnn hflat)))))
            clear hcr hdr hca hf hbf ht hme hfit hbig hkeys hflat hsz hnn hcont hPG hK HE HDY
            go_wp2_with fail
            refine hop2.mono ?_
            rintro e wb ⟨g2, nv2, TP3, bs3, bf3, ba3, sf3, rfl, hP5, hsf3, hTP3, hcb⟩
            have hlg : GoodKV l ∧ l.length ≤ 120 := by rw [hl]; exact HL2.out
            have hj := joinedW hP5 (HPG.out.1 sf3 hsf3) (by omega) (by simp) (by omega) (by simp) rfl HPG.out.2.1 HPG.out.2.2.1 (fun x hx => ⟨HPG.out.2.2.2.1 x hx, GoodKV.of_flat (by rw [HPG.out.2.2.2.2.2]; exact hlg.1) x hx⟩) (by have := HPG.out.2.2.2.2.1; have := hlg.2; omega) (by rw [HPG.out.2.2.2.2.2]; exact hlg.2)
            rw [HPG.out.2.2.2.2.2] at hj
            have HCb := hide (HCa.out.trans0 hcb)
            have HTb := hide (show ∀ b, Ext TD' wy wa b ∨ TP3 b → N + 2 ≤ b from fun b hb => by
              rcases hb with h | h
              · exact HTa.out b h
              · have := hTP3 b h; have := HCa.out.size; omega)
            clear hop2 hP5 hsf3 hTP3 hcb HPG hlg
            go_wp2_with fail
            refine hj.mono ?_
            rintro e wc ⟨kA, kn, kc, vA, vn, vc, rfl, hrk, hrv, hcc⟩
            have HCc := hide (HCb.out.trans hcc fun b hb e => HTb.out b e)
            have hbx := Blk.new wc 25 #[.bool true, .slice kA kn kc, .slice vA vn vc, .slice none 0 0]
            have hcx := (Chg.refl Non wc).alloc (.cells #[.bool true, .slice kA kn kc, .slice vA vn vc, .slice none 0 0] 25)
            have hrk5 := hrk.c0 hcx
            have hrv5 := hrv.c0 hcx
            clear hj hrk hrv hcc
            go_upto_region 24 with fail
            obtain ⟨bx, hbxe⟩ : ∃ b, b = wc.heap.size := ⟨_, rfl⟩
            rw [← hbxe] at hbx ⊢
            have HCd := hide (HCc.out.trans0 hcx)
            clear hbxe
            generalize World.alloc wc _ = wd at hbx hrk5 hrv5 HCd ⊢
            have x0 : wd.cell? ⟨bx, 0, none⟩ = some (.bool true) := hbx.cell 0
            have x1 : wd.cell? ⟨bx, 1, none⟩ = some (.slice kA kn kc) := hbx.cell 1
            have x2 : wd.cell? ⟨bx, 2, none⟩ = some (.slice vA vn vc) := hbx.cell 2
            have x3 : wd.cell? ⟨bx, 3, none⟩ = some (.slice none 0 0) := hbx.cell 3
            have HBd := hide (And.intro (HB4.out.1.chg HCd.out (by omega)) (HB4.out.2.chg HCd.out (by omega)))
            have HBX := hide hbx
            have hF4 : ∀ b, F b → ¬ N + 2 ≤ b := fun b hb => by have := HF2.out b hb; omega
            have HRX := hide (And.intro hrk5 hrv5)
            clear hcx hbx hrk5 hrv5
            subst hl
            have y0 : wd.cell? ⟨N + 1, 0, none⟩ = some (.bool true) := HBd.out.2.cell 0
            have y1 : wd.cell? ⟨N + 1, 1, none⟩ = some (.slice K2 kn2 kc2) := HBd.out.2.cell 1
            have y2 : wd.cell? ⟨N + 1, 2, none⟩ = some (.slice V2 vn2 vc2) := HBd.out.2.cell 2
            have y3 : wd.cell? ⟨N + 1, 3, none⟩ = some (.slice N2 nn2 nc2) := HBd.out.2.cell 3
            obtain ⟨_, hz2⟩ := HZ.out
            subst hz2
            have hs := refSameL (nc1 := 0) (N1 := none) (N2 := N2) (nc2 := nc2) HRX.out.1 HRX.out.2 (HKV2.out.1.chg HCd.out hF4) (HKV2.out.2.chg HCd.out hF4)
            rw [decide_eq_true (rfl : ksL l = ksL l), decide_eq_true (rfl : vsL l = vsL l)] at hs
            go_wp2_with fail
            refine hs.mono ?_
            rintro e we ⟨rfl, hce⟩
            go_wp2_with fail
            go_ret
            exact ⟨rfl, HC.out.trans (HCd.out.trans0 hce) fun b hb e => by have := HN.out; have e : N + 2 ≤ b := e; omega⟩
    · have hda : decide (0 ≤ arm) = false := decide_eq_false ha
      obtain ⟨wx, hwx⟩ : ∃ wx, wx = w9 := ⟨_, rfl⟩
      obtain ⟨TDx, TPx, Sx, hPx, hGx, hqx, hTx⟩ : ∃ TDx TPx Sx, PoolM wx TDx TPx G2 gd g ⟨#[112, 47]⟩ 3 Sx sl2 sf2 at2 bs bf2 ba cl1 0 0 a3 ∧ PG ⟨#[112, 47]⟩ Sx sl2 sf2 at2 sl2 (some (metaB sl2, ct)) ∧ Sx.queue = [] ∧ ∀ b, TDx b ∨ TPx b → N + 2 ≤ b :=
        ⟨TD2, TP2, _, by rw [hwx]; exact HP9.out, HG2.out, HA2.out.2.1, HT2.out⟩
      have HCx := hide (show Chg (fun b => N + 2 ≤ b) w4 wx by rw [hwx]; exact HC49.out)
      have HVx := hide (show OwnI wx w8.heap.size (.slice IA m ic) ((List.range m).map fun k : Nat => (k : Int)) by rw [hwx]; exact HV.out)
      rw [← hwx] at n9 ⊢
      have nx := Nat.le_refl wx.heap.size
      clear hwx HP9 HV HC49
      have HGX := hide (And.intro hGx (And.intro hqx hTx))
      have HPX := hide hPx
      clear hPx hGx hqx hTx HG2 HT2
      go_wp2_with fail
      go_loopw [12, 79] (fun dv iv wr => ∃ (k : Nat) (sl3 : Slots) (at3 : Ats), dv = .bool true ∧ iv = .int .i64 (k : Int) ∧ k ≤ m ∧ PoolM wr TDx TPx G2 gd g ⟨#[112, 47]⟩ 3 Sx sl3 sf2 at3 bs bf2 ba cl1 0 0 a3 ∧ Hid (PG ⟨#[112, 47]⟩ Sx sl3 sf2 at3 sl2 (some (metaB sl2, ct)) ∧ sl3.map (·.1) = (List.range m).drop k) ∧ Chg (fun k => k = bs ∨ k = ba) wx wr) (fun _ iv _ => m - (intOf iv).toNat)
      case atStart => exact ⟨0, sl2, at2, rfl, rfl, Nat.zero_le _, HPX.out, hide ⟨HGX.out.1, HKM.out⟩, Chg.refl _ _⟩
      case round =>
        obtain ⟨k, sl3, at3, rfl, rfl, hkm, hP3, hG3, hcw⟩ := hrel
        have nr := hcw.size
        have HKM3 := hide hkm
        clear hkm
        by_cases hkl : k < m
        · have hd : (List.range m).drop k = k :: (List.range m).drop (k + 1) := by
            rw [List.drop_eq_getElem_cons (by rw [List.length_range]; exact hkl), List.getElem_range]
          have hin : ∃ p ∈ sl3, p.1 = k := by
            have h9 : k ∈ sl3.map (·.1) := by rw [hG3.out.2, hd]; simp
            obtain ⟨p, hp, e⟩ := List.mem_map.1 h9
            exact ⟨p, hp, e⟩
          have hfr := plFree hP3 (i := k) (by omega) hin hG3.out.1.inv.rs
          have hiv := HVx.out.chg hcw (fun b hb e => by
            have h1 := (HVx.out.lt b hb).1
            have h2 := HLT.out
            rcases e with e | e <;> omega)
          obtain ⟨gi, ci, ei, hgi, hcell⟩ := hiv.at_ (k := k) (by rw [List.length_map, List.length_range]; exact hkl)
          rw [List.getElem_map, List.getElem_range] at hcell
          rw [List.length_map, List.length_range] at ei
          injection ei with ei1 _ ei2
          subst ei1
          subst ei2
          have HKL := hide hkl
          have HCW := hide hcw
          have hkl2 : (k : Int) < (m : Int) := by omega
          clear hd hin hiv hcw hP3
          go_wp2_with fail
          refine hfr.mono ?_
          rintro e wf ⟨rfl, hPf, hcf⟩
          have HPF := hide hPf
          have HCF := hide (HCW.out.trans hcf fun _ _ h => h)
          have HGF := hide (And.intro (hG3.out.1.free_ k) (range_del hG3.out.1.inv.rs hG3.out.2 HKL.out))
          clear hfr hcell hPf hcf
          go_wp2_with fail
          go_roundw
          case rel => exact ⟨k + 1, _, _, rfl, by go_num, HKL.out, HPF.out, HGF, HCF.out⟩
          case measure => (have := HKL.out; simp [intOf]; omega)
        · have hkk : k = m := by have := HKM3.out; omega
          subst hkk
          have h3 : sl3 = [] := by
            have := hG3.out.2
            rw [List.drop_of_length_le (by rw [List.length_range]; exact Nat.le_refl _)] at this
            exact List.map_eq_nil_iff.1 this
          subst h3
          have h4 : at3 = [] := List.eq_nil_iff_forall_not_mem.2 fun p hp => by
            obtain ⟨s, hs⟩ := hG3.out.1.inv.sub p hp
            simp at hs
          subst h4
          have HC4r := hide (HCx.out.trans hcw fun b hb e => by
            rcases e with e | e
            · rw [e]; exact HGX.out.2.2 bs (.inr HPX.out.tg.2.1)
            · rw [e]; exact HGX.out.2.2 ba (.inr HPX.out.tg.2.2.2))
          have HBr := hide (And.intro (HB4.out.1.chg HC4r.out (by omega)) (HB4.out.2.chg HC4r.out (by omega)))
          have hF4 : ∀ b, F b → ¬ N + 2 ≤ b := fun b hb => by have := HF2.out b hb; omega
          have hfb : ∀ b, F b → b < wr.heap.size ∧ ¬ (TDx b ∨ TPx b) := fun b hb => by
            have h1 := HF2.out b hb
            have h2 := HC4r.out.size
            exact ⟨by omega, fun e => by have := HGX.out.2.2 b e; omega⟩
          have hlaid := laidW (NA := N2) (nn := nn2) (nc := nc2) hP3 ⟨hG3.out.1, by simp, Nat.le_refl _, fun e => e⟩ rfl (by omega) (by omega) (by rw [HGX.out.2.1]; simp) (HKV2.out.1.chg HC4r.out hF4) (HKV2.out.2.chg HC4r.out hF4) HL2.out.1 HL2.out.2 hfb
          have y0 : wr.cell? ⟨N + 1, 0, none⟩ = some (.bool true) := HBr.out.2.cell 0
          have y1 : wr.cell? ⟨N + 1, 1, none⟩ = some (.slice K2 kn2 kc2) := HBr.out.2.cell 1
          have y2 : wr.cell? ⟨N + 1, 2, none⟩ = some (.slice V2 vn2 vc2) := HBr.out.2.cell 2
          have y3 : wr.cell? ⟨N + 1, 3, none⟩ = some (.slice N2 nn2 nc2) := HBr.out.2.cell 3
          have hgt : ¬ k < k := Nat.lt_irrefl _
          have HTx := hide HGX.out.2.2
          have HQX := hide HGX.out.2.1
          have n4r := HC4r.out.size
          clear hcw hP3 hF4 hfb HGX HPX HCx HVx HKM HKM3
          go_wp2_with fail
          refine hlaid.mono ?_
          rintro e wl ⟨hcl, ⟨rfl, _, Sy, hdy, hpd⟩ | ⟨rfl, S1, sl1, at1, TD1, TP1, G1, cl9, a9, PL2, hP1, hU1, ⟨hL1, hne1⟩, e1, e2⟩⟩
          · have HCy := hide (HC4r.out.trans hcl fun b hb e => HTx.out b e)
            have HTy := hide (show ∀ b, Ext TDx wr wl b → N + 2 ≤ b from fun b hb => by
              rcases hb with h | h
              · exact HTx.out b (.inl h)
              · omega)
            have HE := hide (show Ends ⟨#[112, 47]⟩ Sy (fun f => ∃ l, (l = l1 ∨ l = l2) ∧ Kept ⟨#[112, 47]⟩ l f) from hpd.ends fun f hf => ⟨l1, .inl rfl, HK1.out f hf⟩)
            have hdd := dgDead hdy
            rw [hpd.dead] at hdd
            have HDY := hide hdy
            have ny := hcl.size
            clear hlaid hcl hpd hdy y0 y1 y2 y3 hgt
            go_wp2_with fail
            refine hdd.mono ?_
            rintro e wy ⟨rfl, hwy⟩
            subst hwy
            clear hdd
            have hcr := dgCrash (keep := arm) HDY.out (by simp [supP]) HE.out.bs HE.out.dq HE.out.un
            go_wp2_with fail
            refine hcr.mono ?_
            rintro e wa ⟨rfl, kk, hdr, hca⟩
            obtain ⟨f, hf⟩ : ∃ f, f = crashF Sy.safe Sy.queue kk := ⟨_, rfl⟩
            rw [← hf] at hdr
            have hbf : BndF f := by rw [hf]; exact HE.out.bnd kk
            obtain ⟨l, hl, hK⟩ : ∃ l, (l = l1 ∨ l = l2) ∧ Kept ⟨#[112, 47]⟩ l f := by rw [hf]; exact HE.out.rk kk
            obtain ⟨tab, PL, ht, hme, hfit, hbig, hkeys, hflat, hsz, hnn, hcont, hPG⟩ := hK.pg hbf
            have hop2 := plOpen (hand := 2) (tab := tab) hdr rfl (by decide) (by omega) (by omega) ht (.inr ⟨hme, hfit⟩) hbig
            have HCa := hide (HCy.out.trans hca fun b hb e => by have e : b = gd := e; rw [e]; exact HTy.out gd HDY.out.tg)
            have HTa := hide (show ∀ b, Ext (Ext TDx wr wy) wy wa b → N + 2 ≤ b from fun b hb => by
              rcases hb with h | h
              · exact HTy.out b h
              · have := HCy.out.size; omega)
            have HPG := hide (And.intro hPG (And.intro hkeys (And.intro hcont (And.intro hsz (And.intro hnn hflat)))))
            clear hcr hdr hca hf hbf ht hme hfit hbig hkeys hflat hsz hnn hcont hPG hK HE HDY
            go_wp2_with fail
            refine hop2.mono ?_
            rintro e wb ⟨g2, nv2, TP3, bs3, bf3, ba3, sf3, rfl, hP5, hsf3, hTP3, hcb⟩
            have hlg : GoodKV l ∧ l.length ≤ 120 := by
              rcases hl with rfl | rfl
              · exact HL1.out
              · exact HL2.out
            have hj := joinedW hP5 (HPG.out.1 sf3 hsf3) (by omega) (by simp) (by omega) (by simp) rfl HPG.out.2.1 HPG.out.2.2.1 (fun x hx => ⟨HPG.out.2.2.2.1 x hx, GoodKV.of_flat (by rw [HPG.out.2.2.2.2.2]; exact hlg.1) x hx⟩) (by have := HPG.out.2.2.2.2.1; have := hlg.2; omega) (by rw [HPG.out.2.2.2.2.2]; exact hlg.2)
            rw [HPG.out.2.2.2.2.2] at hj
            have HCb := hide (HCa.out.trans0 hcb)
            have HTb := hide (show ∀ b, Ext (Ext TDx wr wy) wy wa b ∨ TP3 b → N + 2 ≤ b from fun b hb => by
              rcases hb with h | h
              · exact HTa.out b h
              · have := hTP3 b h; have := HCa.out.size; omega)
            clear hop2 hP5 hsf3 hTP3 hcb HPG hlg
            go_wp2_with fail
            refine hj.mono ?_
            rintro e wc ⟨kA, kn, kc, vA, vn, vc, rfl, hrk, hrv, hcc⟩
            have HCc := hide (HCb.out.trans hcc fun b hb e => HTb.out b e)
            have hbx := Blk.new wc 25 #[.bool true, .slice kA kn kc, .slice vA vn vc, .slice none 0 0]
            have hcx := (Chg.refl Non wc).alloc (.cells #[.bool true, .slice kA kn kc, .slice vA vn vc, .slice none 0 0] 25)
            have hrk5 := hrk.c0 hcx
            have hrv5 := hrv.c0 hcx
            clear hj hrk hrv hcc
            go_upto_region 24 with fail
            obtain ⟨bx, hbxe⟩ : ∃ b, b = wc.heap.size := ⟨_, rfl⟩
            rw [← hbxe] at hbx ⊢
            have HCd := hide (HCc.out.trans0 hcx)
            clear hbxe
            generalize World.alloc wc _ = wd at hbx hrk5 hrv5 HCd ⊢
            have x0 : wd.cell? ⟨bx, 0, none⟩ = some (.bool true) := hbx.cell 0
            have x1 : wd.cell? ⟨bx, 1, none⟩ = some (.slice kA kn kc) := hbx.cell 1
            have x2 : wd.cell? ⟨bx, 2, none⟩ = some (.slice vA vn vc) := hbx.cell 2
            have x3 : wd.cell? ⟨bx, 3, none⟩ = some (.slice none 0 0) := hbx.cell 3
            have HBd := hide (And.intro (HB4.out.1.chg HCd.out (by omega)) (HB4.out.2.chg HCd.out (by omega)))
            have HBX := hide hbx
            have hF4 : ∀ b, F b → ¬ N + 2 ≤ b := fun b hb => by have := HF2.out b hb; omega
            have HRX := hide (And.intro hrk5 hrv5)
            clear hcx hbx hrk5 hrv5
            have z0 : wd.cell? ⟨N, 0, none⟩ = some (.bool true) := HBd.out.1.cell 0
            have z1 : wd.cell? ⟨N, 1, none⟩ = some (.slice K1 kn1 kc1) := HBd.out.1.cell 1
            have z2 : wd.cell? ⟨N, 2, none⟩ = some (.slice V1 vn1 vc1) := HBd.out.1.cell 2
            have z3 : wd.cell? ⟨N, 3, none⟩ = some (.slice N1 nn1 nc1) := HBd.out.1.cell 3
            have y0 : wd.cell? ⟨N + 1, 0, none⟩ = some (.bool true) := HBd.out.2.cell 0
            have y1 : wd.cell? ⟨N + 1, 1, none⟩ = some (.slice K2 kn2 kc2) := HBd.out.2.cell 1
            have y2 : wd.cell? ⟨N + 1, 2, none⟩ = some (.slice V2 vn2 vc2) := HBd.out.2.cell 2
            have y3 : wd.cell? ⟨N + 1, 3, none⟩ = some (.slice N2 nn2 nc2) := HBd.out.2.cell 3
            obtain ⟨hz1, hz2⟩ := HZ.out
            subst hz1
            subst hz2
            have hs := refSameL (nc1 := 0) (N1 := none) (N2 := N1) (nc2 := nc1) HRX.out.1 HRX.out.2 (HKV1.out.1.chg HCd.out hF4) (HKV1.out.2.chg HCd.out hF4)
            have hl9 : (decide (ksL l = ksL l1) && decide (vsL l = vsL l1)) = true ∨ l = l2 := by
              rcases hl with rfl | rfl
              · exact .inl (by simp)
              · exact .inr rfl
            generalize (decide (ksL l = ksL l1) && decide (vsL l = vsL l1)) = rr at hs hl9
            go_wp2_with fail
            refine hs.mono ?_
            rintro e we ⟨rfl, hce⟩
            clear hs
            cases rr with
            | true =>
              clear x0 x1 x2 x3 y0 y1 y2 y3 z0 z1 z2 z3
              go_wp2_with fail
              go_ret
              exact ⟨rfl, HC.out.trans (HCd.out.trans0 hce) fun b hb e => by have := HN.out; have e : N + 2 ≤ b := e; omega⟩
            | false =>
              have hl8 : l = l2 := hl9.elim (fun e => by cases e) fun e => e
              subst hl8
              clear hl9
              have hs := refSameL (nc1 := 0) (N1 := none) (N2 := N2) (nc2 := nc2) (HRX.out.1.c0 hce) (HRX.out.2.c0 hce) ((HKV2.out.1.chg HCd.out hF4).c0 hce) ((HKV2.out.2.chg HCd.out hF4).c0 hce)
              rw [decide_eq_true (rfl : ksL l = ksL l), decide_eq_true (rfl : vsL l = vsL l)] at hs
              have HBe := hide (And.intro (HBX.out.c0 hce) (HBd.out.2.c0 hce))
              clear x0 x1 x2 x3 y0 y1 y2 y3 z0 z1 z2 z3
              have x0 : we.cell? ⟨bx, 0, none⟩ = some (.bool true) := HBe.out.1.cell 0
              have x1 : we.cell? ⟨bx, 1, none⟩ = some (.slice kA kn kc) := HBe.out.1.cell 1
              have x2 : we.cell? ⟨bx, 2, none⟩ = some (.slice vA vn vc) := HBe.out.1.cell 2
              have x3 : we.cell? ⟨bx, 3, none⟩ = some (.slice none 0 0) := HBe.out.1.cell 3
              have y0 : we.cell? ⟨N + 1, 0, none⟩ = some (.bool true) := HBe.out.2.cell 0
              have y1 : we.cell? ⟨N + 1, 1, none⟩ = some (.slice K2 kn2 kc2) := HBe.out.2.cell 1
              have y2 : we.cell? ⟨N + 1, 2, none⟩ = some (.slice V2 vn2 vc2) := HBe.out.2.cell 2
              have y3 : we.cell? ⟨N + 1, 3, none⟩ = some (.slice N2 0 nc2) := HBe.out.2.cell 3
              have HCe := hide hce
              clear hce
              go_wp2_with fail
              refine hs.mono ?_
              rintro e we2 ⟨rfl, hce2⟩
              go_wp2_with fail
              go_ret
              exact ⟨rfl, HC.out.trans ((HCd.out.trans0 HCe.out).trans0 hce2) fun b hb e => by have := HN.out; have e : N + 2 ≤ b := e; omega⟩
          have hTl : ∀ b, TD1 b ∨ TP1 b → N + 2 ≤ b := fun b hb => by
            rcases hb with hb | hb
            · rcases e1 b hb with h | h
              · exact HTx.out b (.inl h)
              · omega
            · rcases e2 b hb with h | h
              · exact HTx.out b (.inr h)
              · omega
          have hsave := plSave hP1 hU1.g (by have := hU1.le; omega) (by have := hU1.q; rw [HQX.out] at this; simp at this; omega) (.inl (by simp))
          have HC4l := hide (HC4r.out.trans hcl fun b hb e => HTx.out b e)
          have HTl := hide hTl
          have HLP := hide (And.intro hL1 hne1)
          have nl := hcl.size
          clear hlaid hcl hP1 hU1 hL1 hne1 e1 e2 hTl y0 y1 y2 y3 hgt HBr
          go_wp2_with fail
          refine hsave.mono ?_
          rintro e ws ⟨hcs, ⟨rfl, _, Sy, sl', hdy, hty, hky, ⟨ct', hct', hpd⟩⟩ | ⟨rfl, Sy, sl', sf', at', TD', TP', G', bf', hPy, hty, hky, ⟨ct', hct', hGy, _⟩, _, hqy, _, e1, e2⟩⟩
          · have HCy := hide (HC4l.out.trans hcs fun b hb e => HTl.out b e)
            have HTy := hide (show ∀ b, Ext TD1 wl ws b → N + 2 ≤ b from fun b hb => by
              rcases hb with h | h
              · exact HTl.out b (.inl h)
              · omega)
            have HE := hide (show Ends ⟨#[112, 47]⟩ Sy (fun f => ∃ l, (l = l1 ∨ l = l2) ∧ Kept ⟨#[112, 47]⟩ l f) from hpd.ends fun f hf => by
              rcases hf with hf | hf
              · exact ⟨l1, .inl rfl, HK1.out f hf⟩
              · exact ⟨l2, .inr rfl, Kept.of HLP.out.1 HLP.out.2 hty hky hct' hf⟩)
            have hdd := dgDead hdy
            rw [hpd.dead] at hdd
            have HDY := hide hdy
            have ny := hcs.size
            clear hsave hcs hpd hdy hty hky hct'
            go_wp2_with fail
            refine hdd.mono ?_
            rintro e wy ⟨rfl, hwy⟩
            subst hwy
            clear hdd
            have hcr := dgCrash (keep := arm) HDY.out (by simp [supP]) HE.out.bs HE.out.dq HE.out.un
            go_wp2_with fail
            refine hcr.mono ?_
            rintro e wa ⟨rfl, kk, hdr, hca⟩
            obtain ⟨f, hf⟩ : ∃ f, f = crashF Sy.safe Sy.queue kk := ⟨_, rfl⟩
            rw [← hf] at hdr
            have hbf : BndF f := by rw [hf]; exact HE.out.bnd kk
            obtain ⟨l, hl, hK⟩ : ∃ l, (l = l1 ∨ l = l2) ∧ Kept ⟨#[112, 47]⟩ l f := by rw [hf]; exact HE.out.rk kk
            obtain ⟨tab, PL, ht, hme, hfit, hbig, hkeys, hflat, hsz, hnn, hcont, hPG⟩ := hK.pg hbf
            have hop2 := plOpen (hand := 2) (tab := tab) hdr rfl (by decide) (by omega) (by omega) ht (.inr ⟨hme, hfit⟩) hbig
            have HCa := hide (HCy.out.trans hca fun b hb e => by have e : b = gd := e; rw [e]; exact HTy.out gd HDY.out.tg)
            have HTa := hide (show ∀ b, Ext (Ext TD1 wl wy) wy wa b → N + 2 ≤ b from fun b hb => by
              rcases hb with h | h
              · exact HTy.out b h
              · have := HCy.out.size; omega)
            have HPG := hide (And.intro hPG (And.intro hkeys (And.intro hcont (And.intro hsz (And.intro hnn hflat)))))
            clear hcr hdr hca hf hbf ht hme hfit hbig hkeys hflat hsz hnn hcont hPG hK HE HDY
            go_wp2_with fail
            refine hop2.mono ?_
            rintro e wb ⟨g2, nv2, TP3, bs3, bf3, ba3, sf3, rfl, hP5, hsf3, hTP3, hcb⟩
            have hlg : GoodKV l ∧ l.length ≤ 120 := by
              rcases hl with rfl | rfl
              · exact HL1.out
              · exact HL2.out
            have hj := joinedW hP5 (HPG.out.1 sf3 hsf3) (by omega) (by simp) (by omega) (by simp) rfl HPG.out.2.1 HPG.out.2.2.1 (fun x hx => ⟨HPG.out.2.2.2.1 x hx, GoodKV.of_flat (by rw [HPG.out.2.2.2.2.2]; exact hlg.1) x hx⟩) (by have := HPG.out.2.2.2.2.1; have := hlg.2; omega) (by rw [HPG.out.2.2.2.2.2]; exact hlg.2)
            rw [HPG.out.2.2.2.2.2] at hj
            have HCb := hide (HCa.out.trans0 hcb)
            have HTb := hide (show ∀ b, Ext (Ext TD1 wl wy) wy wa b ∨ TP3 b → N + 2 ≤ b from fun b hb => by
              rcases hb with h | h
              · exact HTa.out b h
              · have := hTP3 b h; have := HCa.out.size; omega)
            clear hop2 hP5 hsf3 hTP3 hcb HPG hlg
            go_wp2_with fail
            refine hj.mono ?_
            rintro e wc ⟨kA, kn, kc, vA, vn, vc, rfl, hrk, hrv, hcc⟩
            have HCc := hide (HCb.out.trans hcc fun b hb e => HTb.out b e)
            have hbx := Blk.new wc 25 #[.bool true, .slice kA kn kc, .slice vA vn vc, .slice none 0 0]
            have hcx := (Chg.refl Non wc).alloc (.cells #[.bool true, .slice kA kn kc, .slice vA vn vc, .slice none 0 0] 25)
            have hrk5 := hrk.c0 hcx
            have hrv5 := hrv.c0 hcx
            clear hj hrk hrv hcc
            go_upto_region 24 with fail
            obtain ⟨bx, hbxe⟩ : ∃ b, b = wc.heap.size := ⟨_, rfl⟩
            rw [← hbxe] at hbx ⊢
            have HCd := hide (HCc.out.trans0 hcx)
            clear hbxe
            generalize World.alloc wc _ = wd at hbx hrk5 hrv5 HCd ⊢
            have x0 : wd.cell? ⟨bx, 0, none⟩ = some (.bool true) := hbx.cell 0
            have x1 : wd.cell? ⟨bx, 1, none⟩ = some (.slice kA kn kc) := hbx.cell 1
            have x2 : wd.cell? ⟨bx, 2, none⟩ = some (.slice vA vn vc) := hbx.cell 2
            have x3 : wd.cell? ⟨bx, 3, none⟩ = some (.slice none 0 0) := hbx.cell 3
            have HBd := hide (And.intro (HB4.out.1.chg HCd.out (by omega)) (HB4.out.2.chg HCd.out (by omega)))
            have HBX := hide hbx
            have hF4 : ∀ b, F b → ¬ N + 2 ≤ b := fun b hb => by have := HF2.out b hb; omega
            have HRX := hide (And.intro hrk5 hrv5)
            clear hcx hbx hrk5 hrv5
            have z0 : wd.cell? ⟨N, 0, none⟩ = some (.bool true) := HBd.out.1.cell 0
            have z1 : wd.cell? ⟨N, 1, none⟩ = some (.slice K1 kn1 kc1) := HBd.out.1.cell 1
            have z2 : wd.cell? ⟨N, 2, none⟩ = some (.slice V1 vn1 vc1) := HBd.out.1.cell 2
            have z3 : wd.cell? ⟨N, 3, none⟩ = some (.slice N1 nn1 nc1) := HBd.out.1.cell 3
            have y0 : wd.cell? ⟨N + 1, 0, none⟩ = some (.bool true) := HBd.out.2.cell 0
            have y1 : wd.cell? ⟨N + 1, 1, none⟩ = some (.slice K2 kn2 kc2) := HBd.out.2.cell 1
            have y2 : wd.cell? ⟨N + 1, 2, none⟩ = some (.slice V2 vn2 vc2) := HBd.out.2.cell 2
            have y3 : wd.cell? ⟨N + 1, 3, none⟩ = some (.slice N2 nn2 nc2) := HBd.out.2.cell 3
            obtain ⟨hz1, hz2⟩ := HZ.out
            subst hz1
            subst hz2
            have hs := refSameL (nc1 := 0) (N1 := none) (N2 := N1) (nc2 := nc1) HRX.out.1 HRX.out.2 (HKV1.out.1.chg HCd.out hF4) (HKV1.out.2.chg HCd.out hF4)
            have hl9 : (decide (ksL l = ksL l1) && decide (vsL l = vsL l1)) = true ∨ l = l2 := by
              rcases hl with rfl | rfl
              · exact .inl (by simp)
              · exact .inr rfl
            generalize (decide (ksL l = ksL l1) && decide (vsL l = vsL l1)) = rr at hs hl9
            go_wp2_with fail
            refine hs.mono ?_
            rintro e we ⟨rfl, hce⟩
            clear hs
            cases rr with
            | true =>
              clear x0 x1 x2 x3 y0 y1 y2 y3 z0 z1 z2 z3
              go_wp2_with fail
              go_ret
              exact ⟨rfl, HC.out.trans (HCd.out.trans0 hce) fun b hb e => by have := HN.out; have e : N + 2 ≤ b := e; omega⟩
            | false =>
              have hl8 : l = l2 := hl9.elim (fun e => by cases e) fun e => e
              subst hl8
              clear hl9
              have hs := refSameL (nc1 := 0) (N1 := none) (N2 := N2) (nc2 := nc2) (HRX.out.1.c0 hce) (HRX.out.2.c0 hce) ((HKV2.out.1.chg HCd.out hF4).c0 hce) ((HKV2.out.2.chg HCd.out hF4).c0 hce)
              rw [decide_eq_true (rfl : ksL l = ksL l), decide_eq_true (rfl : vsL l = vsL l)] at hs
              have HBe := hide (And.intro (HBX.out.c0 hce) (HBd.out.2.c0 hce))
              clear x0 x1 x2 x3 y0 y1 y2 y3 z0 z1 z2 z3
              have x0 : we.cell? ⟨bx, 0, none⟩ = some (.bool true) := HBe.out.1.cell 0
              have x1 : we.cell? ⟨bx, 1, none⟩ = some (.slice kA kn kc) := HBe.out.1.cell 1
              have x2 : we.cell? ⟨bx, 2, none⟩ = some (.slice vA vn vc) := HBe.out.1.cell 2
              have x3 : we.cell? ⟨bx, 3, none⟩ = some (.slice none 0 0) := HBe.out.1.cell 3
              have y0 : we.cell? ⟨N + 1, 0, none⟩ = some (.bool true) := HBe.out.2.cell 0
              have y1 : we.cell? ⟨N + 1, 1, none⟩ = some (.slice K2 kn2 kc2) := HBe.out.2.cell 1
              have y2 : we.cell? ⟨N + 1, 2, none⟩ = some (.slice V2 vn2 vc2) := HBe.out.2.cell 2
              have y3 : we.cell? ⟨N + 1, 3, none⟩ = some (.slice N2 0 nc2) := HBe.out.2.cell 3
              have HCe := hide hce
              clear hce
              go_wp2_with fail
              refine hs.mono ?_
              rintro e we2 ⟨rfl, hce2⟩
              go_wp2_with fail
              go_ret
              exact ⟨rfl, HC.out.trans ((HCd.out.trans0 HCe.out).trans0 hce2) fun b hb e => by have := HN.out; have e : N + 2 ≤ b := e; omega⟩
          · have HCy := hide (HC4l.out.trans hcs fun b hb e => HTl.out b e)
            have HTy := hide (show ∀ b, TD' b → N + 2 ≤ b from fun b hb => by
              rcases e1 b hb with h | h
              · exact HTl.out b (.inl h)
              · omega)
            have HE := hide (show Ends ⟨#[112, 47]⟩ Sy (fun f => Kept ⟨#[112, 47]⟩ l2 f) from hGy.ends hqy (Kept.of HLP.out.1 HLP.out.2 hty hky (fun p _ => hct' p.1) (hGy.hold _ rfl)))
            have HDY := hide hPy.drv
            have ny := hcs.size
            obtain ⟨wy, hwy⟩ : ∃ w', w' = ws := ⟨_, rfl⟩
            subst hwy
            clear hsave hcs hPy hty hky hct' hGy hqy e1 e2
            go_wp2_with fail
            have hcr := dgCrash (keep := arm) HDY.out (by simp [supP]) HE.out.bs HE.out.dq HE.out.un
            go_wp2_with fail
            refine hcr.mono ?_
            rintro e wa ⟨rfl, kk, hdr, hca⟩
            obtain ⟨f, hf⟩ : ∃ f, f = crashF Sy.safe Sy.queue kk := ⟨_, rfl⟩
            rw [← hf] at hdr
            have hbf : BndF f := by rw [hf]; exact HE.out.bnd kk
            obtain ⟨l, hl, hK⟩ : ∃ l, l = l2 ∧ Kept ⟨#[112, 47]⟩ l f := ⟨l2, rfl, by rw [hf]; exact HE.out.rk kk⟩
            obtain ⟨tab, PL, ht, hme, hfit, hbig, hkeys, hflat, hsz, hnn, hcont, hPG⟩ := hK.pg hbf
            have hop2 := plOpen (hand := 2) (tab := tab) hdr rfl (by decide) (by omega) (by omega) ht (.inr ⟨hme, hfit⟩) hbig
            have HCa := hide (HCy.out.trans hca fun b hb e => by have e : b = gd := e; rw [e]; exact HTy.out gd HDY.out.tg)
            have HTa := hide (show ∀ b, Ext TD' wy wa b → N + 2 ≤ b from fun b hb => by
              rcases hb with h | h
              · exact HTy.out b h
              · have := HCy.out.size; omega)
            have HPG := hide (And.intro hPG (And.intro hkeys (And.intro hcont (And.intro hsz (And.intro hnn hflat)))))
            clear hcr hdr hca hf hbf ht hme hfit hbig hkeys hflat hsz hnn hcont hPG hK HE HDY
            go_wp2_with fail
            refine hop2.mono ?_
            rintro e wb ⟨g2, nv2, TP3, bs3, bf3, ba3, sf3, rfl, hP5, hsf3, hTP3, hcb⟩
            have hlg : GoodKV l ∧ l.length ≤ 120 := by rw [hl]; exact HL2.out
            have hj := joinedW hP5 (HPG.out.1 sf3 hsf3) (by omega) (by simp) (by omega) (by simp) rfl HPG.out.2.1 HPG.out.2.2.1 (fun x hx => ⟨HPG.out.2.2.2.1 x hx, GoodKV.of_flat (by rw [HPG.out.2.2.2.2.2]; exact hlg.1) x hx⟩) (by have := HPG.out.2.2.2.2.1; have := hlg.2; omega) (by rw [HPG.out.2.2.2.2.2]; exact hlg.2)
            rw [HPG.out.2.2.2.2.2] at hj
            have HCb := hide (HCa.out.trans0 hcb)
            have HTb := hide (show ∀ b, Ext TD' wy wa b ∨ TP3 b → N + 2 ≤ b from fun b hb => by
              rcases hb with h | h
              · exact HTa.out b h
              · have := hTP3 b h; have := HCa.out.size; omega)
            clear hop2 hP5 hsf3 hTP3 hcb HPG hlg
            go_wp2_with fail
            refine hj.mono ?_
            rintro e wc ⟨kA, kn, kc, vA, vn, vc, rfl, hrk, hrv, hcc⟩
            have HCc := hide (HCb.out.trans hcc fun b hb e => HTb.out b e)
            have hbx := Blk.new wc 25 #[.bool true, .slice kA kn kc, .slice vA vn vc, .slice none 0 0]
            have hcx := (Chg.refl Non wc).alloc (.cells #[.bool true, .slice kA kn kc, .slice vA vn vc, .slice none 0 0] 25)
            have hrk5 := hrk.c0 hcx
            have hrv5 := hrv.c0 hcx
            clear hj hrk hrv hcc
            go_upto_region 24 with fail
            obtain ⟨bx, hbxe⟩ : ∃ b, b = wc.heap.size := ⟨_, rfl⟩
            rw [← hbxe] at hbx ⊢
            have HCd := hide (HCc.out.trans0 hcx)
            clear hbxe
            generalize World.alloc wc _ = wd at hbx hrk5 hrv5 HCd ⊢
            have x0 : wd.cell? ⟨bx, 0, none⟩ = some (.bool true) := hbx.cell 0
            have x1 : wd.cell? ⟨bx, 1, none⟩ = some (.slice kA kn kc) := hbx.cell 1
            have x2 : wd.cell? ⟨bx, 2, none⟩ = some (.slice vA vn vc) := hbx.cell 2
            have x3 : wd.cell? ⟨bx, 3, none⟩ = some (.slice none 0 0) := hbx.cell 3
            have HBd := hide (And.intro (HB4.out.1.chg HCd.out (by omega)) (HB4.out.2.chg HCd.out (by omega)))
            have HBX := hide hbx
            have hF4 : ∀ b, F b → ¬ N + 2 ≤ b := fun b hb => by have := HF2.out b hb; omega
            have HRX := hide (And.intro hrk5 hrv5)
            clear hcx hbx hrk5 hrv5
            subst hl
            have y0 : wd.cell? ⟨N + 1, 0, none⟩ = some (.bool true) := HBd.out.2.cell 0
            have y1 : wd.cell? ⟨N + 1, 1, none⟩ = some (.slice K2 kn2 kc2) := HBd.out.2.cell 1
            have y2 : wd.cell? ⟨N + 1, 2, none⟩ = some (.slice V2 vn2 vc2) := HBd.out.2.cell 2
            have y3 : wd.cell? ⟨N + 1, 3, none⟩ = some (.slice N2 nn2 nc2) := HBd.out.2.cell 3
            obtain ⟨_, hz2⟩ := HZ.out
            subst hz2
            have hs := refSameL (nc1 := 0) (N1 := none) (N2 := N2) (nc2 := nc2) HRX.out.1 HRX.out.2 (HKV2.out.1.chg HCd.out hF4) (HKV2.out.2.chg HCd.out hF4)
            rw [decide_eq_true (rfl : ksL l = ksL l), decide_eq_true (rfl : vsL l = vsL l)] at hs
            go_wp2_with fail
            refine hs.mono ?_
            rintro e we ⟨rfl, hce⟩
            go_wp2_with fail
            go_ret
            exact ⟨rfl, HC.out.trans (HCd.out.trans0 hce) fun b hb e => by have := HN.out; have e : N + 2 ≤ b := e; omega⟩
  · have hd1 : decide (c1 = 0) = false := decide_eq_false h1
    go_wp2_with fail
    go_ret
    exact ⟨rfl, HC2.out.trans0 HC3.out⟩
end Go.Proofs.YtfgecgmgbngeaaaGreat
