/- The walk of btree's store: a node is written back, or parted. -/
import Derived.Test.YtliimeoblffigaaGreatTsB
set_option linter.unusedVariables false
set_option linter.unusedSimpArgs false
set_option maxRecDepth 100000
namespace Go.Proofs.YtliimeoblffigaaGreat
open Go.RowKit Go.Maps
set_option linter.unusedVariables false
set_option linter.unusedSimpArgs false

theorem upd_swap {ct : Nat → List UInt8} {id o : Nat} {a b z : List UInt8} (h : o ≠ id) : upd (upd (upd ct o z) id a) o b = upd (upd ct id a) o b := by
  funext j
  unfold upd
  by_cases h1 : j = o
  · simp [h1]
  · by_cases h2 : j = id
    · simp [h1, h2]
    · simp [h1, h2]
theorem szL_split (l : List KV) (i j : Nat) : szL (ksL l) (vsL l) i j = sizeKV ((l.drop i).take (j - i)) := by
  unfold szL
  rw [size_split, ksL_take, ksL_drop, vsL_take, vsL_drop]
/-- the best cut of a leaf fits -/
theorem cutL_fits {l : List KV} (hg : GoodKV l) (hb : 512 < sizeKV l) (hs : sizeKV l ≤ 707) {k : Nat} (hk : ∀ j, 1 ≤ j → j ≤ (ksL l).length - 1 → mxL (ksL l) (vsL l) k ≤ mxL (ksL l) (vsL l) j) : sizeKV (l.take k) ≤ 512 ∧ sizeKV (l.drop k) ≤ 512 := by
  obtain ⟨j, h1, h2, h3, h4⟩ := leaf_cut hg hb hs
  have h5 := hk j h1 (by rw [ksL_length]; exact h2)
  have e : ∀ i, mxL (ksL l) (vsL l) i = max (sizeKV (l.take i)) (sizeKV (l.drop i)) := fun i => by
    unfold mxL
    rw [szL_split, szL_split, List.drop_zero, Nat.sub_zero, ksL_length]
    congr 1
    rw [List.take_of_length_le (by rw [List.length_drop]; exact Nat.le_refl _)]
  rw [e, e] at h5
  have h6 : max (sizeKV (l.take j)) (sizeKV (l.drop j)) ≤ 512 := Nat.max_le.2 ⟨h3, h4⟩
  exact ⟨Nat.le_trans (Nat.le_max_left _ _) (Nat.le_trans h5 h6), Nat.le_trans (Nat.le_max_right _ _) (Nat.le_trans h5 h6)⟩
theorem cutI_fits {ks : List (List UInt8)} (h : ∀ k ∈ ks, k.length ≤ 64) (hb : 512 < sizeIn ks (ks.length + 1)) (hs : sizeIn ks (ks.length + 1) ≤ 579) :
    3 ≤ ks.length ∧ ∀ {k : Nat}, 1 ≤ k → k ≤ ks.length - 2 → (∀ j, 1 ≤ j → j ≤ ks.length - 2 → mxI ks k ≤ mxI ks j) → sizeIn (ks.take k) (k + 1) ≤ 512 ∧ sizeIn (ks.drop (k + 1)) (ks.length - k) ≤ 512 := by
  obtain ⟨h3, j, h1, h2, h4, h5⟩ := inner_cut h hb hs
  refine ⟨h3, fun {k} hk1 hk2 hk => ?_⟩
  have h6 := hk j h1 h2
  have e : ∀ i, i ≤ ks.length - 2 → mxI ks i = max (sizeIn (ks.take i) (i + 1)) (sizeIn (ks.drop (i + 1)) (ks.length - i)) := fun i hi => by
    unfold mxI szI
    rw [List.drop_zero, Nat.sub_zero, Nat.sub_zero, show ks.length + 1 - (i + 1) = ks.length - i by omega, List.take_of_length_le (l := ks.drop (i + 1)) (by rw [List.length_drop]; exact Nat.le_refl _)]
  rw [e k hk2, e j h2] at h6
  have h7 : max (sizeIn (ks.take j) (j + 1)) (sizeIn (ks.drop (j + 1)) (ks.length - j)) ≤ 512 := Nat.max_le.2 ⟨h4, h5⟩
  exact ⟨Nat.le_trans (Nat.le_max_left _ _) (Nat.le_trans h6 h7), Nat.le_trans (Nat.le_max_right _ _) (Nat.le_trans h6 h7)⟩
theorem UpK.pw : ∀ {ks : List (List UInt8)}, UpK ks → ks.Pairwise fun a b => cmpB a b < 0
  | [], _ => List.Pairwise.nil
  | [_], _ => List.pairwise_singleton _ _
  | a :: b :: ks, h => by
    have h2 : UpK (b :: ks) := fun i p q hp hq => h (i + 1) p q (by simpa using hp) (by simpa using hq)
    have h3 := h2.pw
    refine List.pairwise_cons.2 ⟨fun c hc => ?_, h3⟩
    have h0 := h 0 a b rfl rfl
    rcases List.mem_cons.1 hc with rfl | hc
    · exact h0
    · exact cmpB_trans h0 ((List.pairwise_cons.1 h3).1 c hc)
theorem UpK.take {ks : List (List UInt8)} (h : UpK ks) (k : Nat) : UpK (ks.take k) := upK_pw (h.pw.sublist (List.take_sublist _ _))
theorem UpK.drop {ks : List (List UInt8)} (h : UpK ks) (k : Nat) : UpK (ks.drop k) := upK_pw (h.pw.sublist (List.drop_sublist _ _))
/-- a node was parted: the page id has p1, the new page o has p2, the key between is kv -/
structure StOut (w : World) (T : Nat → Prop) (g hand : Nat) (pre : ByteArray) (q : Nat) (ids : List Nat) (ct : Nat → List UInt8) (id : Nat) (p1 p2 : List UInt8) (key : List UInt8) (kv : Value) (o : Nat) (ids' : List Nat) (w' : World) (T' : Nat → Prop) : Prop where
  ts : TS w' T' g hand pre (q + 2) ids' (upd (upd ct id p1) o p2)
  sub : ∀ b, T' b → Ext T w w' b
  chg : Chg T w w'
  fresh : o ∉ ids
  lim : o ≤ 65535
  mem : ∀ j, j ∈ ids' ↔ j = o ∨ j ∈ ids
  len : ids'.length = ids.length + 1
  key : RdB w' (fun b => w.heap.size ≤ b ∧ ¬ T' b ∧ b < w'.heap.size) kv key
section
variable {w : World} {T : Nat → Prop} {g hand q gt id : Nat} {root : Int} {pre : ByteArray} {ids : List Nat} {ct : Nat → List UInt8}
set_option maxHeartbeats 16000000 in
theorem tStoreL {F : Nat → Prop} {KA VA NA : Option Addr} {kn kc vn vc nn nc : Nat} (hS : TS w T g hand pre q ids ct) (hb : Blk w gt 121 #[.pointer (some ⟨g, 0, none⟩), .int .i64 root]) (hgt : ¬ T gt) (hi : id ∈ ids) (hq : q + 1 ≤ 900000) (hnid : ids.length < 65536) {l : List KV} (hk : RdBB w F (.slice KA kn kc) (ksL l)) (hv : RdBB w F (.slice VA vn vc) (vsL l)) (hni : RdI w F (.slice NA nn nc) []) (hF : ∀ b, F b → ¬ T b) (hg : GoodKV l) (hs : sizeKV l ≤ 707) :
    Calls Tryz.prog 130 #[.pointer (some ⟨gt, 0, none⟩), .int .i64 (id : Int), .agg #[.bool true, .slice KA kn kc, .slice VA vn vc, .slice NA nn nc]] w fun e w' => (e = .returned (.tuple #[.slice none 0 0, .int .i64 (-1), .int .i64 0]) ∧ sizeKV l ≤ 512 ∧ TS w' (Ext T w w') g hand pre (q + 1) ids (upd ct id (pageKV l)) ∧ Chg T w w') ∨ (∃ T' : Nat → Prop, ∃ (j o : Nat) (ids' : List Nat) (kv : Value) (key : List UInt8), 1 ≤ j ∧ j ≤ l.length - 1 ∧ sizeKV (l.take j) ≤ 512 ∧ sizeKV (l.drop j) ≤ 512 ∧ (ksL l)[j]? = some key ∧ e = .returned (.tuple #[kv, .int .i64 (o : Int), .int .i64 0]) ∧ StOut w T g hand pre q ids ct id (pageKV (l.take j)) (pageKV (l.drop j)) key kv o ids' w' T') := by
  have hr := Blk.new w 125 #[.bool true, .slice KA kn kc, .slice VA vn vc, .slice NA nn nc]
  have hcr := (Chg.refl Non w).alloc (.cells #[.bool true, .slice KA kn kc, .slice VA vn vc, .slice NA nn nc] 125)
  have hnr := sizeAl' w (.cells #[.bool true, .slice KA kn kc, .slice VA vn vc, .slice NA nn nc] 125)

  have HRD := hide (And.intro hk.lt (And.intro hv.lt hni.lt))
  have hsz := lfSizeN (NA := NA) (nn := nn) (nc := nc) (HRD.out.1.c0 hcr) (HRD.out.2.1.c0 hcr) (by rw [← size_split]; omega)
  rw [← size_split] at hsz
  have hTl := hS.lt
  obtain ⟨sz, hsze⟩ : ∃ sz, sz = sizeKV l := ⟨_, rfl⟩
  rw [← hsze] at hsz
  have HSZ := hide hsze
  have hsz707 : sz ≤ 707 := by omega
  clear hsze hk hv hni 
  go_enter Tryz.func130, Tryz.ntmps130
  go_upto_region 1 with fail
  have HRD1 := hide (And.intro (HRD.out.1.c0 hcr) (And.intro (HRD.out.2.1.c0 hcr) (HRD.out.2.2.c0 hcr)))
  obtain ⟨N, hN⟩ : ∃ N, N = w.heap.size := ⟨_, rfl⟩
  have hS1 := hS.c0 hcr
  have hb1 := hb.c0 hcr
  rw [← hN] at hr hnr ⊢
  have HN := hide (And.intro hN hnr)
  have HS := hide hS1
  have HBT := hide hb1
  have HC1 := hide hcr
  have HR := hide hr
  have HTL := hide hTl
  obtain ⟨⟨b0, b1, b2, b3⟩, _⟩ := blk4 hr
  clear hS hb hN hnr hS1 hb1 hr hcr hTl HRD
  generalize World.alloc w _ = w1 at HS HBT HC1 HN HR hsz b0 b1 b2 b3 HRD1 ⊢
  go_wp2_with fail
  refine hsz.mono ?_
  rintro e wS ⟨rfl, hcs⟩
  obtain ⟨⟨b0', b1', b2', b3'⟩, _⟩ := blk4 (HR.out.c0 hcs)
  clear hsz b0 b1 b2 b3
  by_cases hfit : sz ≤ 512
  · have hd : decide ((sz : Int) ≤ 512) = true := decide_eq_true (by omega)
    have hsv := tSaveL (HS.out.c0 hcs) (HBT.out.c0 hcs) hgt hi (by omega) (HRD1.out.1.c0 hcs) (HRD1.out.2.1.c0 hcs) (HRD1.out.2.2.c0 hcs) hg (by rw [← HSZ.out]; exact hfit)
    have HF := hide (show sizeKV l ≤ 512 by rw [← HSZ.out]; exact hfit)
    have HCS := hide (HC1.out.trans0 hcs)
    clear hcs hs hg hF HRD1
    go_wp2_with fail
    refine hsv.mono ?_
    rintro e w3 ⟨rfl, hS3, hc3⟩
    have n1 := HCS.out.size
    have n3 := hc3.size
    have hC : Chg T w w3 := (HCS.out.mono fun _ _ h => h.elim).trans hc3 fun _ _ h => h
    have hS3' : TS w3 (Ext T w w3) g hand pre (q + 1) ids (upd ct id (pageKV l)) := hS3.up (fun b hb => hb.back n1) (fun b hb => by
      rcases hb with h | h
      · have := HTL.out b h; omega
      · exact h.2)
    have HX := hide (And.intro HF.out (And.intro hS3' hC))
    clear hsv hS3 hc3 hC hS3' n1 n3
    go_wp2_with fail
    go_ret3
    exact .inl ⟨rfl, HX.out⟩
  · have hd : decide ((sz : Int) ≤ 512) = false := decide_eq_false (by omega)
    have HBIG := hide (show 512 < sizeKV l by rw [← HSZ.out]; omega)
    have hsp := lfSplit (NA := NA) (nn := nn) (nc := nc) (HRD1.out.1.c0 hcs) (HRD1.out.2.1.c0 hcs) (by rw [vsL_length, ksL_length]) ⟨fun x hx => by obtain ⟨p, hp, rfl⟩ := List.mem_map.1 hx; have := (hg.len p hp).1; omega, fun x hx => by obtain ⟨p, hp, rfl⟩ := List.mem_map.1 hx; have := (hg.len p hp).2; omega⟩ (by rw [ksL_length]; have := big_three hg HBIG.out; omega) (by rw [← size_split]; omega) (by rw [ksL_length]; have := len_le_size l; omega)
    have HCS := hide hcs
    clear hcs
    go_upto_region 4 with (go_at_call 156; refine hsp.mono ?_; rintro e w2 ⟨j, A1, m1, k1, B1, n1, l1, D1, o1, r1, A2, m2, k2, B2, n2, l2, D2, o2, r2, y, ke, hj1, hj2, hbest, rfl, hA, hB, hke, hy, hc2⟩)
    obtain ⟨YA, yn, yc, rfl⟩ : ∃ A n c, y = .slice A n c := by obtain ⟨A, c, h, _, _⟩ := hy.shape; exact ⟨A, _, c, h⟩
    have hp := Blk.new w2 125 #[.bool true, .slice A1 m1 k1, .slice B1 n1 l1, .slice D1 o1 r1]
    have hcp := (Chg.refl Non w2).alloc (.cells #[.bool true, .slice A1 m1 k1, .slice B1 n1 l1, .slice D1 o1 r1] 125)
    have hnp := sizeAl' w2 (.cells #[.bool true, .slice A1 m1 k1, .slice B1 n1 l1, .slice D1 o1 r1] 125)
    obtain ⟨g1, hg1⟩ : ∃ g, g = w2.heap.size := ⟨_, rfl⟩
    rw [← hg1] at hp hnp ⊢
    generalize World.alloc w2 _ = w2a at hp hcp hnp ⊢
    have hp2 := Blk.new w2a 125 #[.bool true, .slice A2 m2 k2, .slice B2 n2 l2, .slice D2 o2 r2]
    have hcp2 := (Chg.refl Non w2a).alloc (.cells #[.bool true, .slice A2 m2 k2, .slice B2 n2 l2, .slice D2 o2 r2] 125)
    have hnp2 := sizeAl' w2a (.cells #[.bool true, .slice A2 m2 k2, .slice B2 n2 l2, .slice D2 o2 r2] 125)
    rw [hnp] at hp2 hnp2
    have hp1 := hp.c0 hcp2
    have hc02 := (hc2.trans0 hcp).trans0 hcp2
    generalize World.alloc w2a _ = w3 at hp1 hp2 hcp2 hnp2 hc02 ⊢
    obtain ⟨g2, hg2⟩ : ∃ g, g = g1 + 1 := ⟨_, rfl⟩
    rw [← hg2] at hp2 hnp2 ⊢
    have hN := HN.out
    have hn1 := HCS.out.size
    have hn2 := hc2.size
    have hcA : Chg Non w w3 := (HC1.out.trans0 HCS.out).trans0 hc02
    have hPQ : ∀ b, ((((F b ∧ b < w.heap.size) ∨ wS.heap.size ≤ b) ∧ b < w2.heap.size) → (¬ T b ∧ b < w3.heap.size)) := fun b hb => by
      refine ⟨fun hT => ?_, by omega⟩
      rcases hb.1 with h | h
      · exact hF b h.1 hT
      · have := HTL.out b hT; omega
    have hfit := cutL_fits hg HBIG.out hs hbest
    have hj2 : j ≤ l.length - 1 := by rw [ksL_length] at hj2; exact hj2
    have ea : (((ksL l).drop 0).take (j - 0)) = ksL (l.take j) ∧ (((vsL l).drop 0).take (j - 0)) = vsL (l.take j) := ⟨by rw [List.drop_zero, Nat.sub_zero, ksL_take], by rw [List.drop_zero, Nat.sub_zero, vsL_take]⟩
    have eb : (((ksL l).drop j).take ((ksL l).length - j)) = ksL (l.drop j) ∧ (((vsL l).drop j).take ((ksL l).length - j)) = vsL (l.drop j) := ⟨by rw [List.take_of_length_le (by rw [List.length_drop]; exact Nat.le_refl _), ksL_drop], by rw [List.take_of_length_le (by rw [List.length_drop, vsL_length, ksL_length]; exact Nat.le_refl _), vsL_drop]⟩
    obtain ⟨a1, a2, a3⟩ := hA
    obtain ⟨b1, b2, b3⟩ := hB
    simp only [ea.1, ea.2] at a1 a2 a3
    simp only [eb.1, eb.2] at b1 b2 b3
    have a1 := ((a1.c0 hcp).c0 hcp2).mono fun b hb => hPQ b ⟨hb.1.imp_left fun h => ⟨h.1.1, h.1.2⟩, hb.2⟩
    have a2 := ((a2.c0 hcp).c0 hcp2).mono fun b hb => hPQ b ⟨hb.1.imp_left fun h => ⟨h.1.1, h.1.2⟩, hb.2⟩
    have a3 := ((a3.c0 hcp).c0 hcp2).mono fun b hb => hPQ b ⟨hb.1.imp_left fun h => ⟨h.1.1, h.1.2⟩, hb.2⟩
    have b1 := ((b1.c0 hcp).c0 hcp2).mono fun b hb => hPQ b ⟨hb.1.imp_left fun h => ⟨h.1.1, h.1.2⟩, hb.2⟩
    have b2 := ((b2.c0 hcp).c0 hcp2).mono fun b hb => hPQ b ⟨hb.1.imp_left fun h => ⟨h.1.1, h.1.2⟩, hb.2⟩
    have b3 := ((b3.c0 hcp).c0 hcp2).mono fun b hb => hPQ b ⟨hb.1.imp_left fun h => ⟨h.1.1, h.1.2⟩, hb.2⟩
    have hy3 := ((hy.c0 hcp).c0 hcp2).mono (F' := fun b => w.heap.size ≤ b ∧ b < w3.heap.size) fun b hb => ⟨by omega, by omega⟩
    have hS3 := (HS.out.c0 HCS.out).c0 hc02
    have hb3 := (HBT.out.c0 HCS.out).c0 hc02
    have hal := tAlloc hS3 hnid
    have k0 : w3.cell? ⟨gt, 0, none⟩ = some (.pointer (some ⟨g, 0, none⟩)) := hb3.cell 0
    have hN3 : w.heap.size ≤ g1 ∧ g2 < w3.heap.size ∧ g2 = g1 + 1 ∧ gt < w3.heap.size := ⟨by omega, by omega, hg2, hb3.lt⟩
    have HA := hide (And.intro a1 (And.intro a2 a3))
    have HB := hide (And.intro b1 (And.intro b2 b3))
    have HY := hide hy3
    have HP1 := hide hp1
    have HP2 := hide hp2
    have HB3 := hide hb3
    have HCA := hide hcA
    have HN3 := hide hN3
    have HT3 := hide hS3.lt
    clear b0' b1' b2' b3' hsp hp hcp hnp hp1 hp2 hcp2 hnp2 hc02 hg1 hg2 hN hn1 hn2 hcA hPQ a1 a2 a3 b1 b2 b3 hy3 hy hS3 hb3 hN3 hc2 HS HBT HC1 HN HR HRD1 HCS HSZ hd
    go_wp2_with fail
    refine hal.mono ?_
    rintro e w4 ⟨o, ids4, rfl, ho1, ho2, ho3, ho4, hS4, hc4⟩
    have hTn : ∀ b, w.heap.size ≤ b → ¬ T b := fun b hb h => by have := HTL.out b h; omega
    have hp14 := HP1.out.chg hc4 (hTn _ HN3.out.1)
    have hp24 := HP2.out.chg hc4 (hTn _ (by have := HN3.out; omega))
    have hgt4 := HB3.out.chg hc4 hgt
    have a4 := And.intro (HA.out.1.chg hc4 fun b hb => hb.1) (And.intro (HA.out.2.1.chg hc4 fun b hb => hb.1) (HA.out.2.2.chg hc4 fun b hb => hb.1))
    have b4 := And.intro (HB.out.1.chg hc4 fun b hb => hb.1) (And.intro (HB.out.2.1.chg hc4 fun b hb => hb.1) (HB.out.2.2.chg hc4 fun b hb => hb.1))
    have y4 := HY.out.chg hc4 fun b hb => hTn b hb.1
    have n34 := hc4.size
    have hsv := tSaveL hS4 hgt4 hgt ((ho3 id).2 (.inr hi)) (by omega) a4.1 a4.2.1 a4.2.2 (hg.take j) hfit.1
    obtain ⟨⟨q0, q1, q2, q3⟩, _⟩ := blk4 hp14
    have HA4 := hide b4
    have HY4 := hide y4
    have HP4 := hide hp24
    have HB4 := hide hgt4
    have HO := hide (And.intro ho1 (And.intro ho2 (And.intro ho3 ho4)))
    have HC4 := hide hc4
    have HN4 := hide n34
    have HTN := hide hTn
    clear hal k0 hTn hp14 hp24 hgt4 a4 b4 y4 n34 ho1 ho2 ho3 ho4 hS4 hc4 HA HB HY HP1 HP2 HB3
    go_wp2_with fail
    refine hsv.mono ?_
    rintro e w5 ⟨rfl, hS5, hc5⟩
    have n3 := HN4.out
    have hn3 := HN3.out
    have hT3 := HT3.out
    have hT5 : ∀ b, b < w3.heap.size → ¬ T b → ¬ Ext T w4 w5 b := fun b h1 h2 h => h.elim h2 fun h => by omega
    have hp25 := HP4.out.chg hc5 (HTN.out _ (by omega))
    have hgt5 := HB4.out.chg hc5 hgt
    have b5 := And.intro (HA4.out.1.chg hc5 fun b hb => hb.1) (And.intro (HA4.out.2.1.chg hc5 fun b hb => hb.1) (HA4.out.2.2.chg hc5 fun b hb => hb.1))
    have y5 := HY4.out.chg hc5 fun b hb => HTN.out b hb.1
    have gt3 : gt < w3.heap.size := hn3.2.2.2
    have hsv2 := tSaveL hS5 hgt5 (hT5 gt gt3 hgt) ((HO.out.2.2.1 o).2 (.inl rfl)) (by omega) b5.1 b5.2.1 b5.2.2 (hg.drop j) hfit.2
    obtain ⟨⟨q0', q1', q2', q3'⟩, _⟩ := blk4 hp25
    have HY5 := hide (y5.mono (F' := fun b => w.heap.size ≤ b ∧ ¬ Ext T w4 w5 b ∧ b < w3.heap.size) fun b hb => ⟨hb.1, hT5 b hb.2 (HTN.out b hb.1), hb.2⟩)
    have HC5 := hide hc5
    clear hsv q0 q1 q2 q3 n3 hn3 hT5 hp25 hgt5 b5 y5 hS5 hc5 HP4 HB4 HA4 HY4 hT3
    go_wp2_with fail
    refine hsv2.mono ?_
    rintro e w6 ⟨rfl, hS6, hc6⟩
    have n34 := HN4.out
    have n45 := HC5.out.size
    have n56 := hc6.size
    have n3 := HCA.out.size
    have hne : o ≠ id := fun h => HO.out.1 (h ▸ hi)
    have hT6 : ∀ b, Ext (Ext T w4 w5) w5 w6 b → Ext T w w6 b := fun b hb => (Ext.trans n45 n56 hb).back (by omega)
    rw [upd_swap hne] at hS6
    have hout : StOut w T g hand pre q ids ct id (pageKV (l.take j)) (pageKV (l.drop j)) ke (.slice YA yn yc) o ids4 w6 (Ext (Ext T w4 w5) w5 w6) :=
      ⟨hS6, hT6, (((HCA.out.mono fun _ _ h => h.elim).trans HC4.out fun _ _ h => h).trans HC5.out fun _ _ h => h).trans hc6 fun b hb h => h.elim (fun x => x) fun h => by omega, HO.out.1, HO.out.2.1, HO.out.2.2.1, HO.out.2.2.2,
       (HY5.out.chg hc6 fun b hb => hb.2.1).mono fun b hb => ⟨hb.1, fun h => h.elim hb.2.1 fun h => by omega, by omega⟩⟩
    have HOUT := hide hout
    clear hsv2 q0' q1' q2' q3' n34 n45 n56 n3 hne hT6 hout hS6 hc6 HC5 HC4 HO HY5 HCA
    go_wp2_with fail
    go_ret3
    exact .inr ⟨Ext (Ext T w4 w5) w5 w6, j, o, ids4, .slice YA yn yc, ke, hj1, hj2, hfit.1, hfit.2, hke, rfl, HOUT.out⟩
set_option maxHeartbeats 16000000 in
theorem tStoreI {F : Nat → Prop} {KA VA NA : Option Addr} {kn kc vn vc nn nc : Nat} (hS : TS w T g hand pre q ids ct) (hb : Blk w gt 121 #[.pointer (some ⟨g, 0, none⟩), .int .i64 root]) (hgt : ¬ T gt) (hi : id ∈ ids) (hq : q + 1 ≤ 900000) (hnid : ids.length < 65536) {ks : List (List UInt8)} {kd : List Nat} (hk : RdBB w F (.slice KA kn kc) ks) (hv : RdBB w F (.slice VA vn vc) []) (hni : RdI w F (.slice NA nn nc) (izs kd)) (hF : ∀ b, F b → ¬ T b) (hn : kd.length = ks.length + 1) (hz : ∀ x ∈ kd, x ≤ 65535) (hup : UpK ks) (h64 : ∀ x ∈ ks, x.length ≤ 64) (hs : sizeIn ks kd.length ≤ 579) :
    Calls Tryz.prog 130 #[.pointer (some ⟨gt, 0, none⟩), .int .i64 (id : Int), .agg #[.bool false, .slice KA kn kc, .slice VA vn vc, .slice NA nn nc]] w fun e w' => (e = .returned (.tuple #[.slice none 0 0, .int .i64 (-1), .int .i64 0]) ∧ sizeIn ks kd.length ≤ 512 ∧ TS w' (Ext T w w') g hand pre (q + 1) ids (upd ct id (pageIn ks kd)) ∧ Chg T w w') ∨ (∃ T' : Nat → Prop, ∃ (j o : Nat) (ids' : List Nat) (kv : Value) (key : List UInt8), 1 ≤ j ∧ j + 2 ≤ ks.length ∧ sizeIn (ks.take j) (j + 1) ≤ 512 ∧ sizeIn (ks.drop (j + 1)) (ks.length - j) ≤ 512 ∧ ks[j]? = some key ∧ e = .returned (.tuple #[kv, .int .i64 (o : Int), .int .i64 0]) ∧ StOut w T g hand pre q ids ct id (pageIn (ks.take j) (kd.take (j + 1))) (pageIn (ks.drop (j + 1)) (kd.drop (j + 1))) key kv o ids' w' T') := by
  have hr := Blk.new w 125 #[.bool false, .slice KA kn kc, .slice VA vn vc, .slice NA nn nc]
  have hcr := (Chg.refl Non w).alloc (.cells #[.bool false, .slice KA kn kc, .slice VA vn vc, .slice NA nn nc] 125)
  have hnr := sizeAl' w (.cells #[.bool false, .slice KA kn kc, .slice VA vn vc, .slice NA nn nc] 125)
  have enn : nn = kd.length := by obtain ⟨_, _, e, _, _⟩ := hni.shape; injection e with _ e _; rw [e, izs_len]
  have HRD := hide (And.intro hk.lt (And.intro hv.lt hni.lt))
  have hsz := inSize (VA := VA) (vn := vn) (vc := vc) (NA := NA) (nn := nn) (nc := nc) (HRD.out.1.c0 hcr) (by rw [enn]; omega)
  skip
  have hTl := hS.lt
  obtain ⟨sz, hsze⟩ : ∃ sz, sz = sizeIn ks kd.length := ⟨_, rfl⟩
  rw [show sizeIn ks nn = sz by rw [hsze, enn]] at hsz
  have HSZ := hide hsze
  have hsz707 : sz ≤ 707 := by omega
  clear hsze hk hv hni enn
  go_enter Tryz.func130, Tryz.ntmps130
  go_upto_region 1 with fail
  have HRD1 := hide (And.intro (HRD.out.1.c0 hcr) (And.intro (HRD.out.2.1.c0 hcr) (HRD.out.2.2.c0 hcr)))
  obtain ⟨N, hN⟩ : ∃ N, N = w.heap.size := ⟨_, rfl⟩
  have hS1 := hS.c0 hcr
  have hb1 := hb.c0 hcr
  rw [← hN] at hr hnr ⊢
  have HN := hide (And.intro hN hnr)
  have HS := hide hS1
  have HBT := hide hb1
  have HC1 := hide hcr
  have HR := hide hr
  have HTL := hide hTl
  obtain ⟨⟨b0, b1, b2, b3⟩, _⟩ := blk4 hr
  clear hS hb hN hnr hS1 hb1 hr hcr hTl HRD
  generalize World.alloc w _ = w1 at HS HBT HC1 HN HR hsz b0 b1 b2 b3 HRD1 ⊢
  go_wp2_with fail
  refine hsz.mono ?_
  rintro e wS ⟨rfl, hcs⟩
  obtain ⟨⟨b0', b1', b2', b3'⟩, _⟩ := blk4 (HR.out.c0 hcs)
  clear hsz b0 b1 b2 b3
  by_cases hfit : sz ≤ 512
  · have hd : decide ((sz : Int) ≤ 512) = true := decide_eq_true (by omega)
    have hsv := tSaveI (HS.out.c0 hcs) (HBT.out.c0 hcs) hgt hi (by omega) (HRD1.out.1.c0 hcs) (HRD1.out.2.1.c0 hcs) (HRD1.out.2.2.c0 hcs) hn hz hup h64 (by rw [← HSZ.out]; exact hfit)
    have HF := hide (show sizeIn ks kd.length ≤ 512 by rw [← HSZ.out]; exact hfit)
    have HCS := hide (HC1.out.trans0 hcs)
    clear hcs hs hn hz hup h64 hF HRD1
    go_wp2_with fail
    refine hsv.mono ?_
    rintro e w3 ⟨rfl, hS3, hc3⟩
    have n1 := HCS.out.size
    have n3 := hc3.size
    have hC : Chg T w w3 := (HCS.out.mono fun _ _ h => h.elim).trans hc3 fun _ _ h => h
    have hS3' : TS w3 (Ext T w w3) g hand pre (q + 1) ids (upd ct id (pageIn ks kd)) := hS3.up (fun b hb => hb.back n1) (fun b hb => by
      rcases hb with h | h
      · have := HTL.out b h; omega
      · exact h.2)
    have HX := hide (And.intro HF.out (And.intro hS3' hC))
    clear hsv hS3 hc3 hC hS3' n1 n3
    go_wp2_with fail
    go_ret3
    exact .inl ⟨rfl, HX.out⟩
  · have hd : decide ((sz : Int) ≤ 512) = false := decide_eq_false (by omega)
    have HBIG := hide (show 512 < sizeIn ks kd.length by rw [← HSZ.out]; omega)
    have hsp := inSplit (VA := VA) (vn := vn) (vc := vc) (HRD1.out.1.c0 hcs) (HRD1.out.2.2.c0 hcs) (by rw [izs_len, hn]) (fun x hx => by have := h64 x hx; omega) (cutI_fits h64 (by rw [← hn]; exact HBIG.out) (by rw [← hn]; exact hs)).1 (by have := sizeIn_sK ks kd.length; omega) (by have := sizeIn_sK ks kd.length; have := sK_ge ks; omega)
    have HCS := hide hcs
    clear hcs
    go_upto_region 4 with (go_at_call 156; refine hsp.mono ?_; rintro e w2 ⟨j, A1, m1, k1, B1, n1, l1, D1, o1, r1, A2, m2, k2, B2, n2, l2, D2, o2, r2, y, ke, hj1, hj2, hbest, rfl, hA, hB, hke, hy, hc2⟩)
    obtain ⟨YA, yn, yc, rfl⟩ : ∃ A n c, y = .slice A n c := by obtain ⟨A, c, h, _, _⟩ := hy.shape; exact ⟨A, _, c, h⟩
    have hp := Blk.new w2 125 #[.bool false, .slice A1 m1 k1, .slice B1 n1 l1, .slice D1 o1 r1]
    have hcp := (Chg.refl Non w2).alloc (.cells #[.bool false, .slice A1 m1 k1, .slice B1 n1 l1, .slice D1 o1 r1] 125)
    have hnp := sizeAl' w2 (.cells #[.bool false, .slice A1 m1 k1, .slice B1 n1 l1, .slice D1 o1 r1] 125)
    obtain ⟨g1, hg1⟩ : ∃ g, g = w2.heap.size := ⟨_, rfl⟩
    rw [← hg1] at hp hnp ⊢
    generalize World.alloc w2 _ = w2a at hp hcp hnp ⊢
    have hp2 := Blk.new w2a 125 #[.bool false, .slice A2 m2 k2, .slice B2 n2 l2, .slice D2 o2 r2]
    have hcp2 := (Chg.refl Non w2a).alloc (.cells #[.bool false, .slice A2 m2 k2, .slice B2 n2 l2, .slice D2 o2 r2] 125)
    have hnp2 := sizeAl' w2a (.cells #[.bool false, .slice A2 m2 k2, .slice B2 n2 l2, .slice D2 o2 r2] 125)
    rw [hnp] at hp2 hnp2
    have hp1 := hp.c0 hcp2
    have hc02 := (hc2.trans0 hcp).trans0 hcp2
    generalize World.alloc w2a _ = w3 at hp1 hp2 hcp2 hnp2 hc02 ⊢
    obtain ⟨g2, hg2⟩ : ∃ g, g = g1 + 1 := ⟨_, rfl⟩
    rw [← hg2] at hp2 hnp2 ⊢
    have hN := HN.out
    have hn1 := HCS.out.size
    have hn2 := hc2.size
    have hcA : Chg Non w w3 := (HC1.out.trans0 HCS.out).trans0 hc02
    have hPQ : ∀ b, ((((F b ∧ b < w.heap.size) ∨ wS.heap.size ≤ b) ∧ b < w2.heap.size) → (¬ T b ∧ b < w3.heap.size)) := fun b hb => by
      refine ⟨fun hT => ?_, by omega⟩
      rcases hb.1 with h | h
      · exact hF b h.1 hT
      · have := HTL.out b hT; omega
    have hfit := (cutI_fits h64 (by rw [← hn]; exact HBIG.out) (by rw [← hn]; exact hs)).2 hj1 hj2 hbest
    have hj3 : j + 2 ≤ ks.length := by have := (cutI_fits h64 (by rw [← hn]; exact HBIG.out) (by rw [← hn]; exact hs)).1; omega
    have ea : ((ks.drop 0).take (j - 0)) = ks.take j ∧ (((izs kd).drop 0).take (j + 1 - 0)) = izs (kd.take (j + 1)) := ⟨by rw [List.drop_zero, Nat.sub_zero], by rw [List.drop_zero, Nat.sub_zero]; simp [izs, List.map_take]⟩
    have eb : ((ks.drop (j + 1)).take (ks.length - (j + 1))) = ks.drop (j + 1) ∧ (((izs kd).drop (j + 1)).take (ks.length - j)) = izs (kd.drop (j + 1)) := ⟨List.take_of_length_le (by rw [List.length_drop]; exact Nat.le_refl _), by rw [List.take_of_length_le (by rw [List.length_drop, izs_len, hn]; omega)]; simp [izs, List.map_drop]⟩
    obtain ⟨a1, a2, a3⟩ := hA
    obtain ⟨b1, b2, b3⟩ := hB
    simp only [ea.1, ea.2] at a1 a2 a3
    simp only [eb.1, eb.2] at b1 b2 b3
    have a1 := ((a1.c0 hcp).c0 hcp2).mono fun b hb => hPQ b ⟨hb.1.imp_left fun h => ⟨h.1.1, h.1.2⟩, hb.2⟩
    have a2 := ((a2.c0 hcp).c0 hcp2).mono fun b hb => hPQ b ⟨hb.1.imp_left fun h => ⟨h.1.1, h.1.2⟩, hb.2⟩
    have a3 := ((a3.c0 hcp).c0 hcp2).mono fun b hb => hPQ b ⟨hb.1.imp_left fun h => ⟨h.1.1, h.1.2⟩, hb.2⟩
    have b1 := ((b1.c0 hcp).c0 hcp2).mono fun b hb => hPQ b ⟨hb.1.imp_left fun h => ⟨h.1.1, h.1.2⟩, hb.2⟩
    have b2 := ((b2.c0 hcp).c0 hcp2).mono fun b hb => hPQ b ⟨hb.1.imp_left fun h => ⟨h.1.1, h.1.2⟩, hb.2⟩
    have b3 := ((b3.c0 hcp).c0 hcp2).mono fun b hb => hPQ b ⟨hb.1.imp_left fun h => ⟨h.1.1, h.1.2⟩, hb.2⟩
    have hy3 := ((hy.c0 hcp).c0 hcp2).mono (F' := fun b => w.heap.size ≤ b ∧ b < w3.heap.size) fun b hb => ⟨by omega, by omega⟩
    have hS3 := (HS.out.c0 HCS.out).c0 hc02
    have hb3 := (HBT.out.c0 HCS.out).c0 hc02
    have hal := tAlloc hS3 hnid
    have k0 : w3.cell? ⟨gt, 0, none⟩ = some (.pointer (some ⟨g, 0, none⟩)) := hb3.cell 0
    have hN3 : w.heap.size ≤ g1 ∧ g2 < w3.heap.size ∧ g2 = g1 + 1 ∧ gt < w3.heap.size := ⟨by omega, by omega, hg2, hb3.lt⟩
    have HA := hide (And.intro a1 (And.intro a2 a3))
    have HB := hide (And.intro b1 (And.intro b2 b3))
    have HY := hide hy3
    have HP1 := hide hp1
    have HP2 := hide hp2
    have HB3 := hide hb3
    have HCA := hide hcA
    have HN3 := hide hN3
    have HT3 := hide hS3.lt
    clear b0' b1' b2' b3' hsp hp hcp hnp hp1 hp2 hcp2 hnp2 hc02 hg1 hg2 hN hn1 hn2 hcA hPQ a1 a2 a3 b1 b2 b3 hy3 hy hS3 hb3 hN3 hc2 HS HBT HC1 HN HR HRD1 HCS HSZ hd
    go_wp2_with fail
    refine hal.mono ?_
    rintro e w4 ⟨o, ids4, rfl, ho1, ho2, ho3, ho4, hS4, hc4⟩
    have hTn : ∀ b, w.heap.size ≤ b → ¬ T b := fun b hb h => by have := HTL.out b h; omega
    have hp14 := HP1.out.chg hc4 (hTn _ HN3.out.1)
    have hp24 := HP2.out.chg hc4 (hTn _ (by have := HN3.out; omega))
    have hgt4 := HB3.out.chg hc4 hgt
    have a4 := And.intro (HA.out.1.chg hc4 fun b hb => hb.1) (And.intro (HA.out.2.1.chg hc4 fun b hb => hb.1) (HA.out.2.2.chg hc4 fun b hb => hb.1))
    have b4 := And.intro (HB.out.1.chg hc4 fun b hb => hb.1) (And.intro (HB.out.2.1.chg hc4 fun b hb => hb.1) (HB.out.2.2.chg hc4 fun b hb => hb.1))
    have y4 := HY.out.chg hc4 fun b hb => hTn b hb.1
    have n34 := hc4.size
    have hsv := tSaveI hS4 hgt4 hgt ((ho3 id).2 (.inr hi)) (by omega) a4.1 a4.2.1 a4.2.2 (by rw [List.length_take, List.length_take, hn]; omega) (fun x hx => hz x (List.mem_of_mem_take hx)) (hup.take j) (fun x hx => h64 x (List.mem_of_mem_take hx)) (by rw [show (kd.take (j + 1)).length = j + 1 by rw [List.length_take]; omega]; exact hfit.1)
    obtain ⟨⟨q0, q1, q2, q3⟩, _⟩ := blk4 hp14
    have HA4 := hide b4
    have HY4 := hide y4
    have HP4 := hide hp24
    have HB4 := hide hgt4
    have HO := hide (And.intro ho1 (And.intro ho2 (And.intro ho3 ho4)))
    have HC4 := hide hc4
    have HN4 := hide n34
    have HTN := hide hTn
    clear hal k0 hTn hp14 hp24 hgt4 a4 b4 y4 n34 ho1 ho2 ho3 ho4 hS4 hc4 HA HB HY HP1 HP2 HB3
    go_wp2_with fail
    refine hsv.mono ?_
    rintro e w5 ⟨rfl, hS5, hc5⟩
    have n3 := HN4.out
    have hn3 := HN3.out
    have hT3 := HT3.out
    have hT5 : ∀ b, b < w3.heap.size → ¬ T b → ¬ Ext T w4 w5 b := fun b h1 h2 h => h.elim h2 fun h => by omega
    have hp25 := HP4.out.chg hc5 (HTN.out _ (by omega))
    have hgt5 := HB4.out.chg hc5 hgt
    have b5 := And.intro (HA4.out.1.chg hc5 fun b hb => hb.1) (And.intro (HA4.out.2.1.chg hc5 fun b hb => hb.1) (HA4.out.2.2.chg hc5 fun b hb => hb.1))
    have y5 := HY4.out.chg hc5 fun b hb => HTN.out b hb.1
    have gt3 : gt < w3.heap.size := hn3.2.2.2
    have hsv2 := tSaveI hS5 hgt5 (hT5 gt gt3 hgt) ((HO.out.2.2.1 o).2 (.inl rfl)) (by omega) b5.1 b5.2.1 b5.2.2 (by rw [List.length_drop, List.length_drop, hn]; omega) (fun x hx => hz x (List.mem_of_mem_drop hx)) (hup.drop (j + 1)) (fun x hx => h64 x (List.mem_of_mem_drop hx)) (by rw [show (kd.drop (j + 1)).length = ks.length - j by rw [List.length_drop]; omega]; exact hfit.2)
    obtain ⟨⟨q0', q1', q2', q3'⟩, _⟩ := blk4 hp25
    have HY5 := hide (y5.mono (F' := fun b => w.heap.size ≤ b ∧ ¬ Ext T w4 w5 b ∧ b < w3.heap.size) fun b hb => ⟨hb.1, hT5 b hb.2 (HTN.out b hb.1), hb.2⟩)
    have HC5 := hide hc5
    clear hsv q0 q1 q2 q3 n3 hn3 hT5 hp25 hgt5 b5 y5 hS5 hc5 HP4 HB4 HA4 HY4 hT3
    go_wp2_with fail
    refine hsv2.mono ?_
    rintro e w6 ⟨rfl, hS6, hc6⟩
    have n34 := HN4.out
    have n45 := HC5.out.size
    have n56 := hc6.size
    have n3 := HCA.out.size
    have hne : o ≠ id := fun h => HO.out.1 (h ▸ hi)
    have hT6 : ∀ b, Ext (Ext T w4 w5) w5 w6 b → Ext T w w6 b := fun b hb => (Ext.trans n45 n56 hb).back (by omega)
    rw [upd_swap hne] at hS6
    have hout : StOut w T g hand pre q ids ct id (pageIn (ks.take j) (kd.take (j + 1))) (pageIn (ks.drop (j + 1)) (kd.drop (j + 1))) ke (.slice YA yn yc) o ids4 w6 (Ext (Ext T w4 w5) w5 w6) :=
      ⟨hS6, hT6, (((HCA.out.mono fun _ _ h => h.elim).trans HC4.out fun _ _ h => h).trans HC5.out fun _ _ h => h).trans hc6 fun b hb h => h.elim (fun x => x) fun h => by omega, HO.out.1, HO.out.2.1, HO.out.2.2.1, HO.out.2.2.2,
       (HY5.out.chg hc6 fun b hb => hb.2.1).mono fun b hb => ⟨hb.1, fun h => h.elim hb.2.1 fun h => by omega, by omega⟩⟩
    have HOUT := hide hout
    clear hsv2 q0' q1' q2' q3' n34 n45 n56 n3 hne hT6 hout hS6 hc6 HC5 HC4 HO HY5 HCA
    go_wp2_with fail
    go_ret3
    exact .inr ⟨Ext (Ext T w4 w5) w5 w6, j, o, ids4, .slice YA yn yc, ke, hj1, hj3, hfit.1, hfit.2, hke, rfl, HOUT.out⟩
end
end Go.Proofs.YtliimeoblffigaaGreat

