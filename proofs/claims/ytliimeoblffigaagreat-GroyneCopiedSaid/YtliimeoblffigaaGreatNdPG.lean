/- The walks of slices.BinarySearchFunc among keys (with pack.Compare), leaf.Find and btree's way. -/
import Derived.Test.YtliimeoblffigaaGreatNdAG
import Derived.Test.YtliimeoblffigaaGreatTrOG
import Derived.Test.YtliimeoblffigaaGreatInA
set_option linter.unusedVariables false
set_option linter.unusedSimpArgs false
set_option maxRecDepth 100000
namespace Go.Proofs.YtliimeoblffigaaGreat
open Go.RowKit
set_option linter.unusedVariables false
set_option linter.unusedSimpArgs false

set_option maxHeartbeats 8000000 in
theorem binSearch {w : World} {F G : Nat → Prop} {kv xv : Value} {ks : List (List UInt8)} {k : List UInt8} (hk : RdBB w F kv ks) (hx : RdB w G xv k) (hu : ks.Pairwise fun a b => cmpB a b < 0) (hl : ks.length ≤ 1000000) :
  Calls Tryz.prog 94 #[kv, xv, .func (.func 63) #[] #[]] w fun e w' => ∃ (i : Nat) (ok : Bool), e = .returned (.tuple #[.int .i64 (i : Int), .bool ok]) ∧ Fnd ks k i ok ∧ ∃ n, w' = w.drewN n := by
 obtain ⟨A, c, rfl, hcc, hcm⟩ := hk.shape
 obtain ⟨XA, xc, rfl, _, _⟩ := hx.shape
 unfold maxLen at hcm
 have HK := hide hk
 have HX := hide hx
 have HU := hide hu
 have HL := hide hl
 obtain ⟨kn, hkn⟩ : ∃ kn, kn = k.length := ⟨_, rfl⟩
 obtain ⟨n, hn⟩ : ∃ n, n = ks.length := ⟨_, rfl⟩
 rw [← hkn]
 rw [← hn] at hl hcc ⊢
 have HN := hide (And.intro hn hkn)
 clear hk hx hu hn hkn
 go_enter Tryz.func94, Tryz.ntmps94
 go_wp2_with fail
 go_loopw [9, 10] (fun iv jv wr => ∃ i j : Nat, i ≤ j ∧ j ≤ n ∧ iv = .int .i64 (i : Int) ∧ jv = .int .i64 (j : Int) ∧ (∀ (t : Nat) (x : List UInt8), t < i → ks[t]? = some x → cmpB x k < 0) ∧ (∀ (t : Nat) (x : List UInt8), j ≤ t → ks[t]? = some x → 0 ≤ cmpB x k) ∧ ∃ q, wr = w.drewN q) (fun iv jv _ => (intOf jv).toNat - (intOf iv).toNat)
 case atStart => exact ⟨0, n, Nat.zero_le _, Nat.le_refl _, rfl, rfl, fun t x h => by omega, fun t x h hx => by have := (List.getElem?_eq_some_iff.1 hx).1; have := HN.out.1; omega, 0, rfl⟩
 case round =>
  obtain ⟨i, j, hij, hjn, rfl, rfl, hlo, hhi, q, hq⟩ := hrel
  subst hq
  by_cases h2 : i < j
  ·obtain ⟨m, hm⟩ : ∃ m, m = (i + j) / 2 := ⟨_, rfl⟩
   have hmn : m < ks.length := by have := HN.out.1; omega
   obtain ⟨ad, x, eA, _, hc, hrx⟩ := (HK.out.dn q).at_ hmn
   subst eA
   obtain ⟨sm, hsm⟩ : ∃ sm, sm = i + j := ⟨_, rfl⟩
   have hw1 : IntKind.i64.wrap ((i : Int) + (j : Int)) = (sm : Int) := by rw [IntWalk.i64_in _ (by omega)]; omega
   have hw2 : IntKind.u64.wrap (sm : Int) = (sm : Int) := by show (sm : Int) % 18446744073709551616 = _; omega
   have hw3 : (sm : Int) / 2 = (m : Int) := by rw [hm, hsm]; omega
   have hw3' : IntKind.u64.wrap (m : Int) = (m : Int) := by show (m : Int) % 18446744073709551616 = _; omega
   have hw4 : IntKind.i64.wrap (m : Int) = (m : Int) := by rw [IntWalk.i64_in _ (by omega)]
   have hmn2 : m < n := by have := HN.out.1; omega
   have hsg : sm / 2 = m := by omega
   obtain ⟨ys, hys⟩ : ∃ ys, ys = ks[m] := ⟨_, rfl⟩
   rw [← hys] at hrx
   have hxk : RdB w G (.slice XA kn xc) k := by rw [HN.out.2]; exact HX.out
   have hcmp := packCompare hrx (hxk.dn q)
   obtain ⟨cv, hcv⟩ : ∃ cv, cv = cmpB ys k := ⟨_, rfl⟩
   rw [← hcv] at hcmp
   obtain ⟨yA, yc, rfl, _, _⟩ := hrx.shape
   have HM := hide (And.intro hm (And.intro hys hcv))
   have HLO := hide hlo
   have HHI := hide hhi
   have HIJ := hide (And.intro hij (And.intro hjn h2))
   clear hm hys hcv hsm hlo hhi hrx hxk
   go_wp2_with fail
   refine hcmp.mono ?_
   rintro e w1 ⟨rfl, q1, hq1⟩
   subst hq1
   clear hcmp
   have hup : ∀ (t : Nat) (y : List UInt8), ks[t]? = some y → (t < m → cmpB y ys < 0) ∧ (m < t → cmpB ys y < 0) := fun t y hy => by
    obtain ⟨ht, rfl⟩ := List.getElem?_eq_some_iff.1 hy
    rw [HM.out.2.1]
    exact ⟨fun h => List.pairwise_iff_getElem.1 HU.out t m ht hmn h, fun h => List.pairwise_iff_getElem.1 HU.out m t hmn ht h⟩
   have HUP := hide hup
   have hmv := HM.out.1
   clear hup
   by_cases hneg : cv < 0
   ·have hd : decide (cv < 0) = true := decide_eq_true hneg
    have hw5 : IntKind.i64.wrap ((m : Int) + 1) = ((m + 1 : Nat) : Int) := by rw [IntWalk.i64_in _ (by omega)]; omega
    obtain ⟨m1, hm1⟩ : ∃ m1, m1 = m + 1 := ⟨_, rfl⟩
    rw [← hm1] at hw5
    have HM1 := hide hm1
    have HNG := hide hneg
    clear hm1 hmv hsg hw1 hw2 hw3 hw3' hw4 hmn2 hl
    go_wp2_with fail
    go_roundw
    case rel =>
     have h1 := HM1.out
     have h2 := HM.out
     have h3 := HIJ.out
     refine ⟨m1, j, by omega, h3.2.1, rfl, rfl, fun t y ht hy => ?_, HHI.out, q + q1, ?_⟩
     ·by_cases e : t = m
      ·subst e
       obtain ⟨h5, rfl⟩ := List.getElem?_eq_some_iff.1 hy
       rw [← h2.2.1, ← h2.2.2]; exact HNG.out
      ·exact cmpB_trans ((HUP.out t y hy).1 (by omega)) (by rw [← h2.2.2]; exact HNG.out)
     ·trivial
    case measure => (have h1 := HM1.out; have h3 := HIJ.out; have h4 := HM.out.1; simp [intOf]; omega)
   ·have hd : decide (cv < 0) = false := decide_eq_false hneg
    have HNG := hide hneg
    clear hmv hsg hw1 hw2 hw3 hw3' hw4 hmn2 hl
    go_wp2_with fail
    go_roundw
    case rel =>
     have h2 := HM.out
     have h3 := HIJ.out
     refine ⟨i, m, by omega, by omega, rfl, rfl, HLO.out, fun t y ht hy => ?_, q + q1, ?_⟩
     ·by_cases e : t = m
      ·subst e
       obtain ⟨h5, rfl⟩ := List.getElem?_eq_some_iff.1 hy
       rw [← h2.2.1, ← h2.2.2]
       have := HNG.out
       omega
      ·have h6 := (HUP.out t y hy).2 (by omega)
       have h7 : 0 ≤ cmpB ys k := by rw [← h2.2.2]; have := HNG.out; omega
       have h8 := cmpB_neg ys k
       have h9 := cmpB_neg y k
       have h10 : cmpB k ys ≤ 0 := by omega
       have := cmpB_le_lt h10 h6
       omega
     ·trivial
    case measure => (have h3 := HIJ.out; have h4 := HM.out.1; simp [intOf]; omega)
  ·have hje : j = i := by omega
   subst hje
   have HLO := hide hlo
   have HHI := hide hhi
   by_cases hjl : j < n
   ·have hjk : j < ks.length := by have := HN.out.1; omega
    obtain ⟨ad, x, eA, _, hc, hrx⟩ := (HK.out.dn q).at_ hjk
    subst eA
    obtain ⟨ys, hys⟩ : ∃ ys, ys = ks[j] := ⟨_, rfl⟩
    rw [← hys] at hrx
    have hxk : RdB w G (.slice XA kn xc) k := by rw [HN.out.2]; exact HX.out
    have hcmp := packCompare hrx (hxk.dn q)
    obtain ⟨cv, hcv⟩ : ∃ cv, cv = cmpB ys k := ⟨_, rfl⟩
    rw [← hcv] at hcmp
    obtain ⟨yA, yc, rfl, _, _⟩ := hrx.shape
    have HM := hide (And.intro hys hcv)
    have HJ := hide hjk
    clear hlo hhi hxk hrx hys hcv hl
    go_wp2_with fail
    refine hcmp.mono ?_
    rintro e w1 ⟨rfl, q1, hq1⟩
    subst hq1
    clear hcmp
    go_wp2_with fail
    go_ret2
    refine ⟨j, cv == 0, rfl, ⟨by have := HN.out.1; omega, HLO.out, HHI.out, ?_⟩, q + q1, rfl⟩
    have h2 := HM.out
    rw [beq_iff_eq, h2.2, h2.1]
    exact ⟨fun h => ⟨_, List.getElem?_eq_getElem HJ.out, h⟩, fun ⟨x, hx, hz⟩ => by
     rw [List.getElem?_eq_getElem HJ.out] at hx
     rw [Option.some.inj hx]; exact hz⟩
   ·have hd : ¬ (j : Int) < (n : Int) := by omega
    clear hlo hhi hl
    go_wp2_with fail
    go_ret2
    have hnn := HN.out.1
    exact ⟨j, .inl ⟨rfl, ⟨by omega, HLO.out, HHI.out, ⟨fun h => (by cases h), fun ⟨x, hx, _⟩ => by have := (List.getElem?_eq_some_iff.1 hx).1; omega⟩⟩, q, rfl⟩⟩
/-- leaf.Find -/
theorem lfFind {w : World} {F G : Nat → Prop} {lf : Bool} {VA NA : Option Addr} {vn vc nn nc : Nat} {kv xv : Value} {ks : List (List UInt8)} {k : List UInt8} (hk : RdBB w F kv ks) (hx : RdB w G xv k) (hu : ks.Pairwise fun a b => cmpB a b < 0) (hl : ks.length ≤ 1000000) :
  Calls Tryz.prog 62 #[.agg #[.bool lf, kv, .slice VA vn vc, .slice NA nn nc], xv] w fun e w' => ∃ (i : Nat) (ok : Bool), e = .returned (.tuple #[.int .i64 (i : Int), .bool ok]) ∧ Fnd ks k i ok ∧ Chg Non w w' := by
 obtain ⟨A, c, rfl, _, _⟩ := hk.shape
 obtain ⟨XA, xc, rfl, _, _⟩ := hx.shape
 obtain ⟨n, hn⟩ : ∃ n, n = ks.length := ⟨_, rfl⟩
 have hcb := (Chg.refl Non w).alloc (.cells #[.bool lf, .slice A ks.length c, .slice VA vn vc, .slice NA nn nc] 125)
 have hb := Blk.new w 125 #[.bool lf, .slice A ks.length c, .slice VA vn vc, .slice NA nn nc]
 have hbs := binSearch (hk.c0 hcb) (hx.c0 hcb) hu hl
 have HC := hide hcb
 obtain ⟨b, hbe⟩ : ∃ b, b = w.heap.size := ⟨_, rfl⟩
 clear hk hx hu hl
 rw [← hn] at hb hcb hbs HC ⊢
 have hHC := HC.out
 clear HC hn
 go_enter Tryz.func62, Tryz.ntmps62
 go_upto_region 1 with fail
 rw [← hbe] at hb ⊢
 generalize World.alloc _ _ = w1 at hb hcb hbs hHC ⊢
 have b1 : w1.cell? ⟨b, 1, none⟩ = some (.slice A n c) := hb.cell 1
 have HC := hide hHC
 clear hbe hHC hcb hb
 go_wp2_with fail
 refine hbs.mono ?_
 rintro e w2 ⟨i, ok, rfl, hf, q, hq⟩
 have HF := hide hf
 have HQ := hide (HC.out.quiet ⟨q, hq⟩)
 clear hbs hf hq
 go_wp2_with fail
 go_ret2
 exact ⟨i, ok, rfl, HF.out, HQ.out⟩
end Go.Proofs.YtliimeoblffigaaGreat

set_option maxRecDepth 100000
namespace Go.Proofs.YtliimeoblffigaaGreat
open Go.RowKit
set_option linter.unusedVariables false
set_option linter.unusedSimpArgs false

section
variable {w w' w1 : World} {P : Nat → Prop} {base : Nat} {kv vv iv u : Value} {ks vs ks' vs' : List (List UInt8)} {ni ni' : List Int} {l : List UInt8}
theorem Th3.putK (h : Th3 w P base kv vv iv ks vs ni) (hu : OwnBB w' base (fun b => P b ∧ vv.ownBlock ≠ some b ∧ iv.ownBlock ≠ some b) u ks') (hc : Chg (fun k => kv.ownBlock = some k) w w') (hat : u.ownBlock = kv.ownBlock ∨ ∃ k, u.ownBlock = some k ∧ w.heap.size ≤ k) : Th3 w' P base u vv iv ks' vs ni := by
 refine ⟨hu, (h.v.fit.chg hc (fun b e e2 => h.nkv b e2 e) fun b hb e => hb.1.2.1 e).mono fun b hb => ⟨hb.1.1, fun e => ?_, hb.1.2.2⟩, h.i.chg hc fun b e e2 => h.nki b e2 e, fun b e => ?_, fun b e => ?_, h.nvi⟩
 ·rcases hat with hat | ⟨k, hat, hk⟩
  ·exact hb.1.2.1 (hat ▸ e)
  ·rw [hat] at e; injection e with e; have := hb.2; omega
 ·rcases hat with hat | ⟨k, hat, hk⟩
  ·exact h.nkv b (hat ▸ e)
  ·intro e2; rw [hat] at e; injection e with e; have := (h.v.lt b e2).2; omega
 ·rcases hat with hat | ⟨k, hat, hk⟩
  ·exact h.nki b (hat ▸ e)
  ·intro e2; rw [hat] at e; injection e with e; have := (h.i.lt b e2).2; omega
theorem Th3.putV (h : Th3 w P base kv vv iv ks vs ni) (hu : OwnBB w' base (fun b => P b ∧ kv.ownBlock ≠ some b ∧ iv.ownBlock ≠ some b) u vs') (hc : Chg (fun k => vv.ownBlock = some k) w w') (hat : u.ownBlock = vv.ownBlock ∨ ∃ k, u.ownBlock = some k ∧ w.heap.size ≤ k) : Th3 w' P base kv u iv ks vs' ni := by
 refine ⟨(h.k.fit.chg hc (fun b e e2 => h.nkv b e e2) fun b hb e => hb.1.2.1 e).mono fun b hb => ⟨hb.1.1, fun e => ?_, hb.1.2.2⟩, hu, h.i.chg hc fun b e e2 => h.nvi b e2 e, fun b e e2 => ?_, h.nki, fun b e => ?_⟩
 ·rcases hat with hat | ⟨k, hat, hk⟩
  ·exact hb.1.2.1 (hat ▸ e)
  ·rw [hat] at e; injection e with e; have := hb.2; omega
 ·rcases hat with hat | ⟨k, hat, hk⟩
  ·exact h.nkv b e (hat ▸ e2)
  ·rw [hat] at e2; injection e2 with e2; have := (h.k.lt b e).2; omega
 ·rcases hat with hat | ⟨k, hat, hk⟩
  ·exact h.nvi b (hat ▸ e)
  ·intro e2; rw [hat] at e; injection e with e; have := (h.i.lt b e2).2; omega
theorem Th3.putI (h : Th3 w P base kv vv iv ks vs ni) (hu : OwnI w' base u ni') (hc : Chg (fun k => iv.ownBlock = some k) w w') (hat : u.ownBlock = iv.ownBlock ∨ ∃ k, u.ownBlock = some k ∧ w.heap.size ≤ k) : Th3 w' P base kv vv u ks vs ni' := by
 have key : ∀ b, b < w.heap.size → iv.ownBlock ≠ some b → u.ownBlock ≠ some b := fun b hb h1 e => by
  rcases hat with hat | ⟨k, hat, hk⟩
  ·exact h1 (hat ▸ e)
  ·rw [hat] at e; injection e with e; omega
 refine ⟨(h.k.fit.chg hc (fun b e e2 => h.nki b e e2) fun b hb e => hb.1.2.2 e).mono fun b hb => ⟨hb.1.1, hb.1.2.1, key b hb.2 hb.1.2.2⟩, (h.v.fit.chg hc (fun b e e2 => h.nvi b e e2) fun b hb e => hb.1.2.2 e).mono fun b hb => ⟨hb.1.1, hb.1.2.1, key b hb.2 hb.1.2.2⟩, hu, h.nkv, fun b e => key b (h.k.lt b e).2 (h.nki b e), fun b e => key b (h.v.lt b e).2 (h.nvi b e)⟩
/-- bytes just made may be put into either list -/
theorem Th3.fresh (h : Th3 w1 P base kv vv iv ks vs ni) (hu : OwnB w w1.heap.size u l) (hP : ∀ b, w1.heap.size ≤ b → P b) :
  RdB w (fun b => (P b ∧ vv.ownBlock ≠ some b ∧ iv.ownBlock ≠ some b) ∧ b < w.heap.size ∧ kv.ownBlock ≠ some b) u l ∧ RdB w (fun b => (P b ∧ kv.ownBlock ≠ some b ∧ iv.ownBlock ≠ some b) ∧ b < w.heap.size ∧ vv.ownBlock ≠ some b) u l := by
 have h1 : ∀ b, u.ownBlock = some b → P b ∧ b < w.heap.size ∧ kv.ownBlock ≠ some b ∧ vv.ownBlock ≠ some b ∧ iv.ownBlock ≠ some b := fun b hb' => by
  have h2 := hu.lt b hb'
  exact ⟨hP b h2.1, h2.2, fun e => by have := h.k.lt b e; omega, fun e => by have := h.v.lt b e; omega, fun e => by have := h.i.lt b e; omega⟩
 exact ⟨hu.rd.mono fun b hb' => ⟨⟨(h1 b hb').1, (h1 b hb').2.2.2.1, (h1 b hb').2.2.2.2⟩, (h1 b hb').2.1, (h1 b hb').2.2.1⟩, hu.rd.mono fun b hb' => ⟨⟨(h1 b hb').1, (h1 b hb').2.2.1, (h1 b hb').2.2.2.2⟩, (h1 b hb').2.1, (h1 b hb').2.2.2.1⟩⟩
end
/-- btree's way: the kid in which a key stands -/
theorem btWay {w : World} {F G : Nat → Prop} {lf : Bool} {VA NA : Option Addr} {vn vc nn nc : Nat} {kv xv : Value} {ks : List (List UInt8)} {k : List UInt8} (hk : RdBB w F kv ks) (hx : RdB w G xv k) (hu : ks.Pairwise fun a b => cmpB a b < 0) (hl : ks.length ≤ 1000000) :
  Calls Tryz.prog 93 #[.agg #[.bool lf, kv, .slice VA vn vc, .slice NA nn nc], xv] w fun e w' => ∃ (i : Nat) (ok : Bool), e = .returned (.int .i64 ((if ok then i + 1 else i : Nat) : Int)) ∧ Fnd ks k i ok ∧ Chg Non w w' := by
 obtain ⟨A, c, rfl, _, _⟩ := hk.shape
 obtain ⟨XA, xc, rfl, _, _⟩ := hx.shape
 obtain ⟨n, hn⟩ : ∃ n, n = ks.length := ⟨_, rfl⟩
 have hcb := (Chg.refl Non w).alloc (.cells #[.bool lf, .slice A ks.length c, .slice VA vn vc, .slice NA nn nc] 125)
 have hb := Blk.new w 125 #[.bool lf, .slice A ks.length c, .slice VA vn vc, .slice NA nn nc]
 have hbs := lfFind (lf := lf) (VA := VA) (vn := vn) (vc := vc) (NA := NA) (nn := nn) (nc := nc) (hk.c0 hcb) (hx.c0 hcb) hu hl
 obtain ⟨b, hbe⟩ : ∃ b, b = w.heap.size := ⟨_, rfl⟩
 have HL := hide hl
 clear hk hx hu hl
 rw [← hn] at hb hcb hbs ⊢
 have HN := hide hn
 clear hn
 go_enter Tryz.func93, Tryz.ntmps93
 go_upto_region 1 with fail
 rw [← hbe] at hb ⊢
 generalize World.alloc _ _ = w1 at hb hcb hbs ⊢
 have b0 : w1.cell? ⟨b, 0, none⟩ = some (.bool lf) := hb.cell 0
 have b1 : w1.cell? ⟨b, 1, none⟩ = some (.slice A n c) := hb.cell 1
 have b2 : w1.cell? ⟨b, 2, none⟩ = some (.slice VA vn vc) := hb.cell 2
 have b3 : w1.cell? ⟨b, 3, none⟩ = some (.slice NA nn nc) := hb.cell 3
 have HC := hide hcb
 clear hbe hcb hb
 go_wp2_with fail
 refine hbs.mono ?_
 rintro e w2 ⟨i, ok, rfl, hf, hq⟩
 have HF := hide hf
 have HQ := hide (HC.out.trans0 hq)
 have hil := hf.le
 have hw1 : IntKind.i64.wrap ((i : Int) + 1) = ((i + 1 : Nat) : Int) := by have := HL.out; rw [IntWalk.i64_in _ (by omega)]; omega
 obtain ⟨i1, hi1⟩ : ∃ i1, i1 = i + 1 := ⟨_, rfl⟩
 rw [← hi1] at hw1
 have HI := hide hi1
 clear hbs hf hq hi1 hil
 cases ok with
 | false =>
  go_wp2_with fail
  go_ret
  exact ⟨i, false, rfl, HF.out, HQ.out⟩
 | true =>
  go_wp2_with fail
  go_ret
  exact ⟨i, true, by rw [HI.out]; rfl, HF.out, HQ.out⟩
end Go.Proofs.YtliimeoblffigaaGreat

