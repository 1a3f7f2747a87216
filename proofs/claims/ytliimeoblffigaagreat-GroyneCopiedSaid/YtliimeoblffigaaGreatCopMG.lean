/- The walks of pack's Reader. -/
import Derived.Test.YtliimeoblffigaaGreatPackAG
import Derived.Test.YtliimeoblffigaaGreatPackCG
import Derived.Test.YtliimeoblffigaaGreatLfAG
import Derived.Test.YtliimeoblffigaaGreatDgDG
import Derived.Deep.RegionHeld3
import Derived.Test.YtliimeoblffigaaGreatPackBG
import Derived.Test.YtliimeoblffigaaGreatRfMG
set_option linter.unusedVariables false
set_option linter.unusedSimpArgs false
set_option maxRecDepth 100000
namespace Go.Proofs.YtliimeoblffigaaGreat
open Go.RowKit

/-- the block g is a reader of l, that stands at a with the error e -/
def Rdr (w : World) (F : Nat → Prop) (g : Nat) (l : List UInt8) (a : Nat) (e : Int) : Prop :=
 a ≤ l.length ∧ ∃ u, Blk w g 136 #[u, .int .i64 (a : Int), .int .i64 e] ∧ RdB w (fun b => F b ∧ b < w.heap.size ∧ b ≠ g) u l
section
variable {w w' : World} {F S : Nat → Prop} {g a : Nat} {e : Int} {l : List UInt8}
theorem Rdr.chg (h : Rdr w F g l a e) (hc : Chg S w w') (hg : ¬ S g) (hF : ∀ k, F k → k < w.heap.size → ¬ S k) : Rdr w' F g l a e := by
 obtain ⟨h1, u, h2, h3⟩ := h
 exact ⟨h1, u, h2.chg hc hg, (h3.chg hc fun k hk => hF k hk.1 hk.2.1).mono fun k hk => ⟨hk.1, Nat.lt_of_lt_of_le hk.2.1 hc.size, hk.2.2⟩⟩
theorem Rdr.c0 (h : Rdr w F g l a e) (hc : Chg Non w w') : Rdr w' F g l a e := h.chg hc (fun h => h) fun _ _ _ h => h
theorem Rdr.lt (h : Rdr w F g l a e) : g < w.heap.size := by obtain ⟨h1, u, h2, h3⟩ := h; exact h2.lt
end

section
variable {w w' : World} {F S : Nat → Prop} {g a : Nat} {e : Int} {l : List UInt8}
theorem Rdr.dn (h : Rdr w F g l a e) (q : Nat) : Rdr (w.drewN q) F g l a e := h
theorem Rdr.set1 (h : Rdr w F g l a e) {a' : Nat} {x : Int} (ha : a' ≤ l.length) (hx : x = (a' : Int)) : Rdr (w.setCell ⟨g, 1, none⟩ (.int .i64 x)) F g l a' e := by
 subst hx
 obtain ⟨h1, u, h2, h3⟩ := h
 exact ⟨ha, u, h2.set_ 1 _, (h3.chg ((Chg.refl (fun k => k = g) w).setCell (p := ⟨g, 1, none⟩) (fun _ => rfl) _) fun k hk e => hk.2.2 e).mono fun k hk => ⟨hk.1, by simpa [World.setCell] using hk.2.1, hk.2.2⟩⟩
theorem Rdr.set2 (h : Rdr w F g l a e) {e' : Int} : Rdr (w.setCell ⟨g, 2, none⟩ (.int .i64 e')) F g l a e' := by
 obtain ⟨h1, u, h2, h3⟩ := h
 exact ⟨h1, u, h2.set_ 2 _, (h3.chg ((Chg.refl (fun k => k = g) w).setCell (p := ⟨g, 2, none⟩) (fun _ => rfl) _) fun k hk e => hk.2.2 e).mono fun k hk => ⟨hk.1, by simpa [World.setCell] using hk.2.1, hk.2.2⟩⟩
end

theorem chg_cell (w : World) (q g i : Nat) (u : Value) : Chg (fun k => k = g) w ((w.drewN q).setCell ⟨g, i, none⟩ u) :=
 Chg.setCell (S := fun k => k = g) ((Chg.refl _ _).drewN _) (p := ⟨g, i, none⟩) (fun _ => rfl) u

theorem two_c0 {w w' : World} {p q : Addr} {u v : Value} (h : w.cell? p = some u ∧ w.cell? q = some v) (hc : Chg Non w w') : w'.cell? p = some u ∧ w'.cell? q = some v :=
 ⟨hc.cell h.1 id, hc.cell h.2 id⟩

def numR (l : List UInt8) (a : Nat) (e : Int) : Nat × Nat × Int :=
 if e ≠ 0 then (0, a, e) else if (hd (l.drop a)).2.2 = 0 then ((hd (l.drop a)).1, a + (hd (l.drop a)).2.1, 0) else (0, a, (hd (l.drop a)).2.2)
def textR (l : List UInt8) (a : Nat) (e : Int) : List UInt8 × Nat × Int :=
 if (numR l a e).2.2 ≠ 0 then ([], (numR l a e).2) else if l.length - (numR l a e).2.1 < (numR l a e).1 then ([], a, 5)
 else ((l.drop (numR l a e).2.1).take (numR l a e).1, (numR l a e).2.1 + (numR l a e).1, 0)
theorem numR_err {l : List UInt8} {a : Nat} {e : Int} (h : e ≠ 0) : numR l a e = (0, a, e) := by rw [numR, if_pos h]
theorem numR_ok {l : List UInt8} {a n u : Nat} (h : hd (l.drop a) = (n, u, 0)) : numR l a 0 = (n, a + u, 0) := by rw [numR, if_neg (by simp), h]; rfl
theorem numR_bad {l : List UInt8} {a n u : Nat} {er : Int} (h : hd (l.drop a) = (n, u, er)) (he : er ≠ 0) : numR l a 0 = (0, a, er) := by rw [numR, if_neg (by simp), h, if_neg he]

theorem packTake_ok {v : Value} {b : List UInt8} {F : Nat → Prop} {w : World} {a n u : Nat} (hr : RdB w F v b) (ha : a ≤ b.length) (h : hd (b.drop a) = (n, u, 0)) :
  Calls Tryz.prog 104 #[v, .int .i64 (a : Int)] w fun e w' => e = .returned (.tuple #[.int .u64 (n : Int), .int .i64 ((a + u : Nat) : Int), .int .i64 0]) ∧ w' = w := by
 refine (packTake (at_ := (a : Int)) hr).mono fun e w' ⟨h1, h2⟩ => ⟨?_, h2⟩
 rw [h1, takeB_hd b a ha, h]; rfl
theorem packTake_bad {v : Value} {b : List UInt8} {F : Nat → Prop} {w : World} {a n u : Nat} {er : Int} (hr : RdB w F v b) (ha : a ≤ b.length) (h : hd (b.drop a) = (n, u, er)) (he : er ≠ 0) :
  Calls Tryz.prog 104 #[v, .int .i64 (a : Int)] w fun e w' => e = .returned (.tuple #[.int .u64 (n : Int), .int .i64 0, .int .i64 er]) ∧ w' = w := by
 refine (packTake (at_ := (a : Int)) hr).mono fun e w' ⟨h1, h2⟩ => ⟨?_, h2⟩
 rw [h1, takeB_hd b a ha, h]
 simp only [if_neg he]
 rfl

set_option maxHeartbeats 400000 in
theorem packRead {v : Value} {l : List UInt8} {F : Nat → Prop} {w : World} (hr : RdB w F v l) (hl : l.length ≤ 140737488355328) :
  Calls Tryz.prog 29 #[v] w fun e w' => ∃ g, e = .returned (.pointer (some ⟨g, 0, none⟩)) ∧ w.heap.size ≤ g ∧ Rdr w' (fun b => w.heap.size ≤ b) g l 0 0 ∧ Chg Non w w' := by
 go_enter Tryz.func29, Tryz.ntmps29
 go_wp2_with fail
 refine (bytesClone hr hl).mono ?_
 rintro e w1 ⟨u, rfl, hu, hc⟩
 obtain ⟨A, c, rfl, hcc, hm⟩ := hu.shape
 go_wp2_with fail
 go_ret
 have hb := Blk.new w1 136 #[.slice A l.length c, .int .i64 0, .int .i64 0]
 refine ⟨_, rfl, hc.size, ⟨Nat.zero_le _, _, hb, ((hu.rdB.al _).mono fun k hk => ⟨hk.1, by simp; omega, by omega⟩)⟩, hc.alloc _⟩

set_option maxHeartbeats 400000 in
theorem rdrLeft {F : Nat → Prop} {g a : Nat} {er : Int} {l : List UInt8} {w : World} (h : Rdr w F g l a er) :
  Calls Tryz.prog 30 #[.pointer (some ⟨g, 0, none⟩)] w fun e w' => e = .returned (.int .i64 ((l.length - a : Nat) : Int)) ∧ ∃ k, w' = w.drewN k := by
 obtain ⟨ha, u, hb, hr⟩ := h
 obtain ⟨A, c, rfl, hc, hm⟩ := hr.shape
 unfold maxLen at hm
 have k0 := hb.cell 0
 have k1 := hb.cell 1
 simp at k0 k1
 go_enter Tryz.func30, Tryz.ntmps30
 go_wp2_with fail
 go_quiet (fail)
 go_wp2_with fail
 go_ret
 exact ⟨ret_int (by omega), _, rfl⟩

set_option maxHeartbeats 400000 in
theorem rdrNum {F : Nat → Prop} {g a : Nat} {er : Int} {l : List UInt8} {w : World} (h : Rdr w F g l a er) :
  Calls Tryz.prog 69 #[.pointer (some ⟨g, 0, none⟩)] w fun e w' =>
   e = .returned (.int .u64 ((numR l a er).1 : Int)) ∧ Rdr w' F g l (numR l a er).2.1 (numR l a er).2.2 ∧ Chg (fun k => k = g) w w' := by
 have hh := h
 obtain ⟨ha, u, hb, hr⟩ := h
 obtain ⟨A, c, rfl, hc, hm⟩ := hr.shape
 unfold maxLen at hm
 have k0 := hb.cell 0
 have k1 := hb.cell 1
 have k2 := hb.cell 2
 have f2 := hb.frozen 2
 have f1 := hb.frozen 1
 simp at k0 k1 k2
 by_cases he : er = 0
 ·subst he
  obtain ⟨n, us, er, hhd⟩ : ∃ n us er, hd (l.drop a) = (n, us, er) := ⟨_, _, _, rfl⟩
  by_cases h2 : er = 0
  ·subst h2
   have HN := hide (numR_ok hhd)
   have hu := hd_used (l.drop a) (by rw [hhd])
   have hn := hd_lt (l.drop a)
   rw [hhd] at hu hn
   simp only [List.length_drop] at hu
   have HT := fun (q : Nat) => hide (packTake_ok (hr.dn q) ha hhd)
   clear hhd
   go_enter Tryz.func69, Tryz.ntmps69
   go_wp2_with fail
   go_quiet ((go_at_call 104; exact Calls.quiet_of ((HT _).out.mono fun _ _ ⟨h1, h2⟩ => ⟨h1, 0, h2⟩)))
   go_wp2_with fail
   go_ret
   rw [HN.out]
   exact ⟨rfl, (hh.dn _).set1 (by show a + us ≤ l.length; omega) (by show _ = ((a + us : Nat) : Int); omega), chg_cell _ _ _ _ _⟩
  ·have HN := hide (numR_bad hhd h2)
   have HT := fun (q : Nat) => hide (packTake_bad (hr.dn q) ha hhd h2)
   have hne : (er != 0) = true := by simp [h2]
   clear hhd h2
   go_enter Tryz.func69, Tryz.ntmps69
   go_wp2_with fail
   go_quiet ((go_at_call 104; exact Calls.quiet_of ((HT _).out.mono fun _ _ ⟨h1, h2⟩ => ⟨h1, 0, h2⟩)))
   go_wp2_with fail
   go_ret
   rw [HN.out]
   exact ⟨rfl, (hh.dn _).set2, chg_cell _ _ _ _ _⟩
 ·have HN := hide (numR_err (l := l) (a := a) he)
  have hne : (er != 0) = true := by simp [he]
  clear he
  go_enter Tryz.func69, Tryz.ntmps69
  go_wp2_with fail
  go_ret
  rw [HN.out]
  exact ⟨rfl, hh, Chg.refl _ _⟩

set_option maxHeartbeats 400000 in
theorem rdrErr {F : Nat → Prop} {g a : Nat} {er : Int} {l : List UInt8} {w : World} (h : Rdr w F g l a er) :
  Calls Tryz.prog 31 #[.pointer (some ⟨g, 0, none⟩)] w fun e w' => e = .returned (.int .i64 er) ∧ w' = w := by
 obtain ⟨ha, u, hb, hr⟩ := h
 have k2 := hb.cell 2
 simp at k2
 go_enter Tryz.func31, Tryz.ntmps31
 go_wp2_with fail
 go_ret
 exact ⟨rfl, rfl⟩

theorem textR_bad {l : List UInt8} {a : Nat} {e : Int} {x : Nat × Int} (h : numR l a e = (0, x)) (hx : x.2 ≠ 0) : textR l a e = ([], x) := by
 rw [textR, h, if_pos hx]
theorem textR_end {l : List UInt8} {a n b : Nat} {e : Int} (h : numR l a e = (n, b, 0)) (hx : l.length - b < n) : textR l a e = ([], a, 5) := by
 rw [textR, h, if_neg (by simp), if_pos hx]
theorem textR_ok {l : List UInt8} {a n b : Nat} {e : Int} (h : numR l a e = (n, b, 0)) (hx : ¬ l.length - b < n) : textR l a e = ((l.drop b).take n, b + n, 0) := by
 rw [textR, h, if_neg (by simp), if_neg hx]
theorem numR_ne (l : List UInt8) (a : Nat) (e : Int) (h : (numR l a e).2.2 ≠ 0) : (numR l a e).1 = 0 := by
 rw [numR] at h ⊢
 split
 ·rfl
 ·rename_i h1
  rw [if_neg h1] at h
  split
  ·rename_i h2
   rw [if_pos h2] at h
   exact absurd rfl h
  ·rfl

theorem numR_lt (l : List UInt8) (a : Nat) (e : Int) : (numR l a e).1 < 18446744073709551616 := by
 rw [numR]
 split
 ·exact Nat.pow_pos (n := 64) (a := 2) (by omega)
 ·split
  ·exact hd_lt _
  ·exact Nat.pow_pos (n := 64) (a := 2) (by omega)

set_option maxHeartbeats 1000000 in
theorem rdrText {F : Nat → Prop} {g a : Nat} {er : Int} {l : List UInt8} {w : World} (h : Rdr w F g l a er) (hlen : l.length ≤ 140737488355328) :
  Calls Tryz.prog 32 #[.pointer (some ⟨g, 0, none⟩)] w fun e w' =>
   ∃ u, e = .returned u ∧ OwnB w' w.heap.size u (textR l a er).1 ∧ Rdr w' F g l (textR l a er).2.1 (textR l a er).2.2 ∧ Chg (fun k => k = g) w w' := by
 have hh := h
 have hnum := rdrNum h
 obtain ⟨ha, u, hb, hr⟩ := h
 have k1 := hb.cell 1
 simp at k1
 obtain ⟨n, b, e2, hn⟩ : ∃ n b e2, numR l a er = (n, b, e2) := ⟨_, _, _, rfl⟩
 have hne := numR_ne l a er
 rw [hn] at hnum hne
 simp only at hnum hne
 have hr0 := hr
 clear hb hr
 by_cases he : e2 = 0
 ·subst he
  have hlt := numR_lt l a er
  rw [hn] at hlt
  simp only at hlt
  obtain ⟨A, c, rfl, hc, hm⟩ := hr0.shape
  unfold maxLen at hm
  have hlm : l.length ≤ 9223372036854775807 := by omega
  clear hc hm hr0 hne
  by_cases h4 : l.length - b < n
  ·have HT := hide (textR_end hn h4)
   have hw : IntKind.u64.wrap ((l.length - b : Nat) : Int) = ((l.length - b : Nat) : Int) := wrap_u64n (by unfold U64; omega)
   have hd : decide (((l.length - b : Nat) : Int) < (n : Int)) = true := decide_eq_true (by omega)
   clear hn
   go_enter Tryz.func32, Tryz.ntmps32
   go_wp2_with fail
   refine hnum.mono ?_
   rintro e w1 ⟨rfl, hr1, hc1⟩
   have hh1 := hr1
   obtain ⟨ha1, u1, hb1, hrd1⟩ := hr1
   have k2 := hb1.cell 2
   have f2 := hb1.frozen 2
   have f1 := hb1.frozen 1
   have k1 := hb1.cell 1
   simp at k2 k1
   go_wp2_with fail
   refine (rdrLeft hh1).mono ?_
   rintro e w2 ⟨rfl, q, rfl⟩
   go_wp2_with fail
   go_ret
   rw [HT.out]
   exact ⟨_, rfl, OwnB.nil_ _ _, (hh1.dn q).set2.set1 ha rfl, ((hc1.drewN q).setCell (p := ⟨g, 2, none⟩) (fun _ => rfl) _).setCell (p := ⟨g, 1, none⟩) (fun _ => rfl) _⟩
  ·have HT := hide (textR_ok hn h4)
   have hw : IntKind.u64.wrap ((l.length - b : Nat) : Int) = ((l.length - b : Nat) : Int) := wrap_u64n (by unfold U64; omega)
   have hd : decide (((l.length - b : Nat) : Int) < (n : Int)) = false := decide_eq_false (by omega)
   clear hn
   go_enter Tryz.func32, Tryz.ntmps32
   go_wp2_with fail
   refine hnum.mono ?_
   rintro e w1 ⟨rfl, hr1, hc1⟩
   have hh1 := hr1
   obtain ⟨ha1, u1, hb1, hrd1⟩ := hr1
   have k2 := hb1.cell 2
   have f2 := hb1.frozen 2
   have f1 := hb1.frozen 1
   have k1 := hb1.cell 1
   simp at k2 k1
   go_wp2_with fail
   refine (rdrLeft hh1).mono ?_
   rintro e w2 ⟨rfl, q, rfl⟩
   go_wp2_with fail
   have k0 := hb1.cell 0
   simp at k0
   have hwn : IntKind.i64.wrap (n : Int) = (n : Int) := IntWalk.i64_in _ (by omega)
   have hwb : IntKind.i64.wrap ((b : Int) + n) = (b : Int) + n := IntWalk.i64_in _ (by omega)
   obtain ⟨sv, hsv, hcut⟩ := run_cut hrd1 (i := b) (j := b + n) (x := (b : Int)) (y := (b : Int) + n) rfl (by omega) (by omega) (by omega)
   rw [show b + n - b = n by omega] at hsv
   have hq := fun (q : Nat) => (show (w1.drewN q).cell? ⟨g, 0, none⟩ = some u1 ∧ (w1.drewN q).cell? ⟨g, 1, none⟩ = some (.int .i64 (b : Int)) from ⟨k0, k1⟩)
   have hqd : (w1.drewN q).drew.cell? ⟨g, 0, none⟩ = some u1 ∧ (w1.drewN q).drew.cell? ⟨g, 1, none⟩ = some (.int .i64 (b : Int)) := ⟨k0, k1⟩
   have hcall := fun (q : Nat) => bytesClone (hsv.dn q) (by rw [List.length_take, List.length_drop]; omega)
   go_region_held3 (fun w' => w'.cell? ⟨g, 0, none⟩ = some u1 ∧ w'.cell? ⟨g, 1, none⟩ = some (.int .i64 (b : Int))) (first | exact hqd | exact hq _ | exact two_c0 (hq _) hcg | exact two_c0 hqd hcg) (first | (go_at_call 38; refine (hcall _).mono ?_; rintro e w' ⟨y, rfl, hown, hcg⟩))
   have hb2 := (hb1.dn (q + 1)).c0 hcg
   have hh2 := (hh1.dn (q + 1)).c0 hcg
   have hc2 := (hc1.drewN (q + 1)).trans0 hcg
   have hown2 : OwnB w' w.heap.size y ((l.drop b).take n) := hown.low hc1.size
   have hyg : ∀ k, y.ownBlock = some k → k ≠ g := fun k hk e => by
    have h1 := (hown.lt k hk).1; have h2 := hb1.lt
    rw [e] at h1
    exact absurd h2 (Nat.not_lt.2 h1)
   clear hb1 hh1 hc1 hq hqd hcall hown hcg k0 k1 k2 f1 f2 hsv hcut
   have k1 := hb2.cell 1
   have f1 := hb2.frozen 1
   simp at k1
   go_wp2_with fail
   go_ret
   rw [HT.out]
   exact ⟨_, rfl, hown2.chg (Chg.setCell (S := fun k => k = g) (Chg.refl _ w') (p := ⟨g, 1, none⟩) (fun _ => rfl) _) hyg, hh2.set1 (by show b + n ≤ l.length; omega) (by show _ = ((b + n : Nat) : Int); omega), hc2.setCell (p := ⟨g, 1, none⟩) (fun _ => rfl) _⟩
 ·obtain rfl := hne he
  have HT := hide (textR_bad hn he)
  have h1 : (e2 == 0) = false := beq_eq_false_iff_ne.2 he
  have h2 : (e2 != 0) = true := by simp [he]
  clear hn hne he
  go_enter Tryz.func32, Tryz.ntmps32
  go_wp2_with fail
  refine hnum.mono ?_
  rintro e w1 ⟨rfl, hr1, hc1⟩
  have hh1 := hr1
  obtain ⟨ha1, u1, hb1, hrd1⟩ := hr1
  have k2 := hb1.cell 2
  simp at k2
  go_wp2_with fail
  go_ret
  rw [HT.out]
  exact ⟨_, rfl, OwnB.nil_ _ _, hh1, hc1⟩
end Go.Proofs.YtliimeoblffigaaGreat

set_option maxRecDepth 100000
namespace Go.Proofs.YtliimeoblffigaaGreat
open Go.RowKit

end Go.Proofs.YtliimeoblffigaaGreat

set_option maxRecDepth 100000
namespace Go.Proofs.YtliimeoblffigaaGreat
open Go.RowKit
set_option linter.unusedVariables false

/-- a piece's bytes -/
def encC (c : List KV) : List UInt8 := c.flatMap fun p => partB p.1 ++ partB p.2
theorem encC_take {c : List KV} {k : Nat} (h : k < c.length) : encC (c.take (k + 1)) = encC (c.take k) ++ (partB c[k].1 ++ partB c[k].2) := by
 rw [List.take_succ_eq_append_getElem h, encC, List.flatMap_append]; simp [encC]
theorem encC_split {c : List KV} {k : Nat} (h : k < c.length) : encC c = encC (c.take k) ++ (partB c[k].1 ++ (partB c[k].2 ++ encC (c.drop (k + 1)))) := by
 have e : encC c = encC (c.take k) ++ encC (c.drop k) := by
  rw [encC, encC, encC, ← List.flatMap_append, List.take_append_drop]
 rw [e, List.drop_eq_getElem_cons h]
 congr 1
 show encC (c[k] :: c.drop (k + 1)) = _
 rw [encC, List.flatMap_cons, List.append_assoc]; rfl
theorem partB_len' (l : List UInt8) : (partB l).length = (numB l.length).length + l.length := by rw [partB, List.length_append]
theorem encC_len : ∀ c : List KV, (∀ p ∈ c, p.1.length ≤ 64 ∧ p.2.length ≤ 128) → (encC c).length ≤ 300 * c.length
 | [], _ => by simp [encC]
 | p :: c, h => by
  have h1 := encC_len c fun x hx => h x (List.mem_cons_of_mem _ hx)
  have h2 := h p List.mem_cons_self
  have h3 := numB_length p.1.length
  have h4 := numB_length p.2.length
  have h5 := partB_len' p.1
  have h6 := partB_len' p.2
  simp only [encC, List.flatMap_cons, List.length_append, List.length_cons] at h1 ⊢
  omega
theorem text_part (pre l post : List UInt8) (hl : l.length < 18446744073709551616) : textR (pre ++ (partB l ++ post)) pre.length 0 = (l, (pre ++ partB l).length, 0) := by
 have h1 := hd_part (l := l) hl post
 have h2 := numR_ok (l := pre ++ (partB l ++ post)) (a := pre.length) (by rw [List.drop_left]; exact h1)
 have hp : (partB l).length = (numB l.length).length + l.length := by rw [partB, List.length_append]
 rw [textR_ok h2 (by simp only [List.length_append]; omega), ← List.drop_drop, List.drop_left, partB, List.append_assoc, List.drop_left, List.take_left]
 simp only [List.length_append, Nat.add_assoc]
theorem encC_key {c : List KV} {k : Nat} (h : k < c.length) (hs : c[k].1.length ≤ 64) : textR (encC c) (encC (c.take k)).length 0 = (c[k].1, (encC (c.take k) ++ partB c[k].1).length, 0) := by
 rw [encC_split h]; exact text_part _ _ _ (by omega)
theorem encC_val {c : List KV} {k : Nat} (h : k < c.length) (hs : c[k].2.length ≤ 128) : textR (encC c) (encC (c.take k) ++ partB c[k].1).length 0 = (c[k].2, (encC (c.take (k + 1))).length, 0) := by
 have e : encC c = (encC (c.take k) ++ partB c[k].1) ++ (partB c[k].2 ++ encC (c.drop (k + 1))) := by rw [encC_split h, List.append_assoc]
 have h2 := text_part (encC (c.take k) ++ partB c[k].1) c[k].2 (encC (c.drop (k + 1))) (by omega)
 rw [← e] at h2
 rw [h2, encC_take h, List.append_assoc]
theorem partB_pos (l : List UInt8) : 0 < (partB l).length := by
 have h : 0 < (numB l.length).length := by unfold numB; split <;> simp
 rw [partB_len']; omega
theorem encC_left {c : List KV} {k : Nat} (h : k < c.length) : (encC (c.take k)).length < (encC c).length := by
 have h1 := partB_pos c[k].1
 rw [encC_split h, List.length_append, List.length_append]; omega
/-- where the next piece begins -/
def frK (L : List KV) : Nat → List UInt8
 | 0 => []
 | j + 1 => (L[j]?.map (·.1)).getD [] ++ [0]
theorem cmpB_nil_le' : ∀ t : List UInt8, cmpB [] t ≤ 0
 | [] => by decide
 | _ :: _ => by show (-1 : Int) ≤ 0; decide
theorem after_iff' : ∀ s t : List UInt8, cmpB (s ++ [0]) t ≤ 0 ↔ cmpB s t < 0
 | [], [] => by decide
 | [], b :: t => by
  rw [List.nil_append, cmpB_cons]
  have h1 : cmpB [] (b :: t) = -1 := rfl
  rw [h1]
  have h2 := cmpB_nil_le' t
  split
  ·decide
  ·split
   ·rename_i h3; exact absurd h3 (by simp)
   ·exact ⟨fun _ => by decide, fun _ => h2⟩
 | a :: s, [] => by
  have h1 : cmpB (a :: s ++ [0]) [] = 1 := rfl
  have h2 : cmpB (a :: s) [] = 1 := rfl
  rw [h1, h2]; decide
 | a :: s, b :: t => by
  rw [List.cons_append, cmpB_cons, cmpB_cons]
  split
  ·decide
  ·split
   ·decide
   ·exact after_iff' s t
theorem rng_all (L : List KV) : rngL [] [] L = L := by
 unfold rngL
 rw [List.filter_eq_self]
 intro p _
 simp [inR, cmpB_nil_le']
theorem rng_frK {L : List KV} (hu : UpL L) : ∀ {j : Nat}, j ≤ L.length → rngL (frK L j) [] L = L.drop j
 | 0, _ => rng_all L
 | j + 1, h => by
  have hj : j < L.length := h
  have hf : frK L (j + 1) = L[j].1 ++ [0] := by rw [frK, List.getElem?_eq_getElem hj]; rfl
  rw [hf]
  have hp := List.pairwise_iff_getElem.1 hu
  have h1 : rngL (L[j].1 ++ [0]) [] (L.take (j + 1)) = [] := by
   unfold rngL
   rw [List.filter_eq_nil_iff]
   intro p hpm
   obtain ⟨i, hi, rfl⟩ := List.getElem_of_mem hpm
   rw [List.length_take] at hi
   rw [List.getElem_take]
   have hc : ¬ cmpB L[j].1 (L[i]'(by omega)).1 < 0 := by
    by_cases e : i = j
    ·subst e; rw [cmpB_refl]; omega
    ·have := hp i j (by omega) hj (by omega)
     have h2 := cmpB_neg L[j].1 (L[i]'(by omega)).1
     omega
   have hc2 : ¬ cmpB (L[j].1 ++ [0]) (L[i]'(by omega)).1 ≤ 0 := fun h9 => hc ((after_iff' L[j].1 (L[i]'(by omega)).1).1 h9)
   simp only [inR, List.isEmpty_nil, Bool.true_or, Bool.and_true, decide_eq_true_eq]
   exact hc2
  have h2 : rngL (L[j].1 ++ [0]) [] (L.drop (j + 1)) = L.drop (j + 1) := by
   unfold rngL
   rw [List.filter_eq_self]
   intro p hpm
   obtain ⟨i, hi, rfl⟩ := List.getElem_of_mem hpm
   rw [List.length_drop] at hi
   rw [List.getElem_drop]
   have := hp j (j + 1 + i) hj (by omega) (by omega)
   have hc2 := (after_iff' L[j].1 (L[j + 1 + i]'(by omega)).1).2 this
   simp only [inR, List.isEmpty_nil, Bool.true_or, Bool.and_true, decide_eq_true_eq]
   exact hc2
  have h3 := rngL_app (L[j].1 ++ [0]) [] (L.take (j + 1)) (L.drop (j + 1))
  rw [h1, h2, List.nil_append, List.take_append_drop] at h3
  exact h3
/-- a pair put into its place -/
theorem put_mid {A R : List KV} {p : KV} (hu : UpL (A ++ p :: R)) : kvPut p.1 p.2 (A ++ R) = A ++ p :: R := by
 obtain ⟨_, h2, h3⟩ := UpL.parts hu
 rw [kvPut_right fun q hq => h3 q hq p (by simp)]
 congr 1
 have h4 := (List.pairwise_cons.1 h2).1
 have := kvPut_left (k := p.1) (v := p.2) (l := []) (m := R) h4
 rw [List.nil_append] at this
 rw [this]; rfl
theorem UpL.drop_ {L : List KV} (h : UpL L) (k : Nat) : UpL (L.drop k) := List.Pairwise.drop h
/-- the i-th piece -/
def pcs (L : List KV) (m i : Nat) : List KV := (L.drop (i * m)).take m
theorem pcs_app (L : List KV) (m i : Nat) : pcs L m i ++ L.drop ((i + 1) * m) = L.drop (i * m) := by
 unfold pcs
 rw [show (i + 1) * m = i * m + m by rw [Nat.succ_mul], ← List.drop_drop, List.take_append_drop]
/-- one more pair of the i-th piece is put -/
theorem pcs_put {L : List KV} {m i k : Nat} (hu : UpL L) (hk : k < (pcs L m i).length) : kvPut (pcs L m i)[k].1 (pcs L m i)[k].2 ((pcs L m i).take k ++ L.drop ((i + 1) * m)) = (pcs L m i).take (k + 1) ++ L.drop ((i + 1) * m) := by
 have e1 : pcs L m i = (pcs L m i).take k ++ (pcs L m i)[k] :: (pcs L m i).drop (k + 1) := by rw [← List.drop_eq_getElem_cons hk, List.take_append_drop]
 have hU := hu.drop_ (i * m)
 rw [← pcs_app, e1] at hU
 obtain ⟨_, _, h3⟩ := UpL.parts hU
 have hu2 : UpL ((pcs L m i).take k ++ (pcs L m i)[k] :: L.drop ((i + 1) * m)) := by
  refine List.Pairwise.sublist ?_ hU
  rw [List.append_assoc]
  exact List.Sublist.append_left (by rw [List.cons_append]; exact List.Sublist.cons_cons _ (List.sublist_append_right _ _)) _
 rw [put_mid hu2, List.take_succ_eq_append_getElem hk, List.append_assoc]; rfl
theorem pcs_mem {L : List KV} {m i : Nat} {p : KV} (h : p ∈ pcs L m i) : p ∈ L := List.mem_of_mem_drop (List.mem_of_mem_take h)
theorem pcs_len (L : List KV) (m i : Nat) : (pcs L m i).length = min m (L.length - i * m) := by rw [pcs, List.length_take, List.length_drop]
theorem frK_pcs {L : List KV} {m i k : Nat} (hk : k < (pcs L m i).length) : (pcs L m i)[k].1 ++ [0] = frK L (i * m + (k + 1)) := by
 have h := pcs_len L m i
 have hj : i * m + k < L.length := by omega
 rw [show i * m + (k + 1) = (i * m + k) + 1 by omega, frK, List.getElem?_eq_getElem hj]
 simp [pcs]
/-- a piece's name -/
def pN (n : Nat) : List UInt8 := 116 :: 47 :: numL n
theorem pN_lt : ∀ i j : Nat, i < j → j < 70 → pN i < pN j := by
 have h : ∀ j : Fin 69, decide (pN j.val < pN (j.val + 1)) = true := by decide +kernel
 intro i j hij hj
 induction j with
 | zero => omega
 | succ j ih =>
  have h1 : pN j < pN (j + 1) := of_decide_eq_true (h ⟨j, by omega⟩)
  by_cases e : i = j
  ·rw [e]; exact h1
  ·exact List.lt_trans (ih (by omega) (by omega)) h1
theorem pN_le {i j : Nat} (hij : i ≤ j) (hj : j < 70) : pN i ≤ pN j := by
 rcases Nat.lt_or_eq_of_le hij with h | rfl
 ·exact List.le_of_lt (pN_lt i j h hj)
 ·exact List.le_refl _
theorem pN_ne {i j : Nat} (h : i ≠ j) (hi : i < 70) (hj : j < 70) : pN i ≠ pN j := fun e => by
 rcases Nat.lt_or_gt_of_ne h with h | h
 ·have := pN_lt i j h hj; rw [e] at this; exact List.lt_irrefl _ this
 ·have := pN_lt j i h hi; rw [e] at this; exact List.lt_irrefl _ this
theorem names_sorted (n : Nat) (hn : n ≤ 70) : ((List.range n).map pN).Pairwise fun a b => decide (a ≤ b) = true := by
 rw [List.pairwise_map]
 refine List.Pairwise.imp_of_mem ?_ List.pairwise_lt_range
 intro a b ha hb h
 exact decide_eq_true (pN_le (Nat.le_of_lt h) (by have := List.mem_range.1 hb; omega))
theorem sort_names {ss : List (List UInt8)} {n : Nat} (hn : n ≤ 70) (h : ss.Perm ((List.range n).map pN)) : ss.mergeSort (fun x y => decide (x ≤ y)) = (List.range n).map pN := by
 have htr : ∀ a b c : List UInt8, decide (a ≤ b) = true → decide (b ≤ c) = true → decide (a ≤ c) = true := fun a b c h1 h2 => decide_eq_true (List.le_trans (of_decide_eq_true h1) (of_decide_eq_true h2))
 have hto : ∀ a b : List UInt8, (decide (a ≤ b) || decide (b ≤ a)) = true := fun a b => by
  rcases List.le_total a b with h | h
  ·rw [decide_eq_true h]; rfl
  ·rw [decide_eq_true h, Bool.or_true]
 have h1 := List.pairwise_mergeSort htr hto ss
 have h2 : (ss.mergeSort fun x y => decide (x ≤ y)).Perm ((List.range n).map pN) := (List.mergeSort_perm ss _).trans h
 exact h2.eq_of_pairwise (le := fun a b => decide (a ≤ b) = true) (fun a b _ _ ha hb => List.le_antisymm (of_decide_eq_true ha) (of_decide_eq_true hb)) h1 (names_sorted n hn)
theorem names_out {ss : List (List UInt8)} {n : Nat} (hn : n ≤ 70) (h : ss.Perm ((List.range n).map pN)) :
  ((ss.mergeSort (fun x y => decide (x ≤ y))).filter (fun x => Lib.hasPrefix x [116, 47])).map (·.drop 2) = (List.range n).map numL := by
 rw [sort_names hn h, List.filter_eq_self.2, List.map_map]
 ·rfl
 ·intro x hx
  obtain ⟨i, _, rfl⟩ := List.mem_map.1 hx
  simp [Lib.hasPrefix, pN]
/-- what lies in the vault behind n pieces -/
def VlOk (vl : FL) (L : List KV) (m n : Nat) : Prop := Once vl ∧ (vl.map (·.1)).Perm ((List.range n).map pN) ∧ ∀ j, j < n → fOf vl (pN j) = some (encC (pcs L m j))
theorem VlOk.nil_ (L : List KV) (m : Nat) : VlOk [] L m 0 := ⟨Once.nil_, by simp, fun j h => absurd h (by omega)⟩
theorem VlOk.no {vl : FL} {L : List KV} {m n : Nat} (h : VlOk vl L m n) (hn : n < 70) : ∀ p ∈ vl, p.1 ≠ pN n := fun p hp e => by
 have h1 : p.1 ∈ vl.map (·.1) := List.mem_map_of_mem hp
 rw [h.2.1.mem_iff, e] at h1
 obtain ⟨i, hi, h2⟩ := List.mem_map.1 h1
 have := List.mem_range.1 hi
 exact pN_ne (by omega) (by omega) hn h2
theorem VlOk.none_ {vl : FL} {L : List KV} {m n : Nat} (h : VlOk vl L m n) (hn : n < 70) : fOf vl (pN n) = none := by
 unfold fOf; rw [get_none keyS (h.no hn)]; rfl
theorem perm_ins {κ α : Type} (kl : κ → Lit) (x : κ × α) : ∀ l : List (κ × α), (aIns kl x l).Perm (x :: l)
 | [] => List.Perm.refl _
 | y :: r => by
  rw [aIns]
  split
  ·exact List.Perm.refl _
  ·exact ((perm_ins kl x r).cons y).trans (List.Perm.swap x y r)
theorem VlOk.put {vl : FL} {L : List KV} {m n : Nat} (h : VlOk vl L m n) (hn : n < 70) (u : Value) : VlOk (aPut klS (pN n) (u, encC (pcs L m n)) vl) L m (n + 1) := by
 refine ⟨h.1.put keyS _ _, ?_, fun j hj => ?_⟩
 ·unfold aPut
  rw [del_none keyS (h.no hn), List.range_succ, List.map_append]
  refine ((perm_ins klS _ vl).map _).trans ?_
  refine List.Perm.trans ?_ (List.perm_append_comm)
  exact h.2.1.cons _
 ·rw [fOf_put h.1]
  by_cases e : j = n
  ·subst e; simp [setF]
  ·have := h.2.2 j (by omega)
   have hne : pN j ≠ pN n := pN_ne e (by omega) hn
   simp [setF, hne, this]
end Go.Proofs.YtliimeoblffigaaGreat

