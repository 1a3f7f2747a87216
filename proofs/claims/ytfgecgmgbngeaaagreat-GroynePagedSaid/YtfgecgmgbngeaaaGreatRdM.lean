/- The walks of pack's Reader. -/
import Derived.Test.YtfgecgmgbngeaaaGreatPackA
import Derived.Test.YtfgecgmgbngeaaaGreatPackM
import Derived.Test.YtfgecgmgbngeaaaGreatPkM
import Derived.Test.YtfgecgmgbngeaaaGreatSlc
import Derived.Deep.RegionHeld3
import Derived.Test.YtfgecgmgbngeaaaGreatBBM
set_option linter.unusedVariables false
set_option linter.unusedSimpArgs false
set_option maxRecDepth 100000
namespace Go.Proofs.YtfgecgmgbngeaaaGreat
open Go.RowKit

/-- the block g is a reader of l, that stands at a with the error e -/
def Rdr (w : World) (F : Nat → Prop) (g : Nat) (l : List UInt8) (a : Nat) (e : Int) : Prop :=
  a ≤ l.length ∧ ∃ u, Blk w g 140 #[u, .int .i64 (a : Int), .int .i64 e] ∧ RdB w (fun b => F b ∧ b < w.heap.size ∧ b ≠ g) u l
section
variable {w w' : World} {F S : Nat → Prop} {g a : Nat} {e : Int} {l : List UInt8}
theorem Rdr.chg (h : Rdr w F g l a e) (hc : Chg S w w') (hg : ¬ S g) (hF : ∀ k, F k → k < w.heap.size → ¬ S k) : Rdr w' F g l a e := by
  obtain ⟨h1, u, h2, h3⟩ := h
  exact ⟨h1, u, h2.chg hc hg, (h3.chg hc fun k hk => hF k hk.1 hk.2.1).mono fun k hk => ⟨hk.1, Nat.lt_of_lt_of_le hk.2.1 hc.size, hk.2.2⟩⟩
theorem Rdr.c0 (h : Rdr w F g l a e) (hc : Chg Non w w') : Rdr w' F g l a e := h.chg hc (fun h => h) fun _ _ _ h => h
theorem Rdr.lt (h : Rdr w F g l a e) : g < w.heap.size := by obtain ⟨h1, u, h2, h3⟩ := h; exact h2.lt
end

section
variable {w w' : World} {F S : Nat → Prop} {g a : Nat} {e : Int} {l : List UInt8}
theorem Rdr.dn (h : Rdr w F g l a e) (q : Nat) : Rdr (w.drewN q) F g l a e := h
theorem Rdr.set1 (h : Rdr w F g l a e) {a' : Nat} {x : Int} (ha : a' ≤ l.length) (hx : x = (a' : Int)) : Rdr (w.setCell ⟨g, 1, none⟩ (.int .i64 x)) F g l a' e := by
  subst hx
  obtain ⟨h1, u, h2, h3⟩ := h
  exact ⟨ha, u, h2.set_ 1 _, (h3.chg ((Chg.refl (fun k => k = g) w).setCell (p := ⟨g, 1, none⟩) (fun _ => rfl) _) fun k hk e => hk.2.2 e).mono fun k hk => ⟨hk.1, by simpa [World.setCell] using hk.2.1, hk.2.2⟩⟩
theorem Rdr.set2 (h : Rdr w F g l a e) {e' : Int} : Rdr (w.setCell ⟨g, 2, none⟩ (.int .i64 e')) F g l a e' := by
  obtain ⟨h1, u, h2, h3⟩ := h
  exact ⟨h1, u, h2.set_ 2 _, (h3.chg ((Chg.refl (fun k => k = g) w).setCell (p := ⟨g, 2, none⟩) (fun _ => rfl) _) fun k hk e => hk.2.2 e).mono fun k hk => ⟨hk.1, by simpa [World.setCell] using hk.2.1, hk.2.2⟩⟩
end

theorem chg_cell (w : World) (q g i : Nat) (u : Value) : Chg (fun k => k = g) w ((w.drewN q).setCell ⟨g, i, none⟩ u) :=
  Chg.setCell (S := fun k => k = g) ((Chg.refl _ _).drewN _) (p := ⟨g, i, none⟩) (fun _ => rfl) u

theorem two_c0 {w w' : World} {p q : Addr} {u v : Value} (h : w.cell? p = some u ∧ w.cell? q = some v) (hc : Chg Non w w') : w'.cell? p = some u ∧ w'.cell? q = some v :=
  ⟨hc.cell h.1 id, hc.cell h.2 id⟩

def numR (l : List UInt8) (a : Nat) (e : Int) : Nat × Nat × Int :=
  if e ≠ 0 then (0, a, e) else if (hd (l.drop a)).2.2 = 0 then ((hd (l.drop a)).1, a + (hd (l.drop a)).2.1, 0) else (0, a, (hd (l.drop a)).2.2)
def textR (l : List UInt8) (a : Nat) (e : Int) : List UInt8 × Nat × Int :=
  if (numR l a e).2.2 ≠ 0 then ([], (numR l a e).2) else if l.length - (numR l a e).2.1 < (numR l a e).1 then ([], a, 5)
  else ((l.drop (numR l a e).2.1).take (numR l a e).1, (numR l a e).2.1 + (numR l a e).1, 0)
def flagR (l : List UInt8) (a : Nat) (e : Int) : Bool × Nat × Int :=
  if e ≠ 0 then (false, a, e) else match l.drop a with
  | [] => (false, a, 5)
  | b :: _ => if 1 < b.toNat then (false, a, 3) else (b == 1, a + 1, 0)
theorem numR_err {l : List UInt8} {a : Nat} {e : Int} (h : e ≠ 0) : numR l a e = (0, a, e) := by rw [numR, if_pos h]
theorem numR_ok {l : List UInt8} {a n u : Nat} (h : hd (l.drop a) = (n, u, 0)) : numR l a 0 = (n, a + u, 0) := by rw [numR, if_neg (by simp), h]; rfl
theorem numR_bad {l : List UInt8} {a n u : Nat} {er : Int} (h : hd (l.drop a) = (n, u, er)) (he : er ≠ 0) : numR l a 0 = (0, a, er) := by rw [numR, if_neg (by simp), h, if_neg he]

theorem packTake_ok {v : Value} {b : List UInt8} {F : Nat → Prop} {w : World} {a n u : Nat} (hr : RdB w F v b) (ha : a ≤ b.length) (h : hd (b.drop a) = (n, u, 0)) :
    Calls Tryz.prog 46 #[v, .int .i64 (a : Int)] w fun e w' => e = .returned (.tuple #[.int .u64 (n : Int), .int .i64 ((a + u : Nat) : Int), .int .i64 0]) ∧ w' = w := by
  refine (packTake (at_ := (a : Int)) hr).mono fun e w' ⟨h1, h2⟩ => ⟨?_, h2⟩
  rw [h1, takeB_hd b a ha, h]; rfl
theorem packTake_bad {v : Value} {b : List UInt8} {F : Nat → Prop} {w : World} {a n u : Nat} {er : Int} (hr : RdB w F v b) (ha : a ≤ b.length) (h : hd (b.drop a) = (n, u, er)) (he : er ≠ 0) :
    Calls Tryz.prog 46 #[v, .int .i64 (a : Int)] w fun e w' => e = .returned (.tuple #[.int .u64 (n : Int), .int .i64 0, .int .i64 er]) ∧ w' = w := by
  refine (packTake (at_ := (a : Int)) hr).mono fun e w' ⟨h1, h2⟩ => ⟨?_, h2⟩
  rw [h1, takeB_hd b a ha, h]
  simp only [if_neg he]
  rfl

set_option maxHeartbeats 400000 in
theorem packRead {v : Value} {l : List UInt8} {F : Nat → Prop} {w : World} (hr : RdB w F v l) (hl : l.length ≤ 140737488355328) :
    Calls Tryz.prog 78 #[v] w fun e w' => ∃ g, e = .returned (.pointer (some ⟨g, 0, none⟩)) ∧ w.heap.size ≤ g ∧ Rdr w' (fun b => w.heap.size ≤ b) g l 0 0 ∧ Chg Non w w' := by
  go_enter Tryz.func78, Tryz.ntmps78
  go_wp2_with fail
  refine (bytesClone hr hl).mono ?_
  rintro e w1 ⟨u, rfl, hu, hc⟩
  obtain ⟨A, c, rfl, hcc, hm⟩ := hu.shape
  go_wp2_with fail
  go_ret
  have hb := Blk.new w1 140 #[.slice A l.length c, .int .i64 0, .int .i64 0]
  refine ⟨_, rfl, hc.size, ⟨Nat.zero_le _, _, hb, ((hu.rdB.al _).mono fun k hk => ⟨hk.1, by simp; omega, by omega⟩)⟩, hc.alloc _⟩

set_option maxHeartbeats 400000 in
theorem rdrLeft {F : Nat → Prop} {g a : Nat} {er : Int} {l : List UInt8} {w : World} (h : Rdr w F g l a er) :
    Calls Tryz.prog 109 #[.pointer (some ⟨g, 0, none⟩)] w fun e w' => e = .returned (.int .i64 ((l.length - a : Nat) : Int)) ∧ ∃ k, w' = w.drewN k := by
  obtain ⟨ha, u, hb, hr⟩ := h
  obtain ⟨A, c, rfl, hc, hm⟩ := hr.shape
  unfold maxLen at hm
  have k0 := hb.cell 0
  have k1 := hb.cell 1
  simp at k0 k1
  go_enter Tryz.func109, Tryz.ntmps109
  go_wp2_with fail
  go_quiet (fail)
  go_wp2_with fail
  go_ret
  exact ⟨ret_int (by omega), _, rfl⟩

set_option maxHeartbeats 400000 in
theorem rdrNum {F : Nat → Prop} {g a : Nat} {er : Int} {l : List UInt8} {w : World} (h : Rdr w F g l a er) :
    Calls Tryz.prog 79 #[.pointer (some ⟨g, 0, none⟩)] w fun e w' =>
      e = .returned (.int .u64 ((numR l a er).1 : Int)) ∧ Rdr w' F g l (numR l a er).2.1 (numR l a er).2.2 ∧ Chg (fun k => k = g) w w' := by
  have hh := h
  obtain ⟨ha, u, hb, hr⟩ := h
  obtain ⟨A, c, rfl, hc, hm⟩ := hr.shape
  unfold maxLen at hm
  have k0 := hb.cell 0
  have k1 := hb.cell 1
  have k2 := hb.cell 2
  have f2 := hb.frozen 2
  have f1 := hb.frozen 1
  simp at k0 k1 k2
  by_cases he : er = 0
  · subst he
    obtain ⟨n, us, er, hhd⟩ : ∃ n us er, hd (l.drop a) = (n, us, er) := ⟨_, _, _, rfl⟩
    by_cases h2 : er = 0
    · subst h2
      have HN := hide (numR_ok hhd)
      have hu := hd_used (l.drop a) (by rw [hhd])
      have hn := hd_lt (l.drop a)
      rw [hhd] at hu hn
      simp only [List.length_drop] at hu
      have HT := fun (q : Nat) => hide (packTake_ok (hr.dn q) ha hhd)
      clear hhd
      go_enter Tryz.func79, Tryz.ntmps79
      go_wp2_with fail
      go_quiet ((go_at_call 46; exact Calls.quiet_of ((HT _).out.mono fun _ _ ⟨h1, h2⟩ => ⟨h1, 0, h2⟩)))
      go_wp2_with fail
      go_ret
      rw [HN.out]
      exact ⟨rfl, (hh.dn _).set1 (by show a + us ≤ l.length; omega) (by show _ = ((a + us : Nat) : Int); omega), chg_cell _ _ _ _ _⟩
    · have HN := hide (numR_bad hhd h2)
      have HT := fun (q : Nat) => hide (packTake_bad (hr.dn q) ha hhd h2)
      have hne : (er != 0) = true := by simp [h2]
      clear hhd h2
      go_enter Tryz.func79, Tryz.ntmps79
      go_wp2_with fail
      go_quiet ((go_at_call 46; exact Calls.quiet_of ((HT _).out.mono fun _ _ ⟨h1, h2⟩ => ⟨h1, 0, h2⟩)))
      go_wp2_with fail
      go_ret
      rw [HN.out]
      exact ⟨rfl, (hh.dn _).set2, chg_cell _ _ _ _ _⟩
  · have HN := hide (numR_err (l := l) (a := a) he)
    have hne : (er != 0) = true := by simp [he]
    clear he
    go_enter Tryz.func79, Tryz.ntmps79
    go_wp2_with fail
    go_ret
    rw [HN.out]
    exact ⟨rfl, hh, Chg.refl _ _⟩


theorem beq_u8_one (y : UInt8) : ((y.toNat : Int) == 1) = (y == 1) := by
  rw [Bool.eq_iff_iff, beq_iff_eq, beq_iff_eq]
  constructor
  · intro h; exact UInt8.toNat_inj.1 (show y.toNat = 1 by omega)
  · intro h; subst h; rfl

def closeR (l : List UInt8) (a : Nat) (e : Int) : Int := if e = 0 ∧ 0 < l.length - a then 3 else e
set_option maxHeartbeats 400000 in
theorem rdrClose {F : Nat → Prop} {g a : Nat} {er : Int} {l : List UInt8} {w : World} (h : Rdr w F g l a er) :
    Calls Tryz.prog 81 #[.pointer (some ⟨g, 0, none⟩)] w fun e w' => e = .returned (.int .i64 (closeR l a er)) ∧ ∃ k, w' = w.drewN k := by
  have hh := h
  obtain ⟨ha, u, hb, hr⟩ := h
  obtain ⟨A, c, rfl, hc, hm⟩ := hr.shape
  unfold maxLen at hm
  have k2 := hb.cell 2
  simp at k2
  by_cases he : er = 0
  · subst he
    by_cases h2 : 0 < l.length - a
    · have hd : decide ((0 : Int) < ((l.length - a : Nat) : Int)) = true := decide_eq_true (by omega)
      have HC := hide (show closeR l a 0 = 3 by rw [closeR, if_pos ⟨rfl, h2⟩])
      go_enter Tryz.func81, Tryz.ntmps81
      go_wp2_with fail
      refine (rdrLeft hh).mono ?_
      rintro e w1 ⟨rfl, q, rfl⟩
      go_wp2_with fail
      go_ret
      exact ⟨ret_int HC.out.symm, q, rfl⟩
    · have hd : decide ((0 : Int) < ((l.length - a : Nat) : Int)) = false := decide_eq_false (by omega)
      have HC := hide (show closeR l a 0 = 0 by rw [closeR, if_neg (by omega)])
      go_enter Tryz.func81, Tryz.ntmps81
      go_wp2_with fail
      refine (rdrLeft hh).mono ?_
      rintro e w1 ⟨rfl, q, rfl⟩
      go_wp2_with fail
      go_ret
      exact ⟨ret_int HC.out.symm, q, rfl⟩
  · have HC := hide (show closeR l a er = er by rw [closeR, if_neg (fun h => he h.1)])
    have hne : (er == 0) = false := beq_eq_false_iff_ne.2 he
    clear he
    go_enter Tryz.func81, Tryz.ntmps81
    go_wp2_with fail
    go_ret
    exact ⟨ret_int HC.out.symm, 0, rfl⟩


theorem textR_bad {l : List UInt8} {a : Nat} {e : Int} {x : Nat × Int} (h : numR l a e = (0, x)) (hx : x.2 ≠ 0) : textR l a e = ([], x) := by
  rw [textR, h, if_pos hx]
theorem textR_end {l : List UInt8} {a n b : Nat} {e : Int} (h : numR l a e = (n, b, 0)) (hx : l.length - b < n) : textR l a e = ([], a, 5) := by
  rw [textR, h, if_neg (by simp), if_pos hx]
theorem textR_ok {l : List UInt8} {a n b : Nat} {e : Int} (h : numR l a e = (n, b, 0)) (hx : ¬ l.length - b < n) : textR l a e = ((l.drop b).take n, b + n, 0) := by
  rw [textR, h, if_neg (by simp), if_neg hx]
theorem numR_ne (l : List UInt8) (a : Nat) (e : Int) (h : (numR l a e).2.2 ≠ 0) : (numR l a e).1 = 0 := by
  rw [numR] at h ⊢
  split
  · rfl
  · rename_i h1
    rw [if_neg h1] at h
    split
    · rename_i h2
      rw [if_pos h2] at h
      exact absurd rfl h
    · rfl

theorem numR_lt (l : List UInt8) (a : Nat) (e : Int) : (numR l a e).1 < 18446744073709551616 := by
  rw [numR]
  split
  · exact Nat.pow_pos (n := 64) (a := 2) (by omega)
  · split
    · exact hd_lt _
    · exact Nat.pow_pos (n := 64) (a := 2) (by omega)

set_option maxHeartbeats 1000000 in
theorem rdrText {F : Nat → Prop} {g a : Nat} {er : Int} {l : List UInt8} {w : World} (h : Rdr w F g l a er) (hlen : l.length ≤ 140737488355328) :
    Calls Tryz.prog 80 #[.pointer (some ⟨g, 0, none⟩)] w fun e w' =>
      ∃ u, e = .returned u ∧ OwnB w' w.heap.size u (textR l a er).1 ∧ Rdr w' F g l (textR l a er).2.1 (textR l a er).2.2 ∧ Chg (fun k => k = g) w w' := by
  have hh := h
  have hnum := rdrNum h
  obtain ⟨ha, u, hb, hr⟩ := h
  have k1 := hb.cell 1
  simp at k1
  obtain ⟨n, b, e2, hn⟩ : ∃ n b e2, numR l a er = (n, b, e2) := ⟨_, _, _, rfl⟩
  have hne := numR_ne l a er
  rw [hn] at hnum hne
  simp only at hnum hne
  have hr0 := hr
  clear hb hr
  by_cases he : e2 = 0
  · subst he
    have hlt := numR_lt l a er
    rw [hn] at hlt
    simp only at hlt
    obtain ⟨A, c, rfl, hc, hm⟩ := hr0.shape
    unfold maxLen at hm
    have hlm : l.length ≤ 9223372036854775807 := by omega
    clear hc hm hr0 hne
    by_cases h4 : l.length - b < n
    · have HT := hide (textR_end hn h4)
      have hw : IntKind.u64.wrap ((l.length - b : Nat) : Int) = ((l.length - b : Nat) : Int) := wrap_u64n (by unfold U64; omega)
      have hd : decide (((l.length - b : Nat) : Int) < (n : Int)) = true := decide_eq_true (by omega)
      clear hn
      go_enter Tryz.func80, Tryz.ntmps80
      go_wp2_with fail
      refine hnum.mono ?_
      rintro e w1 ⟨rfl, hr1, hc1⟩
      have hh1 := hr1
      obtain ⟨ha1, u1, hb1, hrd1⟩ := hr1
      have k2 := hb1.cell 2
      have f2 := hb1.frozen 2
      have f1 := hb1.frozen 1
      have k1 := hb1.cell 1
      simp at k2 k1
      go_wp2_with fail
      refine (rdrLeft hh1).mono ?_
      rintro e w2 ⟨rfl, q, rfl⟩
      go_wp2_with fail
      go_ret
      rw [HT.out]
      exact ⟨_, rfl, OwnB.nil_ _ _, (hh1.dn q).set2.set1 ha rfl, ((hc1.drewN q).setCell (p := ⟨g, 2, none⟩) (fun _ => rfl) _).setCell (p := ⟨g, 1, none⟩) (fun _ => rfl) _⟩
    · have HT := hide (textR_ok hn h4)
      have hw : IntKind.u64.wrap ((l.length - b : Nat) : Int) = ((l.length - b : Nat) : Int) := wrap_u64n (by unfold U64; omega)
      have hd : decide (((l.length - b : Nat) : Int) < (n : Int)) = false := decide_eq_false (by omega)
      clear hn
      go_enter Tryz.func80, Tryz.ntmps80
      go_wp2_with fail
      refine hnum.mono ?_
      rintro e w1 ⟨rfl, hr1, hc1⟩
      have hh1 := hr1
      obtain ⟨ha1, u1, hb1, hrd1⟩ := hr1
      have k2 := hb1.cell 2
      have f2 := hb1.frozen 2
      have f1 := hb1.frozen 1
      have k1 := hb1.cell 1
      simp at k2 k1
      go_wp2_with fail
      refine (rdrLeft hh1).mono ?_
      rintro e w2 ⟨rfl, q, rfl⟩
      go_wp2_with fail
      have k0 := hb1.cell 0
      simp at k0
      have hwn : IntKind.i64.wrap (n : Int) = (n : Int) := IntWalk.i64_in _ (by omega)
      have hwb : IntKind.i64.wrap ((b : Int) + n) = (b : Int) + n := IntWalk.i64_in _ (by omega)
      obtain ⟨sv, hsv, hcut⟩ := run_cut hrd1 (i := b) (j := b + n) (x := (b : Int)) (y := (b : Int) + n) rfl (by omega) (by omega) (by omega)
      rw [show b + n - b = n by omega] at hsv
      have hq := fun (q : Nat) => (show (w1.drewN q).cell? ⟨g, 0, none⟩ = some u1 ∧ (w1.drewN q).cell? ⟨g, 1, none⟩ = some (.int .i64 (b : Int)) from ⟨k0, k1⟩)
      have hqd : (w1.drewN q).drew.cell? ⟨g, 0, none⟩ = some u1 ∧ (w1.drewN q).drew.cell? ⟨g, 1, none⟩ = some (.int .i64 (b : Int)) := ⟨k0, k1⟩
      have hcall := fun (q : Nat) => bytesClone (hsv.dn q) (by rw [List.length_take, List.length_drop]; omega)
      go_region_held3 (fun w' => w'.cell? ⟨g, 0, none⟩ = some u1 ∧ w'.cell? ⟨g, 1, none⟩ = some (.int .i64 (b : Int))) (first | exact hqd | exact hq _ | exact two_c0 (hq _) hcg | exact two_c0 hqd hcg) (first | (go_at_call 40; refine (hcall _).mono ?_; rintro e w' ⟨y, rfl, hown, hcg⟩))
      have hb2 := (hb1.dn (q + 1)).c0 hcg
      have hh2 := (hh1.dn (q + 1)).c0 hcg
      have hc2 := (hc1.drewN (q + 1)).trans0 hcg
      have hown2 : OwnB w' w.heap.size y ((l.drop b).take n) := hown.low hc1.size
      have hyg : ∀ k, y.ownBlock = some k → k ≠ g := fun k hk e => by
        have h1 := (hown.lt k hk).1; have h2 := hb1.lt
        rw [e] at h1
        exact absurd h2 (Nat.not_lt.2 h1)
      clear hb1 hh1 hc1 hq hqd hcall hown hcg k0 k1 k2 f1 f2 hsv hcut
      have k1 := hb2.cell 1
      have f1 := hb2.frozen 1
      simp at k1
      go_wp2_with fail
      go_ret
      rw [HT.out]
      exact ⟨_, rfl, hown2.chg (Chg.setCell (S := fun k => k = g) (Chg.refl _ w') (p := ⟨g, 1, none⟩) (fun _ => rfl) _) hyg, hh2.set1 (by show b + n ≤ l.length; omega) (by show _ = ((b + n : Nat) : Int); omega), hc2.setCell (p := ⟨g, 1, none⟩) (fun _ => rfl) _⟩
  · obtain rfl := hne he
    have HT := hide (textR_bad hn he)
    have h1 : (e2 == 0) = false := beq_eq_false_iff_ne.2 he
    have h2 : (e2 != 0) = true := by simp [he]
    clear hn hne he
    go_enter Tryz.func80, Tryz.ntmps80
    go_wp2_with fail
    refine hnum.mono ?_
    rintro e w1 ⟨rfl, hr1, hc1⟩
    have hh1 := hr1
    obtain ⟨ha1, u1, hb1, hrd1⟩ := hr1
    have k2 := hb1.cell 2
    simp at k2
    go_wp2_with fail
    go_ret
    rw [HT.out]
    exact ⟨_, rfl, OwnB.nil_ _ _, hh1, hc1⟩
end Go.Proofs.YtfgecgmgbngeaaaGreat

set_option maxRecDepth 100000
namespace Go.Proofs.YtfgecgmgbngeaaaGreat
open Go.RowKit

theorem Rdr.fix {w : World} {F : Nat → Prop} {g a : Nat} {e : Int} {l : List UInt8} (h : Rdr w F g l a e) : Rdr w (fun b => F b ∧ b < w.heap.size) g l a e := by
  obtain ⟨h1, u, h2, h3⟩ := h
  exact ⟨h1, u, h2, h3.mono fun b hb => ⟨⟨hb.1, hb.2.1⟩, hb.2.1, hb.2.2⟩⟩
theorem resF_text (m : Nat) (done : List (List UInt8)) (l : List UInt8) (a : Nat) :
    resF (m + 1) done (l.drop a) = if (textR l a 0).2.2 ≠ 0 then ([], (textR l a 0).2.2) else resF m (done ++ [(textR l a 0).1]) (l.drop (textR l a 0).2.1) := by
  obtain ⟨n, u, er, h⟩ : ∃ n u er, hd (l.drop a) = (n, u, er) := ⟨_, _, _, rfl⟩
  rw [resF, h]
  by_cases he : er = 0
  · subst he
    have hn := numR_ok h
    simp only [ne_eq, not_true, if_false, List.length_drop, List.drop_drop]
    by_cases h2 : l.length - (a + u) < n
    · rw [textR_end hn h2, if_pos (by omega)]
      simp
    · rw [textR_ok hn h2, if_neg (by omega)]
      simp only [not_true, if_false]
      rw [Nat.add_assoc]
  · have hn := numR_bad h he
    rw [textR_bad hn he]
    simp [he]
theorem splitB_num (l : List UInt8) : splitB l = if (numR l 0 0).2.2 ≠ 0 then ([], (numR l 0 0).2.2) else resF (numR l 0 0).1 [] (l.drop (numR l 0 0).2.1) := by
  obtain ⟨n, u, er, h⟩ : ∃ n u er, hd (l.drop 0) = (n, u, er) := ⟨_, _, _, rfl⟩
  have h' := h
  rw [List.drop_zero] at h'
  rw [splitB, h']
  by_cases he : er = 0
  · subst he
    rw [numR_ok h, Nat.zero_add]
  · rw [numR_bad h he]
    simp [he]
/-- what the loop keeps -/
def SplitAt (l : List UInt8) (m : Nat) (done : List (List UInt8)) (a : Nat) (er : Int) : Prop :=
  (er = 0 → splitB l = resF m done (l.drop a)) ∧ (er ≠ 0 → splitB l = ([], er))
theorem SplitAt.start (l : List UInt8) : SplitAt l (numR l 0 0).1 [] (numR l 0 0).2.1 (numR l 0 0).2.2 := by
  rw [SplitAt, splitB_num]
  exact ⟨fun h => by rw [if_neg (by simp [h])], fun h => by rw [if_pos h]⟩
theorem SplitAt.step {l : List UInt8} {m a : Nat} {done : List (List UInt8)} (h : SplitAt l (m + 1) done a 0) :
    SplitAt l m (done ++ [(textR l a 0).1]) (textR l a 0).2.1 (textR l a 0).2.2 := by
  have h := h.1 rfl
  rw [resF_text] at h
  rw [SplitAt, h]
  exact ⟨fun h => by rw [if_neg (by simp [h])], fun h => by rw [if_pos h]⟩
theorem SplitAt.done0 {l : List UInt8} {a : Nat} {done : List (List UInt8)} (h : SplitAt l 0 done a 0) : splitB l = if closeR l a 0 ≠ 0 then ([], closeR l a 0) else (done, 0) := by
  rw [h.1 rfl, resF, closeR, List.length_drop]
  by_cases h1 : 0 < l.length - a
  · simp [h1]
  · simp [h1]
theorem wrap_pred (m : Nat) (h : m + 1 < 18446744073709551616) : IntKind.u64.wrap (((m + 1 : Nat) : Int) - 1) = (m : Int) := by
  rw [IntKind.wrap_u64]; omega

theorem textR_adv (l : List UInt8) (a : Nat) (h : (textR l a 0).2.2 = 0) : a < (textR l a 0).2.1 := by
  obtain ⟨n, u, er, hh⟩ : ∃ n u er, hd (l.drop a) = (n, u, er) := ⟨_, _, _, rfl⟩
  by_cases he : er = 0
  · subst he
    have hn := numR_ok hh
    have hu := (hd_used (l.drop a) (by rw [hh])).1
    rw [hh] at hu
    simp only at hu
    by_cases h2 : l.length - (a + u) < n
    · rw [textR_end hn h2] at h; simp at h
    · rw [textR_ok hn h2]; show a < a + u + n; omega
  · rw [textR_bad (numR_bad hh he) he] at h
    exact absurd h he
theorem SplitAt.err {l : List UInt8} {m a : Nat} {er : Int} {done : List (List UInt8)} (h : SplitAt l m done a er) (he : er ≠ 0) : splitB l = ([], er) := h.2 he

set_option maxHeartbeats 1000000 in
theorem packSplit {v : Value} {l : List UInt8} {F : Nat → Prop} {w : World} (hr : RdB w F v l) (hl : l.length < 1000000000000) :
    Calls Tryz.prog 43 #[v] w fun e w' => ∃ u, e = .returned (.tuple #[u, .int .i64 (splitB l).2]) ∧ OwnsBB w' w.heap.size u (splitB l).1 ∧ Chg Non w w' := by
  go_enter Tryz.func43, Tryz.ntmps43
  go_wp2_with fail
  refine (packRead hr (by omega)).mono ?_
  rintro e w1 ⟨g, rfl, hg, hR0, hc1⟩
  have hR := hR0.fix
  have hgl := hR.lt
  clear hR0
  go_wp2_with fail
  refine (rdrNum hR).mono ?_
  rintro e w2 ⟨rfl, hR2, hc2⟩
  have hst := SplitAt.start l
  obtain ⟨m0, a0, er0, hx⟩ : ∃ m0 a0 er0, numR l 0 0 = (m0, a0, er0) := ⟨_, _, _, rfl⟩
  have hlt0 := numR_lt l 0 0
  have hone := hd_used l
  rw [hx] at hst hR2 hlt0 ⊢
  simp only at hst hR2 hlt0 ⊢
  have hcw2 : Chg Non w w2 := hc1.trans hc2 fun k hk e => by subst e; omega
  have hs2 := hc2.size
  obtain ⟨b1, hb1⟩ : ∃ b1, b1 = w1.heap.size := ⟨_, rfl⟩
  rw [← hb1] at hR2 hgl hs2
  have hb1w : w.heap.size ≤ b1 := by rw [hb1]; exact hc1.size
  clear hb1 hR hc1 hc2 hx hone
  go_wp2_with fail
  go_loopw [6, 5] (fun mv ov wr => ∃ (m : Nat) (done : List (List UInt8)) (a : Nat) (er : Int), mv = .int .u64 m ∧ m < 18446744073709551616 ∧ Hid (er = 0 → done.length ≤ a) ∧ Hid (SplitAt l m done a er) ∧ Rdr wr (fun b => w.heap.size ≤ b ∧ b < b1) g l a er ∧ OwnsBB wr b1 ov done ∧ b1 ≤ wr.heap.size ∧ Chg Non w wr) (fun mv _ _ => (intOf mv).toNat)
  case atStart => exact ⟨m0, [], a0, er0, rfl, hlt0, hide (fun _ => Nat.zero_le _), hide hst, hR2, OwnsBB.nil_ _ _, hs2, hcw2⟩
  case round =>
    clear hst hR2 hcw2 hs2 hlt0
    obtain ⟨m, done, a, er, rfl, hml, hda, hsp, hR, hO, hsz, hcw⟩ := hrel
    have hRR := hR
    obtain ⟨ha, u, hb, hrd⟩ := hR
    have k2 := hb.cell 2
    simp at k2
    by_cases h1 : 0 < m ∧ er = 0
    · obtain ⟨h1, rfl⟩ := h1
      obtain ⟨m, rfl⟩ : ∃ k, m = k + 1 := ⟨m - 1, by omega⟩
      have hst2 := hsp.out.step
      have hadv := textR_adv l a
      have hd2 := hda.out rfl
      have hwp := wrap_pred m hml
      have htext := rdrText hRR (by omega)
      obtain ⟨t, a2, er2, ht⟩ : ∃ t a2 er2, textR l a 0 = (t, a2, er2) := ⟨_, _, _, rfl⟩
      rw [ht] at hst2 hadv htext
      simp only at hst2 hadv htext
      have HA := hide hadv
      have HS := hide hst2
      have hdl : done.length + 1 ≤ 1000000000000 := by omega
      have hS : ∀ k, b1 ≤ k → k < wr.heap.size → ¬ k = g := fun k hk _ e => by omega
      clear ht hadv hst2 hsp hda hb hrd
      go_wp2_with fail
      refine htext.mono ?_
      rintro e w3 ⟨u3, rfl, hown3, hR3, hc3⟩
      obtain ⟨A3, n3, c3, rfl⟩ : ∃ A n c, u3 = .slice A n c := by obtain ⟨A, c, e, _⟩ := hown3.shape; exact ⟨A, _, c, e⟩
      obtain ⟨ov, hov⟩ : ∃ ov, ov = u5 := ⟨_, rfl⟩
      have hc4 := hc3.alloc (.cells #[.slice A3 n3 c3] 30)
      have hblk := Blk.new w3 30 #[.slice A3 n3 c3]
      have hown4 := hown3.al (.cells #[.slice A3 n3 c3] 30)
      have hR4 := hR3.c0 ((Chg.refl Non w3).alloc (.cells #[.slice A3 n3 c3] 30))
      have hcw4 := hcw.trans hc4 (fun k hk e => by omega)
      go_wp2_with (at_builtin; refine append_BBo rfl _ _ rfl hO rfl hc4 hS rfl hown4 hsz hblk rfl hdl ?_; intro v5 w5 hO5 hg5 hat5)
      have hR5 : Rdr w5 (fun b => w.heap.size ≤ b ∧ b < b1) g l a2 er2 := hR4.chg (Chg.of_grown hg5) (fun e => by have := (hO.lt g e.symm).1; omega) (fun k hk _ e => by have := (hO.lt k e.symm).1; omega)
      have hsz5 : b1 ≤ w5.heap.size := Nat.le_trans hsz (Nat.le_trans hc4.size hg5.size)
      have hcw5 : Chg Non w w5 := hcw4.grown hg5 fun k hk hlt => by have := (hO.lt k hk).1; omega
      go_round
      case rel => exact ⟨m, _, a2, er2, rfl, by omega, hide (fun h => by have := HA.out h; simp; omega), HS, hR5, hO5, hsz5, hcw5⟩
      case measure => simp [intOf]
    · by_cases her : er = 0
      · subst her
        obtain rfl : m = 0 := by omega
        have hfin := hsp.out.done0
        by_cases hcl : closeR l a 0 = 0
        · rw [if_neg (by simp [hcl])] at hfin
          have HF := hide hfin
          have hclose := rdrClose hRR
          rw [hcl] at hclose
          clear hfin hcl hsp hda h1
          go_wp2_with fail
          refine hclose.mono ?_
          rintro e w3 ⟨rfl, q, rfl⟩
          go_wp2_with fail
          go_ret2
          rw [HF.out]
          exact ⟨_, rfl, (hO.dn q).low hb1w, hcw.drewN q⟩
        · rw [if_pos hcl] at hfin
          have HF := hide hfin
          have hclose := rdrClose hRR
          obtain ⟨c, hc⟩ : ∃ c, c = closeR l a 0 := ⟨_, rfl⟩
          rw [← hc] at hclose hcl HF
          have hne : (c != 0) = true := by simp [hcl]
          clear hfin hcl hsp hda h1 hc
          go_wp2_with fail
          refine hclose.mono ?_
          rintro e w3 ⟨rfl, q, rfl⟩
          go_wp2_with fail
          go_ret2
          rw [HF.out]
          exact ⟨_, rfl, OwnsBB.nil_ _ _, hcw.drewN q⟩
      · have HF := hide (hsp.out.err her)
        have hclose := rdrClose hRR
        rw [closeR, if_neg (fun h => her h.1)] at hclose
        have hne : (er != 0) = true := by simp [her]
        have heq : (er == 0) = false := beq_eq_false_iff_ne.2 her
        clear hsp hda h1 her
        by_cases hm : 0 < m
        · have hd : decide ((0 : Int) < (m : Int)) = true := decide_eq_true (by omega)
          go_wp2_with fail
          refine hclose.mono ?_
          rintro e w3 ⟨rfl, q, rfl⟩
          go_wp2_with fail
          go_ret2
          rw [HF.out]
          exact ⟨_, rfl, OwnsBB.nil_ _ _, hcw.drewN q⟩
        · have hd : decide ((0 : Int) < (m : Int)) = false := decide_eq_false (by omega)
          go_wp2_with fail
          refine hclose.mono ?_
          rintro e w3 ⟨rfl, q, rfl⟩
          go_wp2_with fail
          go_ret2
          rw [HF.out]
          exact ⟨_, rfl, OwnsBB.nil_ _ _, hcw.drewN q⟩
end Go.Proofs.YtfgecgmgbngeaaaGreat
