/- The walks of what compares writes, rows and operations, at lists that read the same. -/
import Derived.Test.YtncchbcoldgpbaaSkM
import Derived.StillTailTactics
namespace Go.Proofs.Ytncchbcoldgpbaa
open Go.RowKit
set_option linter.unusedVariables false
set_option linter.unusedSimpArgs false

theorem RdWr.shape {w : World} {F : Nat → Prop} {v : Value} {r : List WrO} (h : RdWr w F v r) : ∃ A c, v = .slice A r.length c ∧ r.length ≤ c ∧ c ≤ maxLen := by
  obtain ⟨xs, h1, h2, h3⟩ := h
  exact h2.shape
theorem RdRow.shape {w : World} {F : Nat → Prop} {v : Value} {r : List PairL} (h : RdRow w F v r) : ∃ A c, v = .slice A r.length c ∧ r.length ≤ c ∧ c ≤ maxLen := by
  obtain ⟨xs, h1, h2, h3⟩ := h
  exact h2.shape
theorem RdRows.shape {w : World} {F : Nat → Prop} {v : Value} {r : List (List PairL)} (h : RdRows w F v r) : ∃ A c, v = .slice A r.length c ∧ r.length ≤ c ∧ c ≤ maxLen := by
  obtain ⟨xs, h1, h2, h3⟩ := h
  exact h2.shape
theorem RdWr.c0 {w w' : World} {F : Nat → Prop} {v : Value} {r : List WrO} (h : RdWr w F v r) (hc : Chg Non w w') : RdWr w' F v r := h.chg hc fun _ _ h => h
theorem RdRow.c0 {w w' : World} {F : Nat → Prop} {v : Value} {r : List PairL} (h : RdRow w F v r) (hc : Chg Non w w') : RdRow w' F v r := h.chg hc fun _ _ h => h
theorem RdRows.c0 {w w' : World} {F : Nat → Prop} {v : Value} {r : List (List PairL)} (h : RdRows w F v r) (hc : Chg Non w w') : RdRows w' F v r := h.chg hc fun _ _ h => h
theorem RdRow.dn {w : World} {F : Nat → Prop} {v : Value} {l : List PairL} (h : RdRow w F v l) (n : Nat) : RdRow (w.drewN n) F v l := h.c0 ((Chg.refl Non w).drewN n)
theorem OwnO.rdOs {w : World} {b : Nat} {F : Nat → Prop} {v : Value} {l : List OpS} {xs : List (Value × Value)} (h : OwnO w b F v l xs) (hF : ∀ k, v.ownBlock = some k → F k) : RdOs w F v l :=
  ⟨xs, h.len, (RdV.of_own h.row).mono fun k hk => hF k hk, h.el⟩

set_option maxHeartbeats 4000000 in
set_option maxRecDepth 100000 in
theorem ref6SameW {v u : Value} {l : List WrO} {F G : Nat → Prop} {w : World} (ha : RdWr w F v l) (hb : RdWr w G u l) :
    Calls Try.prog 83 #[v, u] w fun e w' => e = .returned (.bool true) ∧ ∃ k, w' = w.drewN k := by
  obtain ⟨A, c, rfl, hc, hm⟩ := ha.shape
  obtain ⟨B, d, rfl, hd, hn⟩ := hb.shape
  unfold maxLen at hm hn
  have he : ((l.length : Int) != (l.length : Int)) = false := by simp
  go_enter Try.func83, Try.ntmps83
  go_wp2_with fail
  go_loopw [5] (fun iv wr => ∃ (k : Nat), k ≤ l.length ∧ iv = .int .i64 k ∧ Quiet w wr) (fun iv _ => l.length - (intOf iv).toNat)
  case atStart => exact ⟨0, Nat.zero_le _, rfl, ⟨0, rfl⟩⟩
  case round =>
    obtain ⟨k, hk, rfl, hq⟩ := hrel
    have hcq := (Chg.refl Non w).quiet hq
    by_cases h1 : k < l.length
    · obtain ⟨ad, p, r, rfl, _, a1, a2, a3, rp, rr⟩ := (ha.c0 hcq).at_ h1
      obtain ⟨bd, p2, r2, rfl, _, b1, b2, b3, rp2, rr2⟩ := (hb.c0 hcq).at_ h1
      have hcall1 := fun (j : Nat) => (refEqual_true (rp.dn j) (rp2.dn j))
      have hcall2 := fun (j : Nat) => (refEqual_true (rr.dn j) (rr2.dn j))
      obtain ⟨f, hf⟩ : ∃ f, f = l[k].f := ⟨_, rfl⟩
      rw [← hf] at a3 b3
      have hff : (f != f) = false := by simp
      clear hf
      have h1i : (k : Int) < (l.length : Int) := by omega
      have h0i : (0 : Int) ≤ (k : Int) := by omega
      clear rp rr rp2 rr2
      go_wp2_with fail
      go_quiet ((go_at_call 13; first | exact Calls.quiet_of (hcall1 _) | exact Calls.quiet_of (hcall2 _)))
      go_wp2_with fail
      go_roundw
      case rel => exact ⟨k + 1, by omega, by go_num, hq.dn _⟩
      case measure => simp [intOf]; omega
    · go_wp2_with fail
      go_ret
      exact ⟨rfl, hq⟩

set_option maxHeartbeats 4000000 in
set_option maxRecDepth 100000 in
theorem ref9Same {v u : Value} {l : List PairL} {F G : Nat → Prop} {w : World} (ha : RdRow w F v l) (hb : RdRow w G u l) :
    Calls Try.prog 96 #[v, u] w fun e w' => e = .returned (.bool true) ∧ ∃ k, w' = w.drewN k := by
  obtain ⟨A, c, rfl, hc, hm⟩ := ha.shape
  obtain ⟨B, d, rfl, hd, hn⟩ := hb.shape
  unfold maxLen at hm hn
  have he : ((l.length : Int) != (l.length : Int)) = false := by simp
  go_enter Try.func96, Try.ntmps96
  go_wp2_with fail
  go_loopw [5] (fun iv wr => ∃ (k : Nat), k ≤ l.length ∧ iv = .int .i64 k ∧ Quiet w wr) (fun iv _ => l.length - (intOf iv).toNat)
  case atStart => exact ⟨0, Nat.zero_le _, rfl, ⟨0, rfl⟩⟩
  case round =>
    obtain ⟨k, hk, rfl, hq⟩ := hrel
    have hcq := (Chg.refl Non w).quiet hq
    by_cases h1 : k < l.length
    · obtain ⟨ad, p, r, rfl, _, a1, a2, rp, rr⟩ := (ha.c0 hcq).at_ h1
      obtain ⟨bd, p2, r2, rfl, _, b1, b2, rp2, rr2⟩ := (hb.c0 hcq).at_ h1
      have hcall1 := fun (j : Nat) => (refEqual_true (rp.dn j) (rp2.dn j))
      have hcall2 := fun (j : Nat) => (refEqual_true (rr.dn j) (rr2.dn j))
      have h1i : (k : Int) < (l.length : Int) := by omega
      have h0i : (0 : Int) ≤ (k : Int) := by omega
      clear rp rr rp2 rr2
      go_wp2_with fail
      go_quiet ((go_at_call 13; first | exact Calls.quiet_of (hcall1 _) | exact Calls.quiet_of (hcall2 _)))
      go_wp2_with fail
      go_roundw
      case rel => exact ⟨k + 1, by omega, by go_num, hq.dn _⟩
      case measure => simp [intOf]; omega
    · go_wp2_with fail
      go_ret
      exact ⟨rfl, hq⟩

set_option maxHeartbeats 4000000 in
set_option maxRecDepth 100000 in
theorem ref12SameRows {v u : Value} {l : List (List PairL)} {F G : Nat → Prop} {w : World} (ha : RdRows w F v l) (hb : RdRows w G u l) :
    Calls Try.prog 82 #[v, u] w fun e w' => e = .returned (.bool true) ∧ ∃ k, w' = w.drewN k := by
  obtain ⟨A, c, rfl, hc, hm⟩ := ha.shape
  obtain ⟨B, d, rfl, hd, hn⟩ := hb.shape
  unfold maxLen at hm hn
  have he : ((l.length : Int) != (l.length : Int)) = false := by simp
  go_enter Try.func82, Try.ntmps82
  go_wp2_with fail
  go_loopw [5] (fun iv wr => ∃ (k : Nat), k ≤ l.length ∧ iv = .int .i64 k ∧ Quiet w wr) (fun iv _ => l.length - (intOf iv).toNat)
  case atStart => exact ⟨0, Nat.zero_le _, rfl, ⟨0, rfl⟩⟩
  case round =>
    obtain ⟨k, hk, rfl, hq⟩ := hrel
    have hcq := (Chg.refl Non w).quiet hq
    by_cases h1 : k < l.length
    · obtain ⟨ad, p, rfl, _, a1, rp⟩ := (ha.c0 hcq).at_ h1
      obtain ⟨bd, p2, rfl, _, b1, rp2⟩ := (hb.c0 hcq).at_ h1
      have hcall1 := fun (j : Nat) => (ref9Same (rp.dn j) (rp2.dn j))
      have h1i : (k : Int) < (l.length : Int) := by omega
      have h0i : (0 : Int) ≤ (k : Int) := by omega
      clear rp rp2
      go_wp2_with fail
      go_quiet ((go_at_call 96; exact Calls.quiet_of (hcall1 _)))
      go_wp2_with fail
      go_roundw
      case rel => exact ⟨k + 1, by omega, by go_num, hq.dn _⟩
      case measure => simp [intOf]; omega
    · go_wp2_with fail
      go_ret
      exact ⟨rfl, hq⟩

set_option maxHeartbeats 4000000 in
set_option maxRecDepth 100000 in
theorem ref12SameOp {k m : Int} {P R P' R' : Option Addr} {n1 c1 n2 c2 n3 c3 n4 c4 : Nat} {s t : List UInt8} {F G : Nat → Prop} {w : World} (h1 : RdB w F (.slice P n1 c1) s) (h2 : RdB w F (.slice R n2 c2) t) (h3 : RdB w G (.slice P' n3 c3) s) (h4 : RdB w G (.slice R' n4 c4) t) :
    Calls Try.prog 67 #[.agg #[.int .i64 k, .slice P n1 c1, .slice R n2 c2, .int .i64 m], .agg #[.int .i64 k, .slice P' n3 c3, .slice R' n4 c4, .int .i64 m]] w fun e w' => e = .returned (.bool true) ∧ Chg Non w w' := by
  have hA := Blk.new w 85 #[.int .i64 k, .slice P n1 c1, .slice R n2 c2, .int .i64 m]
  have hcA := (Chg.refl Non w).alloc (.cells #[.int .i64 k, .slice P n1 c1, .slice R n2 c2, .int .i64 m] 85)
  have hcB := hcA.alloc (.cells #[.int .i64 k, .slice P' n3 c3, .slice R' n4 c4, .int .i64 m] 85)
  have hB := Blk.new (w.alloc (.cells #[.int .i64 k, .slice P n1 c1, .slice R n2 c2, .int .i64 m] 85)) 85 #[.int .i64 k, .slice P' n3 c3, .slice R' n4 c4, .int .i64 m]
  have hA2 := hA.al (.cells #[.int .i64 k, .slice P' n3 c3, .slice R' n4 c4, .int .i64 m] 85)
  have hcall1 := fun (w' : World) (hc : Chg Non w w') => (refEqual_true (h1.c0 hc) (h3.c0 hc))
  have hcall2 := fun (w' : World) (hc : Chg Non w w') => (refEqual_true (h2.c0 hc) (h4.c0 hc))
  have hkk : (k == k) = true := by simp
  have hmm : (m == m) = true := by simp
  go_enter Try.func67, Try.ntmps67
  go_upto_region 1 with fail
  have hsz : (w.alloc (.cells #[.int .i64 k, .slice P n1 c1, .slice R n2 c2, .int .i64 m] 85)).heap.size = w.heap.size + 1 := by simp
  rw [hsz] at hB
  try rw [hsz]
  generalize hw2 : World.alloc (World.alloc w _) _ = w2
  rw [show (w.alloc (.cells #[.int .i64 k, .slice P n1 c1, .slice R n2 c2, .int .i64 m] 85)).alloc (.cells #[.int .i64 k, .slice P' n3 c3, .slice R' n4 c4, .int .i64 m] 85) = w2 from hw2] at hA2 hB hcB
  clear hw2 hsz hA hcA h1 h2 h3 h4
  have a0 : w2.cell? ⟨w.heap.size, 0, none⟩ = some (.int .i64 k) := hA2.cell 0
  have a1 : w2.cell? ⟨w.heap.size, 1, none⟩ = some (.slice P n1 c1) := hA2.cell 1
  have a3 : w2.cell? ⟨w.heap.size, 3, none⟩ = some (.int .i64 m) := hA2.cell 3
  have b0 : w2.cell? ⟨w.heap.size + 1, 0, none⟩ = some (.int .i64 k) := hB.cell 0
  have b1 : w2.cell? ⟨w.heap.size + 1, 1, none⟩ = some (.slice P' n3 c3) := hB.cell 1
  have b3 : w2.cell? ⟨w.heap.size + 1, 3, none⟩ = some (.int .i64 m) := hB.cell 3
  go_wp2_with (first
    | (go_at_call 13; refine (hcall1 _ hcB).mono ?_; rintro e w3 ⟨rfl, hq3⟩; have hc3 := hcB.quiet hq3; have q3 := (Chg.refl Non w2).quiet hq3; have a2 : w3.cell? ⟨w.heap.size, 2, none⟩ = some (.slice R n2 c2) := (hA2.c0 q3).cell 2; have b2 : w3.cell? ⟨w.heap.size + 1, 2, none⟩ = some (.slice R' n4 c4) := (hB.c0 q3).cell 2; clear hcall1)
    | (go_at_call 13; refine (hcall2 _ hc3).mono ?_; rintro e w4 ⟨rfl, hq4⟩))
  go_ret
  exact ⟨rfl, hc3.quiet hq4⟩

set_option maxHeartbeats 4000000 in
set_option maxRecDepth 100000 in
theorem sameOps {v u : Value} {l : List OpS} {F G : Nat → Prop} {w : World} (ha : RdOs w F v l) (hb : RdOs w G u l) :
    Calls Try.prog 36 #[v, u] w fun e w' => e = .returned (.bool true) ∧ Chg Non w w' := by
  obtain ⟨A, c, rfl, hc, hm⟩ := ha.shape
  obtain ⟨B, d, rfl, hd, hn⟩ := hb.shape
  unfold maxLen at hm hn
  have he : ((l.length : Int) != (l.length : Int)) = false := by simp
  go_enter Try.func36, Try.ntmps36
  go_wp2_with fail
  go_loopw [5, 13] (fun iv jv wr => ∃ (k : Nat), k ≤ l.length ∧ jv = .int .i64 k ∧ Chg Non w wr) (fun _ jv _ => l.length - (intOf jv).toNat)
  case atStart => exact ⟨0, Nat.zero_le _, rfl, Chg.refl Non w⟩
  case round =>
    obtain ⟨k, hk, rfl, hcq⟩ := hrel
    by_cases h1 : k < l.length
    · obtain ⟨ad, p, r, rfl, _, a1, a2, a3, a4, rp, rr⟩ := (ha.c0 hcq).at_ h1
      obtain ⟨bd, p2, r2, rfl, _, b1, b2, b3, b4, rp2, rr2⟩ := (hb.c0 hcq).at_ h1
      obtain ⟨o, ho⟩ : ∃ o, o = l[k] := ⟨_, rfl⟩
      rw [← ho] at a1 a4 b1 b4 rp rr rp2 rr2
      clear ho
      obtain ⟨P, n1, c1, rfl⟩ : ∃ A m c, p = .slice A m c := by obtain ⟨A, c, e, _⟩ := rp.shape; exact ⟨A, _, c, e⟩
      obtain ⟨R, n2, c2, rfl⟩ : ∃ A m c, r = .slice A m c := by obtain ⟨A, c, e, _⟩ := rr.shape; exact ⟨A, _, c, e⟩
      obtain ⟨P', n3, c3, rfl⟩ : ∃ A m c, p2 = .slice A m c := by obtain ⟨A, c, e, _⟩ := rp2.shape; exact ⟨A, _, c, e⟩
      obtain ⟨R', n4, c4, rfl⟩ : ∃ A m c, r2 = .slice A m c := by obtain ⟨A, c, e, _⟩ := rr2.shape; exact ⟨A, _, c, e⟩
      have h1i : (k : Int) < (l.length : Int) := by omega
      have h0i : (0 : Int) ≤ (k : Int) := by omega
      go_upto_region 6 with fail
      go_still_tail 8, (by kernel_rfl)
      change wpList _ _ _ _ _ wr.drew
      have hcd := hcq.drew
      have hcall := ref12SameOp (k := o.kind) (m := o.most) rp.dr rr.dr rp2.dr rr2.dr
      generalize wr.drew = w2 at hcd hcall ⊢
      clear a1 a2 a3 a4 b1 b2 b3 b4 rp rr rp2 rr2
      go_wp2_with (go_at_call 67; refine hcall.mono ?_; rintro e w3 ⟨rfl, hc3⟩)
      go_roundw
      case rel => exact ⟨k + 1, by omega, by go_num, hcd.trans0 hc3⟩
      case measure => simp [intOf]; omega
    · go_wp2_with fail
      go_ret
      exact ⟨rfl, hcq⟩
end Go.Proofs.Ytncchbcoldgpbaa
