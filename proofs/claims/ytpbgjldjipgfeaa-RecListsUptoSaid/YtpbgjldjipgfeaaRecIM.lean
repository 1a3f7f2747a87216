/- The walks of groyneref06.SameWrites, SameRanges and Same at records that are alike. -/
import Derived.Test.YtpbgjldjipgfeaaRecF
import Derived.Test.YtpbgjldjipgfeaaRefA
namespace Go.Proofs.Ytpbgjldjipgfeaa
open Go.RowKit
set_option linter.unusedVariables false

theorem RdW.dn {w : World} {F : Nat → Prop} {v : Value} {l : List WrS} (h : RdW w F v l) (n : Nat) : RdW (w.drewN n) F v l := h.c0 ((Chg.refl Non w).drewN n)

set_option maxHeartbeats 4000000 in
theorem ref6SameW {v u : Value} {l : List WrS} {F G : Nat → Prop} {w : World} (ha : RdW w F v l) (hb : RdW w G u l) :
    Calls Try.prog 33 #[v, u] w fun e w' => e = .returned (.bool true) ∧ ∃ k, w' = w.drewN k := by
  obtain ⟨A, c, rfl, hc, hm⟩ := ha.shape
  obtain ⟨B, d, rfl, hd, hn⟩ := hb.shape
  unfold maxLen at hm hn
  have he : ((l.length : Int) != (l.length : Int)) = false := by simp
  go_enter Try.func33, Try.ntmps33
  go_wp2_with fail
  go_loopw [5] (fun iv wr => ∃ (k : Nat), k ≤ l.length ∧ iv = .int .i64 k ∧ Quiet w wr) (fun iv _ => l.length - (intOf iv).toNat)
  case atStart => exact ⟨0, Nat.zero_le _, rfl, ⟨0, rfl⟩⟩
  case round =>
    obtain ⟨k, hk, rfl, hq⟩ := hrel
    have hcq := (Chg.refl Non w).quiet hq
    by_cases h1 : k < l.length
    · obtain ⟨ad, p, r, rfl, _, a1, a2, a3, rp, rr⟩ := (ha.c0 hcq).at_ h1
      obtain ⟨bd, p2, r2, rfl, _, b1, b2, b3, rp2, rr2⟩ := (hb.c0 hcq).at_ h1
      have hcall1 := fun (j : Nat) => (refEqual_true (rp.dn j) (rp2.dn j))
      have hcall2 := fun (j : Nat) => (refEqual_true (rr.dn j) (rr2.dn j))
      obtain ⟨f, hf⟩ : ∃ f, f = l[k].f := ⟨_, rfl⟩
      rw [← hf] at a3 b3
      have hff : (f != f) = false := by simp
      have h1i : (k : Int) < (l.length : Int) := by omega
      have h0i : (0 : Int) ≤ (k : Int) := by omega
      clear hf rp rr rp2 rr2
      go_wp2_with fail
      go_quiet ((go_at_call 10; first | exact Calls.quiet_of (hcall1 _) | exact Calls.quiet_of (hcall2 _)))
      go_wp2_with fail
      go_roundw
      case rel => exact ⟨k + 1, by omega, by go_num, hq.dn _⟩
      case measure => simp [intOf]; omega
    · go_wp2_with fail
      go_ret
      exact ⟨rfl, hq⟩

set_option maxHeartbeats 4000000 in
theorem ref6SameR {v u : Value} {l : List WrS} {F G : Nat → Prop} {w : World} (ha : RdW w F v l) (hb : RdW w G u l) :
    Calls Try.prog 34 #[v, u] w fun e w' => e = .returned (.bool true) ∧ ∃ k, w' = w.drewN k := by
  obtain ⟨A, c, rfl, hc, hm⟩ := ha.shape
  obtain ⟨B, d, rfl, hd, hn⟩ := hb.shape
  unfold maxLen at hm hn
  have he : ((l.length : Int) != (l.length : Int)) = false := by simp
  go_enter Try.func34, Try.ntmps34
  go_wp2_with fail
  go_loopw [5] (fun iv wr => ∃ (k : Nat), k ≤ l.length ∧ iv = .int .i64 k ∧ Quiet w wr) (fun iv _ => l.length - (intOf iv).toNat)
  case atStart => exact ⟨0, Nat.zero_le _, rfl, ⟨0, rfl⟩⟩
  case round =>
    obtain ⟨k, hk, rfl, hq⟩ := hrel
    have hcq := (Chg.refl Non w).quiet hq
    by_cases h1 : k < l.length
    · obtain ⟨ad, p, r, rfl, _, a1, a2, a3, rp, rr⟩ := (ha.c0 hcq).at_ h1
      obtain ⟨bd, p2, r2, rfl, _, b1, b2, b3, rp2, rr2⟩ := (hb.c0 hcq).at_ h1
      have hcall1 := fun (j : Nat) => (refEqual_true (rp.dn j) (rp2.dn j))
      have hcall2 := fun (j : Nat) => (refEqual_true (rr.dn j) (rr2.dn j))
      obtain ⟨f, hf⟩ : ∃ f, f = l[k].f := ⟨_, rfl⟩
      rw [← hf] at a3 b3
      have hff : (f != f) = false := by simp
      have h1i : (k : Int) < (l.length : Int) := by omega
      have h0i : (0 : Int) ≤ (k : Int) := by omega
      clear hf rp rr rp2 rr2
      go_wp2_with fail
      go_quiet ((go_at_call 10; first | exact Calls.quiet_of (hcall1 _) | exact Calls.quiet_of (hcall2 _)))
      go_wp2_with fail
      go_roundw
      case rel => exact ⟨k + 1, by omega, by go_num, hq.dn _⟩
      case measure => simp [intOf]; omega
    · go_wp2_with fail
      go_ret
      exact ⟨rfl, hq⟩
end Go.Proofs.Ytpbgjldjipgfeaa

namespace Go.Proofs.Ytpbgjldjipgfeaa
open Go.RowKit
set_option linter.unusedVariables false

theorem ba_ne (s : ByteArray) : (s != s) = false := by
  show (!(s.data == s.data)) = false
  simp

set_option maxHeartbeats 8000000 in
set_option maxRecDepth 100000 in
theorem ref6Same {x : RcS} {av bv cv dv av' bv' cv' dv' : Value} {F G : Nat → Prop} {w : World} (ha : RecR w F x av bv cv dv) (hb : RecR w G x av' bv' cv' dv') :
    Calls Try.prog 12 #[.agg (recC x av bv cv dv), .agg (recC x av' bv' cv' dv')] w fun e w' => e = .returned (.bool true) ∧ Chg Non w w' := by
  have hk0 : Chg Non w ((w.alloc (.cells (recC x av bv cv dv) 30)).alloc (.cells (recC x av' bv' cv' dv') 30)) := ((Chg.refl Non w).alloc _).alloc _
  have hb0 := (Blk.new w 30 (recC x av bv cv dv)).al (.cells (recC x av' bv' cv' dv') 30)
  have hb1 := Blk.new (w.alloc (.cells (recC x av bv cv dv) 30)) 30 (recC x av' bv' cv' dv')
  rw [show (w.alloc (.cells (recC x av bv cv dv) 30)).heap.size = w.heap.size + 1 from by simp] at hb1
  have ha0 := ha.c0 hk0
  have hb00 := hb.c0 hk0
  clear ha hb
  unfold recC at hk0 hb0 hb1 ha0 hb00 ⊢
  go_enter Try.func12, Try.ntmps12
  go_upto_region 1 with fail
  generalize World.alloc _ _ = w0 at hb0 hb1 hk0 ha0 hb00 ⊢
  obtain ⟨c0, c1, c2, c3, c4, c5, c6, c7, c8, c9, c10⟩ := rblk hb0
  obtain ⟨d0, d1, d2, d3, d4, d5, d6, d7, d8, d9, d10⟩ := rblk hb1
  obtain ⟨C, nc, cc, rfl⟩ := ha0.rep.sl
  obtain ⟨S, cs, rfl, hcs, hms⟩ := ha0.sh.shape
  obtain ⟨T, ct, rfl, hct, hmt⟩ := hb00.sh.shape
  have e1 : (x.kind != x.kind) = false := by simp
  have e2 : (x.commit != x.commit) = false := by simp
  have e3 : ((x.id : Int) != (x.id : Int)) = false := by simp
  have e4 := ba_ne x.name
  have hcall := refEqual_true ha0.rep hb00.rep
  unfold maxLen at hms hmt
  have hls : x.shards.length ≤ 9223372036854775807 := by omega
  go_wp2_with (go_at_call 10; refine hcall.mono ?_; rintro e w1 ⟨rfl, hq1⟩; have hk1 := (Chg.refl Non w0).quiet hq1; have c7 := hk1.cell c7 (fun h => h); have d7 := hk1.cell d7 (fun h => h))
  clear hcall hq1 c0 c1 c2 c3 c4 c5 c6 c7 c8 c9 c10 d0 d1 d2 d3 d4 d5 d6 d7 d8 d9 d10 e1 e2 e3 e4
  obtain ⟨n, hn⟩ : ∃ n, n = x.shards.length := ⟨_, rfl⟩
  have HN := hide hn
  go_loopw [5] (fun iv wr => ∃ (k : Nat), k ≤ x.shards.length ∧ iv = .int .i64 k ∧ Chg Non w0 wr) (fun iv _ => x.shards.length - (intOf iv).toNat)
  case atStart => exact ⟨0, Nat.zero_le _, rfl, hk1⟩
  case round =>
    obtain ⟨k, hk, rfl, hcw⟩ := hrel
    have hbA := hb0.c0 hcw
    have hbB := hb1.c0 hcw
    obtain ⟨c0, c1, c2, c3, c4, c5, c6, c7, c8, c9, c10⟩ := rblk hbA
    obtain ⟨d0, d1, d2, d3, d4, d5, d6, d7, d8, d9, d10⟩ := rblk hbB
    clear c0 c1 c2 c3 c6 c8 c9 c10 d0 d1 d2 d3 d6 d8 d9 d10
    by_cases h1 : k < x.shards.length
    · obtain ⟨ad, rfl, _, a1⟩ := (RdI.c0 ha0.sh hcw).at_ h1
      obtain ⟨bd, rfl, _, b1⟩ := (RdI.c0 hb00.sh hcw).at_ h1
      obtain ⟨y, hy⟩ : ∃ y, y = x.shards[k] := ⟨_, rfl⟩
      rw [← hy] at a1 b1
      have hyy : (y != y) = false := by simp
      have h1i : (k : Int) < (x.shards.length : Int) := by omega
      have h0i : (0 : Int) ≤ (k : Int) := by omega
      clear hy hn
      go_wp2_with fail
      go_quiet (fail)
      go_wp2_with fail
      go_roundw
      case rel => exact ⟨k + 1, by omega, by go_num, hcw.drewN _⟩
      case measure => simp [intOf]; omega
    · have hw := fun (w' : World) (h : Chg Non w0 w') => ref6SameW (ha0.ws.c0 h) (hb00.ws.c0 h)
      have hr := fun (w' : World) (h : Chg Non w0 w') => ref6SameR (ha0.rs.c0 h) (hb00.rs.c0 h)
      have HW := hide (hw _ hcw)
      have HR := hide hr
      have c5' := fun (q : Nat) => (show (wr.drewN q).cell? ⟨w.heap.size, 5, none⟩ = some bv from c5)
      have d5' := fun (q : Nat) => (show (wr.drewN q).cell? ⟨w.heap.size + 1, 5, none⟩ = some bv' from d5)
      clear hw hr hn
      go_wp2_with (first
        | (have z := hq2; go_at_call 34; refine (HR.out _ (hcw.quiet hq2)).mono ?_; rintro e w3 ⟨rfl, hq3⟩)
        | (go_at_call 33; refine HW.out.mono ?_; rintro e w2 ⟨rfl, q2, rfl⟩; have hq2 : ∃ k, wr.drewN q2 = wr.drewN k := ⟨q2, rfl⟩))
      go_ret
      exact ⟨rfl, (hk0.trans0 (hcw.quiet hq2)).quiet hq3⟩
end Go.Proofs.Ytpbgjldjipgfeaa
