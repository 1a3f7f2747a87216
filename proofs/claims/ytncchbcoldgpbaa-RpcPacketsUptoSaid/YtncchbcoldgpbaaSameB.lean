/- The walks of what compares asks and answers, at those that read the same. -/
import Derived.Test.YtncchbcoldgpbaaSameA
namespace Go.Proofs.Ytncchbcoldgpbaa
open Go.RowKit
set_option linter.unusedVariables false
set_option linter.unusedSimpArgs false

set_option maxHeartbeats 16000000 in
set_option maxRecDepth 100000 in
theorem sameAsk {x : AskS} {A B C D : Option Addr} {an ac bn bc cn cc dn dc : Nat} {F G : Nat → Prop} {w : World} (ho : RdOs w F (.slice A an ac) x.ops) (hr : RdB w F (.slice B bn bc) x.reply) (ho2 : RdOs w G (.slice C cn cc) x.ops) (hr2 : RdB w G (.slice D dn dc) x.reply) :
    Calls Try.prog 33 #[.agg (askA x (.slice A an ac) (.slice B bn bc)), .agg (askA x (.slice C cn cc) (.slice D dn dc))] w fun e w' => e = .returned (.bool true) ∧ Chg Non w w' := by
  obtain ⟨ar, har⟩ : ∃ ar : Array Value, ar = askA x (.slice A an ac) (.slice B bn bc) := ⟨_, rfl⟩
  obtain ⟨br, hbr⟩ : ∃ br : Array Value, br = askA x (.slice C cn cc) (.slice D dn dc) := ⟨_, rfl⟩
  rw [← har, ← hbr]
  have HAR := hide har
  have HBR := hide hbr
  clear har hbr
  have hA := Blk.new w 28 ar
  have hcA := (Chg.refl Non w).alloc (.cells ar 28)
  have hc2 := hcA.alloc (.cells br 28)
  have hB2 := Blk.new (w.alloc (.cells ar 28)) 28 br
  have hA2 := hA.al (.cells br 28)
  have hsz : (w.alloc (.cells ar 28)).heap.size = w.heap.size + 1 := by simp
  rw [hsz] at hB2
  have HSA := hide (show ∀ w' : World, Blk w' w.heap.size 28 ar → (w'.cell? ⟨w.heap.size, 0, none⟩ = some (.int .i64 x.kind) ∧ w'.cell? ⟨w.heap.size, 1, none⟩ = some (.int .u64 (x.inc : Int)) ∧ w'.cell? ⟨w.heap.size, 2, none⟩ = some (.int .u64 (x.head : Int)) ∧ w'.cell? ⟨w.heap.size, 3, none⟩ = some (.int .u64 (x.boot : Int)) ∧ w'.cell? ⟨w.heap.size, 4, none⟩ = some (.int .u64 (x.tb : Int)) ∧ w'.cell? ⟨w.heap.size, 5, none⟩ = some (.int .u64 (x.ts : Int)) ∧ w'.cell? ⟨w.heap.size, 6, none⟩ = some (.int .u64 (x.tq : Int)) ∧ w'.cell? ⟨w.heap.size, 7, none⟩ = some (.slice A an ac) ∧ w'.cell? ⟨w.heap.size, 8, none⟩ = some (.bool x.commit) ∧ w'.cell? ⟨w.heap.size, 9, none⟩ = some (.slice B bn bc) ∧ w'.cell? ⟨w.heap.size, 10, none⟩ = some (.int .u64 (x.id : Int)) ∧ w'.cell? ⟨w.heap.size, 11, none⟩ = some (.string x.name)) from fun w' h => by
    rw [HAR.out] at h
    exact ⟨h.cell 0, h.cell 1, h.cell 2, h.cell 3, h.cell 4, h.cell 5, h.cell 6, h.cell 7, h.cell 8, h.cell 9, h.cell 10, h.cell 11⟩)
  have HSB := hide (show ∀ w' : World, Blk w' (w.heap.size + 1) 28 br → (w'.cell? ⟨w.heap.size + 1, 0, none⟩ = some (.int .i64 x.kind) ∧ w'.cell? ⟨w.heap.size + 1, 1, none⟩ = some (.int .u64 (x.inc : Int)) ∧ w'.cell? ⟨w.heap.size + 1, 2, none⟩ = some (.int .u64 (x.head : Int)) ∧ w'.cell? ⟨w.heap.size + 1, 3, none⟩ = some (.int .u64 (x.boot : Int)) ∧ w'.cell? ⟨w.heap.size + 1, 4, none⟩ = some (.int .u64 (x.tb : Int)) ∧ w'.cell? ⟨w.heap.size + 1, 5, none⟩ = some (.int .u64 (x.ts : Int)) ∧ w'.cell? ⟨w.heap.size + 1, 6, none⟩ = some (.int .u64 (x.tq : Int)) ∧ w'.cell? ⟨w.heap.size + 1, 7, none⟩ = some (.slice C cn cc) ∧ w'.cell? ⟨w.heap.size + 1, 8, none⟩ = some (.bool x.commit) ∧ w'.cell? ⟨w.heap.size + 1, 9, none⟩ = some (.slice D dn dc) ∧ w'.cell? ⟨w.heap.size + 1, 10, none⟩ = some (.int .u64 (x.id : Int)) ∧ w'.cell? ⟨w.heap.size + 1, 11, none⟩ = some (.string x.name)) from fun w' h => by
    rw [HBR.out] at h
    exact ⟨h.cell 0, h.cell 1, h.cell 2, h.cell 3, h.cell 4, h.cell 5, h.cell 6, h.cell 7, h.cell 8, h.cell 9, h.cell 10, h.cell 11⟩)
  obtain ⟨y0, y1, y2, y3, y4, y5, y6, y7, y8, y9, y10, y11⟩ := HSA.out _ hA2
  obtain ⟨z0, z1, z2, z3, z4, z5, z6, z7, z8, z9, z10, z11⟩ := HSB.out _ hB2
  clear hA hcA hsz
  go_enter Try.func33, Try.ntmps33
  go_wp2_with (first
    | (go_at_call 36; refine (sameOps (ho.c0 hc2) (ho2.c0 hc2)).mono ?_; rintro e w3 ⟨rfl, hd3⟩; have hc3 := hc2.trans0 hd3; have hA3 := hA2.c0 hd3; have hB3 := hB2.c0 hd3; clear y0 y1 y2 y3 y4 y5 y6 y7 y8 y9 y10 y11 z0 z1 z2 z3 z4 z5 z6 z7 z8 z9 z10 z11; obtain ⟨y0, y1, y2, y3, y4, y5, y6, y7, y8, y9, y10, y11⟩ := HSA.out _ hA3; obtain ⟨z0, z1, z2, z3, z4, z5, z6, z7, z8, z9, z10, z11⟩ := HSB.out _ hB3; clear hc2 hA2 hB2 hd3)
    | (go_at_call 13; refine (refEqual_true (hr.c0 hc3) (hr2.c0 hc3)).mono ?_; rintro e w4 ⟨rfl, hq4⟩; have hd4 := (Chg.refl Non _).quiet hq4; have hc4 := hc3.trans0 hd4; have hA4 := hA3.c0 hd4; have hB4 := hB3.c0 hd4; clear y0 y1 y2 y3 y4 y5 y6 y7 y8 y9 y10 y11 z0 z1 z2 z3 z4 z5 z6 z7 z8 z9 z10 z11; obtain ⟨y0, y1, y2, y3, y4, y5, y6, y7, y8, y9, y10, y11⟩ := HSA.out _ hA4; obtain ⟨z0, z1, z2, z3, z4, z5, z6, z7, z8, z9, z10, z11⟩ := HSB.out _ hB4; clear hc3 hA3 hB3 hd4 hq4))
  go_ret
  exact ⟨rfl, hc4⟩

set_option maxHeartbeats 16000000 in
set_option maxRecDepth 100000 in
theorem outcomeIs {x : OutS} {A B C D : Option Addr} {an ac bn bc cn cc dn dc : Nat} {F G : Nat → Prop} {w : World} (h1 : RdRows w F (.slice A an ac) x.rows) (h2 : RdWr w F (.slice B bn bc) x.ws) (h3 : RdRows w G (.slice C cn cc) x.rows) (h4 : RdWr w G (.slice D dn dc) x.ws) :
    Calls Try.prog 66 #[.agg (#[.int .i64 x.err, .int .i64 x.at_, .slice A an ac, .slice B bn bc]), .agg (#[.int .i64 x.err, .int .i64 x.at_, .slice C cn cc, .slice D dn dc])] w fun e w' => e = .returned (.bool true) ∧ Chg Non w w' := by
  obtain ⟨ar, har⟩ : ∃ ar : Array Value, ar = #[.int .i64 x.err, .int .i64 x.at_, .slice A an ac, .slice B bn bc] := ⟨_, rfl⟩
  obtain ⟨br, hbr⟩ : ∃ br : Array Value, br = #[.int .i64 x.err, .int .i64 x.at_, .slice C cn cc, .slice D dn dc] := ⟨_, rfl⟩
  rw [← har, ← hbr]
  have HAR := hide har
  have HBR := hide hbr
  clear har hbr
  have hA := Blk.new w 43 ar
  have hcA := (Chg.refl Non w).alloc (.cells ar 43)
  have hc2 := hcA.alloc (.cells br 32)
  have hB2 := Blk.new (w.alloc (.cells ar 43)) 32 br
  have hA2 := hA.al (.cells br 32)
  have hsz : (w.alloc (.cells ar 43)).heap.size = w.heap.size + 1 := by simp
  rw [hsz] at hB2
  have HSA := hide (show ∀ w' : World, Blk w' w.heap.size 43 ar → (w'.cell? ⟨w.heap.size, 0, none⟩ = some (.int .i64 x.err) ∧ w'.cell? ⟨w.heap.size, 1, none⟩ = some (.int .i64 x.at_) ∧ w'.cell? ⟨w.heap.size, 2, none⟩ = some (.slice A an ac) ∧ w'.cell? ⟨w.heap.size, 3, none⟩ = some (.slice B bn bc)) from fun w' h => by
    rw [HAR.out] at h
    exact ⟨h.cell 0, h.cell 1, h.cell 2, h.cell 3⟩)
  have HSB := hide (show ∀ w' : World, Blk w' (w.heap.size + 1) 32 br → (w'.cell? ⟨w.heap.size + 1, 0, none⟩ = some (.int .i64 x.err) ∧ w'.cell? ⟨w.heap.size + 1, 1, none⟩ = some (.int .i64 x.at_) ∧ w'.cell? ⟨w.heap.size + 1, 2, none⟩ = some (.slice C cn cc) ∧ w'.cell? ⟨w.heap.size + 1, 3, none⟩ = some (.slice D dn dc)) from fun w' h => by
    rw [HBR.out] at h
    exact ⟨h.cell 0, h.cell 1, h.cell 2, h.cell 3⟩)
  obtain ⟨y0, y1, y2, y3⟩ := HSA.out _ hA2
  obtain ⟨z0, z1, z2, z3⟩ := HSB.out _ hB2
  clear hA hcA hsz
  go_enter Try.func66, Try.ntmps66
  go_wp2_with (first
    | (go_at_call 82; refine (ref12SameRows (h1.c0 hc2) (h3.c0 hc2)).mono ?_; rintro e w3 ⟨rfl, hq3⟩; have hd3 := (Chg.refl Non _).quiet hq3; have hc3 := hc2.trans0 hd3; have hA3 := hA2.c0 hd3; have hB3 := hB2.c0 hd3; clear y0 y1 y2 y3 z0 z1 z2 z3; obtain ⟨y0, y1, y2, y3⟩ := HSA.out _ hA3; obtain ⟨z0, z1, z2, z3⟩ := HSB.out _ hB3; clear hc2 hA2 hB2 hd3 hq3)
    | (go_at_call 83; refine (ref6SameW (h2.c0 hc3) (h4.c0 hc3)).mono ?_; rintro e w4 ⟨rfl, hq4⟩; have hd4 := (Chg.refl Non _).quiet hq4; have hc4 := hc3.trans0 hd4; have hA4 := hA3.c0 hd4; have hB4 := hB3.c0 hd4; clear y0 y1 y2 y3 z0 z1 z2 z3; obtain ⟨y0, y1, y2, y3⟩ := HSA.out _ hA4; obtain ⟨z0, z1, z2, z3⟩ := HSB.out _ hB4; clear hc3 hA3 hB3 hd4 hq4))
  go_ret
  exact ⟨rfl, hc4⟩

set_option maxHeartbeats 16000000 in
set_option maxRecDepth 100000 in
theorem answerIs {x : AnsS} {A B C D E K : Option Addr} {an ac bn bc cn cc dn dc en ec kn kc : Nat} {F G : Nat → Prop} {w : World} (h1 : RdRows w F (.slice A an ac) x.out.rows) (h2 : RdWr w F (.slice B bn bc) x.out.ws) (h5 : RdB w F (.slice E en ec) x.reply) (h3 : RdRows w G (.slice C cn cc) x.out.rows) (h4 : RdWr w G (.slice D dn dc) x.out.ws) (h6 : RdB w G (.slice K kn kc) x.reply) :
    Calls Try.prog 35 #[.agg (ansA x (.slice A an ac) (.slice B bn bc) (.slice E en ec)), .agg (ansA x (.slice C cn cc) (.slice D dn dc) (.slice K kn kc))] w fun e w' => e = .returned (.bool true) ∧ Chg Non w w' := by
  obtain ⟨ar, har⟩ : ∃ ar : Array Value, ar = ansA x (.slice A an ac) (.slice B bn bc) (.slice E en ec) := ⟨_, rfl⟩
  obtain ⟨br, hbr⟩ : ∃ br : Array Value, br = ansA x (.slice C cn cc) (.slice D dn dc) (.slice K kn kc) := ⟨_, rfl⟩
  rw [← har, ← hbr]
  have HAR := hide har
  have HBR := hide hbr
  clear har hbr
  have hA := Blk.new w 45 ar
  have hcA := (Chg.refl Non w).alloc (.cells ar 45)
  have hc2 := hcA.alloc (.cells br 34)
  have hB2 := Blk.new (w.alloc (.cells ar 45)) 34 br
  have hA2 := hA.al (.cells br 34)
  have hsz : (w.alloc (.cells ar 45)).heap.size = w.heap.size + 1 := by simp
  rw [hsz] at hB2
  have HSA := hide (show ∀ w' : World, Blk w' w.heap.size 45 ar → (w'.cell? ⟨w.heap.size, 0, none⟩ = some (.int .i64 x.kind) ∧ w'.cell? ⟨w.heap.size, 1, none⟩ = some (.int .u64 (x.inc : Int)) ∧ w'.cell? ⟨w.heap.size, 2, none⟩ = some (.int .u64 (x.boot : Int)) ∧ w'.cell? ⟨w.heap.size, 3, none⟩ = some (.int .u64 (x.tb : Int)) ∧ w'.cell? ⟨w.heap.size, 4, none⟩ = some (.int .u64 (x.ts : Int)) ∧ w'.cell? ⟨w.heap.size, 5, none⟩ = some (.int .u64 (x.tq : Int)) ∧ w'.cell? ⟨w.heap.size, 6, none⟩ = some (.int .u64 (x.id : Int)) ∧ w'.cell? ⟨w.heap.size, 7, none⟩ = some (.int .i64 x.err) ∧ w'.cell? ⟨w.heap.size, 8, none⟩ = some (.int .i64 x.out.err) ∧ w'.cell? ⟨w.heap.size, 9, none⟩ = some (.int .i64 x.out.at_) ∧ w'.cell? ⟨w.heap.size, 10, none⟩ = some (.slice A an ac) ∧ w'.cell? ⟨w.heap.size, 11, none⟩ = some (.slice B bn bc) ∧ w'.cell? ⟨w.heap.size, 12, none⟩ = some (.bool x.commit) ∧ w'.cell? ⟨w.heap.size, 13, none⟩ = some (.slice E en ec) ∧ w'.cell? ⟨w.heap.size, 14, none⟩ = some (.int .u64 (x.at_ : Int))) from fun w' h => by
    rw [HAR.out] at h
    exact ⟨h.cell 0, h.cell 1, h.cell 2, h.cell 3, h.cell 4, h.cell 5, h.cell 6, h.cell 7, h.cell 8, h.cell 9, h.cell 10, h.cell 11, h.cell 12, h.cell 13, h.cell 14⟩)
  have HSB := hide (show ∀ w' : World, Blk w' (w.heap.size + 1) 34 br → (w'.cell? ⟨w.heap.size + 1, 0, none⟩ = some (.int .i64 x.kind) ∧ w'.cell? ⟨w.heap.size + 1, 1, none⟩ = some (.int .u64 (x.inc : Int)) ∧ w'.cell? ⟨w.heap.size + 1, 2, none⟩ = some (.int .u64 (x.boot : Int)) ∧ w'.cell? ⟨w.heap.size + 1, 3, none⟩ = some (.int .u64 (x.tb : Int)) ∧ w'.cell? ⟨w.heap.size + 1, 4, none⟩ = some (.int .u64 (x.ts : Int)) ∧ w'.cell? ⟨w.heap.size + 1, 5, none⟩ = some (.int .u64 (x.tq : Int)) ∧ w'.cell? ⟨w.heap.size + 1, 6, none⟩ = some (.int .u64 (x.id : Int)) ∧ w'.cell? ⟨w.heap.size + 1, 7, none⟩ = some (.int .i64 x.err) ∧ w'.cell? ⟨w.heap.size + 1, 8, none⟩ = some (.int .i64 x.out.err) ∧ w'.cell? ⟨w.heap.size + 1, 9, none⟩ = some (.int .i64 x.out.at_) ∧ w'.cell? ⟨w.heap.size + 1, 10, none⟩ = some (.slice C cn cc) ∧ w'.cell? ⟨w.heap.size + 1, 11, none⟩ = some (.slice D dn dc) ∧ w'.cell? ⟨w.heap.size + 1, 12, none⟩ = some (.bool x.commit) ∧ w'.cell? ⟨w.heap.size + 1, 13, none⟩ = some (.slice K kn kc) ∧ w'.cell? ⟨w.heap.size + 1, 14, none⟩ = some (.int .u64 (x.at_ : Int))) from fun w' h => by
    rw [HBR.out] at h
    exact ⟨h.cell 0, h.cell 1, h.cell 2, h.cell 3, h.cell 4, h.cell 5, h.cell 6, h.cell 7, h.cell 8, h.cell 9, h.cell 10, h.cell 11, h.cell 12, h.cell 13, h.cell 14⟩)
  obtain ⟨y0, y1, y2, y3, y4, y5, y6, y7, y8, y9, y10, y11, y12, y13, y14⟩ := HSA.out _ hA2
  obtain ⟨z0, z1, z2, z3, z4, z5, z6, z7, z8, z9, z10, z11, z12, z13, z14⟩ := HSB.out _ hB2
  clear hA hcA hsz
  go_enter Try.func35, Try.ntmps35
  go_wp2_with (first
    | (go_at_call 66; refine (outcomeIs (x := x.out) (h1.c0 hc2) (h2.c0 hc2) (h3.c0 hc2) (h4.c0 hc2)).mono ?_; rintro e w3 ⟨rfl, hd3⟩; have hc3 := hc2.trans0 hd3; have hA3 := hA2.c0 hd3; have hB3 := hB2.c0 hd3; clear y0 y1 y2 y3 y4 y5 y6 y7 y8 y9 y10 y11 y12 y13 y14 z0 z1 z2 z3 z4 z5 z6 z7 z8 z9 z10 z11 z12 z13 z14; obtain ⟨y0, y1, y2, y3, y4, y5, y6, y7, y8, y9, y10, y11, y12, y13, y14⟩ := HSA.out _ hA3; obtain ⟨z0, z1, z2, z3, z4, z5, z6, z7, z8, z9, z10, z11, z12, z13, z14⟩ := HSB.out _ hB3; clear hc2 hA2 hB2 hd3)
    | (go_at_call 13; refine (refEqual_true (h5.c0 hc3) (h6.c0 hc3)).mono ?_; rintro e w4 ⟨rfl, hq4⟩; have hd4 := (Chg.refl Non _).quiet hq4; have hc4 := hc3.trans0 hd4; have hA4 := hA3.c0 hd4; have hB4 := hB3.c0 hd4; clear y0 y1 y2 y3 y4 y5 y6 y7 y8 y9 y10 y11 y12 y13 y14 z0 z1 z2 z3 z4 z5 z6 z7 z8 z9 z10 z11 z12 z13 z14; obtain ⟨y0, y1, y2, y3, y4, y5, y6, y7, y8, y9, y10, y11, y12, y13, y14⟩ := HSA.out _ hA4; obtain ⟨z0, z1, z2, z3, z4, z5, z6, z7, z8, z9, z10, z11, z12, z13, z14⟩ := HSB.out _ hB4; clear hc3 hA3 hB3 hd4 hq4))
  go_ret
  exact ⟨rfl, hc4⟩

theorem info_rask : (Try.prog.info? 28).map (·.size) = some 12 := by kernel_rfl
set_option maxHeartbeats 16000000 in
set_option maxRecDepth 100000 in
theorem told {x : AskS} {A B : Option Addr} {an ac bn bc : Nat} {w : World} :
    Calls Try.prog 34 #[.agg (askA x (.slice A an ac) (.slice B bn bc))] w fun e w' => e = .returned (.agg (askA x (.slice A an ac) (.slice B bn bc))) ∧ Chg Non w w' := by
  obtain ⟨ar, har⟩ : ∃ ar, ar = askA x (.slice A an ac) (.slice B bn bc) := ⟨_, rfl⟩
  rw [← har]
  have hA := Blk.new w 41 ar
  have hcA := (Chg.refl Non w).alloc (.cells ar 41)
  have hcB := hcA.alloc (.cells zeroA 28)
  have hB2 := Blk.new (w.alloc (.cells ar 41)) 28 zeroA
  have hA2 := hA.al (.cells zeroA 28)
  have hsz : (w.alloc (.cells ar 41)).heap.size = w.heap.size + 1 := by simp
  rw [hsz] at hB2
  have HAR := hide har
  clear har
  go_enter Try.func34, Try.ntmps34
  go_upto_region 1 with fail
  obtain ⟨p, hp⟩ : ∃ p, p = w.heap.size := ⟨_, rfl⟩
  try rw [hsz]
  rw [← hp] at hA2 hB2 ⊢
  generalize hw2 : World.alloc (World.alloc w _) _ = w2
  rw [show (w.alloc (.cells ar 41)).alloc (.cells zeroA 28) = w2 from hw2] at hA2 hB2 hcB
  clear hw2 hsz hA hcA
  have HP := hide hp
  clear hp
  rw [HAR.out] at hA2
  have y0 : w2.cell? ⟨p, 0, none⟩ = some (.int .i64 x.kind) := hA2.cell 0
  have y1 : w2.cell? ⟨p, 1, none⟩ = some (.int .u64 (x.inc : Int)) := hA2.cell 1
  have y2 : w2.cell? ⟨p, 2, none⟩ = some (.int .u64 (x.head : Int)) := hA2.cell 2
  have y3 : w2.cell? ⟨p, 3, none⟩ = some (.int .u64 (x.boot : Int)) := hA2.cell 3
  have y4 : w2.cell? ⟨p, 4, none⟩ = some (.int .u64 (x.tb : Int)) := hA2.cell 4
  have y5 : w2.cell? ⟨p, 5, none⟩ = some (.int .u64 (x.ts : Int)) := hA2.cell 5
  have y6 : w2.cell? ⟨p, 6, none⟩ = some (.int .u64 (x.tq : Int)) := hA2.cell 6
  have y7 : w2.cell? ⟨p, 7, none⟩ = some (.slice A an ac) := hA2.cell 7
  have y8 : w2.cell? ⟨p, 8, none⟩ = some (.bool x.commit) := hA2.cell 8
  have y9 : w2.cell? ⟨p, 9, none⟩ = some (.slice B bn bc) := hA2.cell 9
  have y10 : w2.cell? ⟨p, 10, none⟩ = some (.int .u64 (x.id : Int)) := hA2.cell 10
  have y11 : w2.cell? ⟨p, 11, none⟩ = some (.string x.name) := hA2.cell 11
  go_wp2_with (refine wpList_plain rfl fun _ hK => wp_store_any info_rask (.tmp 2) (.tmp 23) rfl (p + 1) (askA x (.slice A an ac) (.slice B bn bc)) rfl rfl zeroA hB2 rfl rfl (by simp [askA, Value.oneCell']) fun w9 hP9 hc9 => hK _ _ ?_)
  refine bodyPost_ret (results_cell_row (P := Try.prog) rfl _ _ (p + 1) 28 _ (0, 0) _ rfl hP9 Try.underlying28 rfl info_rask) rfl ⟨by rw [HAR.out], hcB.trans hc9 fun k hk e => by have := HP.out; omega⟩
end Go.Proofs.Ytncchbcoldgpbaa
