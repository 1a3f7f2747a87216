/- The walk of groyneref03.cell. -/
import Derived.Test.YtijnfjnkjojjnaaSeal
import Derived.Test.YtijnfjnkjojjnaaRefChk
import Derived.Deep.RegionHeld3
namespace Go.Proofs.Ytijnfjnkjojjnaa
open Go.RowKit

def QuadAt (g : Nat) (p : Quad) (w : World) : Prop := w.cell? ⟨g, 0, none⟩ = some (.int .u8 (p.1.toNat : Int)) ∧ w.cell? ⟨g, 1, none⟩ = some (.int .u8 (p.2.1.toNat : Int)) ∧ w.cell? ⟨g, 2, none⟩ = some (.int .u8 (p.2.2.1.toNat : Int)) ∧ w.cell? ⟨g, 3, none⟩ = some (.int .u8 (p.2.2.2.toNat : Int))
theorem QuadAt.c0 {w w' : World} {g : Nat} {p : Quad} (h : QuadAt g p w) (hc : Chg Non w w') : QuadAt g p w' :=
  ⟨hc.cell h.1 id, hc.cell h.2.1 id, hc.cell h.2.2.1 id, hc.cell h.2.2.2 id⟩
theorem qlits (q : Quad) : (#[Value.int .u8 (q.1.toNat : Int), .int .u8 (q.2.1.toNat : Int), .int .u8 (q.2.2.1.toNat : Int), .int .u8 (q.2.2.2.toNat : Int)] : Array Value).toList = bvs (qlist q) := rfl
set_option maxHeartbeats 1000000 in
theorem refCell {u : Value} {b : List UInt8} {F : Nat → Prop} {w : World} (hr : RdB w F u b) (hl : b.length + 4 ≤ 140737488355328) (hl2 : b.length ≤ 1000000000000) :
    Calls Try.prog 43 #[u] w fun e w' => ∃ v', e = .returned v' ∧ OwnB w' w.heap.size v' (cellB b) ∧ Chg Non w w' := by
  have hr0 := hr.lt
  go_enter Try.func43, Try.ntmps43
  go_wp2_with fail
  refine (refCheck hr hl2).mono ?_
  rintro e w2 ⟨rfl, g2⟩
  obtain ⟨q, hq⟩ : ∃ q, q = chk b := ⟨_, rfl⟩
  have HQ := hide hq
  rw [← hq]
  clear hq
  simp only [qv, bv]
  go_wp2_with fail
  have hblk := Blk.new w2 28 #[.int .u8 (q.1.toNat : Int), .int .u8 (q.2.1.toNat : Int), .int .u8 (q.2.2.1.toNat : Int), .int .u8 (q.2.2.2.toNat : Int)]
  have c3 := g2.alloc (.cells #[.int .u8 (q.1.toNat : Int), .int .u8 (q.2.1.toNat : Int), .int .u8 (q.2.2.1.toNat : Int), .int .u8 (q.2.2.2.toNat : Int)] 28)
  have hr3 := hr0.c0 c3
  generalize w2.alloc (.cells #[.int .u8 (q.1.toNat : Int), .int .u8 (q.2.1.toNat : Int), .int .u8 (q.2.2.1.toNat : Int), .int .u8 (q.2.2.2.toNat : Int)] 28) = w3 at hblk c3 hr3 ⊢
  generalize w2.heap.size = g at hblk ⊢
  clear g2 hr0 hr
  have q1 : w3.drew.cell? ⟨g, 0, none⟩ = some (.int .u8 (q.1.toNat : Int)) := hblk.cell 0
  have q2 : w3.drew.cell? ⟨g, 1, none⟩ = some (.int .u8 (q.2.1.toNat : Int)) := hblk.cell 1
  have q3 : w3.drew.cell? ⟨g, 2, none⟩ = some (.int .u8 (q.2.2.1.toNat : Int)) := hblk.cell 2
  have q4 : w3.drew.cell? ⟨g, 3, none⟩ = some (.int .u8 (q.2.2.2.toNat : Int)) := hblk.cell 3
  have hl1 : b.length ≤ 140737488355328 := by omega
  have hlen : b.length + (qlist q).length ≤ 140737488355328 := by simp [qlist, ql]; omega
  have hlA : RdB (w3.alloc (.cells #[.int .u8 (q.1.toNat : Int), .int .u8 (q.2.1.toNat : Int), .int .u8 (q.2.2.1.toNat : Int), .int .u8 (q.2.2.2.toNat : Int)] 5)).drew (fun k => k = w3.heap.size) (.slice (some ⟨w3.heap.size, 0, none⟩) 4 4) (qlist q) := (RdB.lit w3 5 (0, 0) _ (qlist q) 4 rfl rfl (by simp [maxLen])).dr
  have hlB := fun (wc : World) => RdB.lit wc 5 (0, 0) #[.int .u8 (q.1.toNat : Int), .int .u8 (q.2.1.toNat : Int), .int .u8 (q.2.2.1.toNat : Int), .int .u8 (q.2.2.2.toNat : Int)] (qlist q) 4 (qlits q) rfl (by simp [maxLen])
  have hrA := (hr3.al (.cells #[.int .u8 (q.1.toNat : Int), .int .u8 (q.2.1.toNat : Int), .int .u8 (q.2.2.1.toNat : Int), .int .u8 (q.2.2.2.toNat : Int)] 5)).dr
  have hrB := hr3.dr
  have c3d := c3.drew
  have cA := (c3.alloc (.cells #[.int .u8 (q.1.toNat : Int), .int .u8 (q.2.1.toNat : Int), .int .u8 (q.2.2.1.toNat : Int), .int .u8 (q.2.2.2.toNat : Int)] 5)).drew
  have hszA := cA.size
  have hsz3 : w.heap.size ≤ w3.drew.heap.size := c3.size
  have hqd : w3.drew.cell? ⟨g, 0, none⟩ = some (.int .u8 (q.1.toNat : Int)) ∧ w3.drew.cell? ⟨g, 1, none⟩ = some (.int .u8 (q.2.1.toNat : Int)) ∧ w3.drew.cell? ⟨g, 2, none⟩ = some (.int .u8 (q.2.2.1.toNat : Int)) ∧ w3.drew.cell? ⟨g, 3, none⟩ = some (.int .u8 (q.2.2.2.toNat : Int)) := ⟨q1, q2, q3, q4⟩
  clear q1 q2 q3 q4
  have hq0 : QuadAt g q w3 := hqd
  have cB := ((Chg.refl Non w3).alloc (.cells #[.int .u8 (q.1.toNat : Int), .int .u8 (q.2.1.toNat : Int), .int .u8 (q.2.2.1.toNat : Int), .int .u8 (q.2.2.2.toNat : Int)] 5)).drew
  have hszB := cB.size
  go_region_held3 (fun w' => w'.cell? ⟨g, 0, none⟩ = some (.int .u8 (q.1.toNat : Int)) ∧ w'.cell? ⟨g, 1, none⟩ = some (.int .u8 (q.2.1.toNat : Int)) ∧ w'.cell? ⟨g, 2, none⟩ = some (.int .u8 (q.2.2.1.toNat : Int)) ∧ w'.cell? ⟨g, 3, none⟩ = some (.int .u8 (q.2.2.2.toNat : Int))) (first | exact hqd | exact QuadAt.c0 hq0 cB | exact QuadAt.c0 hq0 gX | exact QuadAt.c0 hqd gX | exact QuadAt.c0 hqd hcg | exact QuadAt.c0 hqd (hcg.alloc _) | exact QuadAt.c0 hq0 (cB.trans0 hcg)) (first
    | (go_at_call 18; refine (refCopy hrB hl1).mono ?_; rintro e wc ⟨u, rfl, hu, hcg⟩)
    | (go_at_call 18; refine (refCopy hrA hl1).mono ?_; rintro e wc ⟨u, rfl, hu, hcg⟩)
    | (refine step_B rfl _ _ rfl hu rfl (RdB.c0 hlA hcg) rfl hlen hcg.size ?_; intro v' wx hown hgr hat; have gch := (cA.trans0 hcg).own hgr (fun k hk => Nat.le_trans hszA (hu.lt k hk).1); have hown2 := hown.low hszA; have gX : Chg Non w3 wx := (cB.trans0 hcg).own hgr (fun k hk => Nat.le_trans hszB (hu.lt k hk).1))
    | (refine step_B rfl _ _ rfl (hu.al _) rfl (hlB _) rfl hlen (Nat.le_trans hcg.size (sz_al _ _)) ?_; intro v' wx hown hgr hat; have gch := ((c3d.trans0 hcg).alloc _).own hgr (fun k hk => Nat.le_trans hsz3 (hu.lt k hk).1); have hown2 := hown.low hsz3; have gX : Chg Non w3.drew wx := (hcg.alloc _).own hgr (fun k hk => (hu.lt k hk).1)))
  all_goals
    go_wp2_with fail
    go_ret
    refine ⟨_, rfl, ?_, gch⟩
    rw [cellB, ← HQ.out]
    exact hown2
end Go.Proofs.Ytijnfjnkjojjnaa
