/- The walks of pack's Writer. -/
import Derived.Test.YtncchbcoldgpbaaBaM
import Derived.Deep.RegionHeld3
import Derived.Deep.RegionLaw
import Derived.LoopN
import Derived.Test.YtncchbcoldgpbaaOrdT
import Derived.Deep.Cut
import Derived.Deep.CutRange
open List (getElem_toArray getElem_cons_succ getElem_cons_zero setIfInBounds_toArray set_cons_zero set_cons_succ)
namespace Go.Proofs.Ytncchbcoldgpbaa
open Go.RowKit
variable {ty : TypeId} {rs : List Value}

/-- the block g is a writer that has put l; its slice is v -/
structure Wtr (ty : TypeId) (rs : List Value) (w : World) (base g : Nat) (v : Value) (l : List UInt8) : Prop where
  blk : Blk w g ty (v :: rs).toArray
  own : OwnB w base v l
  ne : v.ownBlock ≠ some g
  le : base ≤ g
/-- the new slice lies where the old one lay, or in new memory -/
def Grew (w : World) (v v' : Value) : Prop := v'.ownBlock = v.ownBlock ∨ ∃ k, v'.ownBlock = some k ∧ w.heap.size ≤ k
/-- the blocks of a writer -/
def WB (g : Nat) (v : Value) : Nat → Prop := fun k => k = g ∨ v.ownBlock = some k
section
variable {w w' : World} {S : Nat → Prop} {base g : Nat} {v v' : Value} {l m : List UInt8}
theorem Wtr.chg (h : Wtr ty rs w base g v l) (hc : Chg S w w') (hS : ∀ k, WB g v k → ¬ S k) : Wtr ty rs w' base g v l :=
  ⟨h.blk.chg hc (hS g (.inl rfl)), h.own.chg hc fun k hk => hS k (.inr hk), h.ne, h.le⟩
theorem Wtr.c0 (h : Wtr ty rs w base g v l) (hc : Chg Non w w') : Wtr ty rs w' base g v l := h.chg hc fun _ _ h => h
theorem Wtr.al (h : Wtr ty rs w base g v l) (o : Obj) : Wtr ty rs (w.alloc o) base g v l := h.c0 ((Chg.refl Non w).alloc o)
theorem Wtr.lt (h : Wtr ty rs w base g v l) : ∀ k, WB g v k → base ≤ k ∧ k < w.heap.size := fun k hk => by
  rcases hk with rfl | hk
  · exact ⟨h.le, h.blk.lt⟩
  · exact h.own.lt k hk
/-- behind an append and the store of what it gave -/
theorem Wtr.put {w2 : World} (h : Wtr ty rs w base g v l) (hg : w.grownBy w2 v.ownBlock) (hat : v'.ownBlock = v.ownBlock ∨ v'.ownBlock = some w.heap.size) (hown : OwnB w2 base v' m) :
    Wtr ty rs (w2.setCell ⟨g, 0, none⟩ v') base g v' m ∧ Chg (WB g v) w (w2.setCell ⟨g, 0, none⟩ v') := by
  have hb := h.blk.chg (Chg.of_grown hg) (fun e => h.ne e.symm)
  have hne : v'.ownBlock ≠ some g := by
    rcases hat with e | e
    · rw [e]; exact h.ne
    · rw [e]; intro e2; injection e2 with e2; have := h.blk.lt; omega
  refine ⟨⟨by simpa using hb.set_ 0 v', hown.chg (Chg.setCell (S := fun k => k = g) (Chg.refl _ w2) (p := ⟨g, 0, none⟩) (fun _ => rfl) v') (fun k hk e => hne (e ▸ hk)), hne, h.le⟩, ?_⟩
  refine Chg.setCell (S := WB g v) ?_ (p := ⟨g, 0, none⟩) (fun _ => .inl rfl) v'
  exact (Chg.of_grown hg).mono fun k _ hk => .inr hk.symm
end
theorem Wtr.cellx {w wc wx : World} {base g : Nat} {v : Value} {l : List UInt8} (h : Wtr ty rs w base g v l) (hcg : Chg Non w wc) (hgr : wc.grownBy wx v.ownBlock) : wx.cell? ⟨g, 0, none⟩ = some v ∧ wx.frozen? ⟨g, 0, none⟩ = false := by
  have hb := (h.blk.c0 hcg).chg (Chg.of_grown hgr) (fun e => h.ne e.symm)
  exact ⟨by rw [hb.cell]; rfl, hb.frozen 0⟩
theorem OwnB.shapeH {w : World} {base : Nat} {v : Value} {l : List UInt8} (h : OwnB w base v l) : ∃ A n c, v = .slice A n c := by
  obtain ⟨A, c, e, _⟩ := h.shape
  exact ⟨A, _, c, e⟩
theorem cell_c0 {w w' : World} {p : Addr} {u : Value} (h : w.cell? p = some u) (hc : Chg Non w w') : w'.cell? p = some u := hc.cell h id

theorem wtr_fin {w wc wx : World} {base g : Nat} {v v2 : Value} {l m : List UInt8} (h : Wtr ty rs w.drew base g v l) (hcg : Chg Non w.drew wc) (hgr : wc.grownBy wx v.ownBlock)
    (hat : v2.ownBlock = v.ownBlock ∨ v2.ownBlock = some wc.heap.size) (hown : OwnB wx base v2 m) :
    ∃ v', Wtr ty rs (wx.setCell ⟨g, 0, none⟩ v2) base g v' m ∧ Chg (WB g v) w (wx.setCell ⟨g, 0, none⟩ v2) ∧ Grew w v v' := by
  obtain ⟨h1, h2⟩ := (h.c0 hcg).put hgr hat hown
  refine ⟨v2, h1, (((Chg.refl (WB g v) w).drew).trans0 hcg).trans h2 fun _ _ h => h, ?_⟩
  rcases hat with e | e
  · exact .inl e
  · exact .inr ⟨_, e, hcg.size⟩
theorem Grew.refl (w : World) (v : Value) : Grew w v v := .inl rfl
theorem Grew.trans {w w1 : World} {v v1 v2 : Value} (h : Grew w v v1) (hs : w.heap.size ≤ w1.heap.size) (h' : Grew w1 v1 v2) : Grew w v v2 := by
  rcases h' with e | ⟨k, e, hk⟩
  · rcases h with e' | ⟨k, e', hk⟩
    · exact .inl (e.trans e')
    · exact .inr ⟨k, e.trans e', hk⟩
  · exact .inr ⟨k, e, Nat.le_trans hs hk⟩
theorem Grew.wb {w : World} {v v2 : Value} {g k : Nat} (h : Grew w v v2) (hk : k < w.heap.size) (hb : WB g v2 k) : WB g v k := by
  rcases hb with rfl | hb
  · exact .inl rfl
  · rcases h with e | ⟨j, e, hj⟩
    · exact .inr (e ▸ hb)
    · rw [e] at hb; injection hb with hb; omega
theorem Grew.low {w w1 : World} {v v2 : Value} (h : Grew w1 v v2) (hs : w.heap.size ≤ w1.heap.size) : Grew w v v2 := (Grew.refl w v).trans hs h
theorem Grew.of_at {w : World} {v v2 : Value} (h : v2.ownBlock = v.ownBlock ∨ v2.ownBlock = some w.heap.size) : Grew w v v2 := by
  rcases h with e | e
  · exact .inl e
  · exact .inr ⟨_, e, Nat.le_refl _⟩
theorem Chg.wtr {w w1 w2 : World} {g : Nat} {v v1 : Value} (h : Chg (WB g v) w w1) (hG : Grew w v v1) (h' : Chg (WB g v1) w1 w2) : Chg (WB g v) w w2 :=
  h.trans h' fun _ hk hb => hG.wb hk hb

set_option maxRecDepth 100000 in
set_option maxHeartbeats 400000 in
theorem wtrNum {base g : Nat} {v x : Value} {l : List UInt8} {ns : List Nat} {F : Nat → Prop} {w : World} (h : Wtr ty rs w base g v l) (hr : RdU w F x ns) (hl : l.length + 9 * ns.length ≤ 140737488355328) :
    Calls Try.prog 73 #[.pointer (some ⟨g, 0, none⟩), x] w fun e w' =>
      e = .returned (.tuple #[]) ∧ ∃ v', Wtr ty rs w' base g v' (l ++ numsB ns) ∧ Chg (WB g v) w w' ∧ Grew w v v' := by
  have k0 := h.blk.cell 0
  have f0 := h.blk.frozen 0
  simp at k0
  have hown : OwnB w.drew base v l := h.own
  have hnl := numsB_length ns
  have hsum : l.length + (numsB ns).length ≤ 140737488355328 := by omega
  have hbs : base ≤ w.drew.heap.size := by have h1 := h.blk.lt; have h2 := h.le; exact Nat.le_trans h2 (Nat.le_of_lt h1)
  have h9 : 9 * ns.length ≤ 140737488355328 := by omega
  have hd : Wtr ty rs w.drew base g v l := h.c0 ((Chg.refl Non w).drew)
  have kd : w.drew.cell? ⟨g, 0, none⟩ = some v := k0
  go_enter Try.func73, Try.ntmps73
  go_region_law (first
    | (refine step_B rfl _ _ rfl (OwnB.chg hown hcg (fun _ _ h => h)) rfl hu.rd rfl hsum (Nat.le_trans hbs hcg.size) ?_; intro v' wx hown2 hgr hat; obtain ⟨kx, fx⟩ := Wtr.cellx hd hcg hgr; obtain ⟨A2, c2, rfl, hc2, hm2⟩ := OwnB.shape hown2)
    | (go_simp; go_at_call 48; refine (packNumber (RdU.c0 hr (Chg.drew (Chg.refl Non w))) h9).mono ?_; rintro e wc ⟨u, rfl, hu, hcg⟩; have kc := cell_c0 kd hcg))
  all_goals
    rw [List.length_append] at hown2 hat
    exact bodyPost_end (results_none rfl _ _ _) rfl ⟨rfl, wtr_fin hd hcg hgr hat hown2⟩

theorem flatB_take_le (ll : List (List UInt8)) (k : Nat) : (flatB (ll.take k)).length ≤ (flatB ll).length := by
  have h : flatB ll = flatB (ll.take k) ++ flatB (ll.drop k) := by
    unfold flatB
    rw [← List.flatMap_append, List.take_append_drop]
  rw [h, List.length_append]; omega

set_option maxRecDepth 100000 in
set_option maxHeartbeats 1000000 in
theorem wtrText {base g : Nat} {v x : Value} {l : List UInt8} {ll : List (List UInt8)} {F : Nat → Prop} {w : World} (h : Wtr ty rs w base g v l) (hr : RdBB w F x ll) (hF : ∀ k, F k → ¬ WB g v k)
    (hl : l.length + (flatB ll).length + 9 ≤ 140737488355328) :
    Calls Try.prog 74 #[.pointer (some ⟨g, 0, none⟩), x] w fun e w' =>
      e = .returned (.tuple #[]) ∧ ∃ v', Wtr ty rs w' base g v' (l ++ flatB ll) ∧ Chg (WB g v) w w' ∧ Grew w v v' := by
  obtain ⟨A, c, rfl, hc, hm⟩ := hr.shape
  unfold maxLen at hm
  have hr0 := hr.lt
  have hF0 : ∀ k, F k ∧ k < w.heap.size → ∀ v', Grew w v v' → ¬ WB g v' k := fun k hk v' hG hb => hF k hk.1 (hG.wb hk.2 hb)
  clear hr hF
  go_enter Try.func74, Try.ntmps74
  go_wp2_with fail
  go_loopw [8] (fun iv wr => ∃ (k : Nat) (v' : Value), k ≤ ll.length ∧ iv = .int .i64 k ∧ Wtr ty rs wr base g v' (l ++ flatB (ll.take k)) ∧ RdBB wr (fun k => F k ∧ k < w.heap.size) (.slice A ll.length c) ll ∧ Chg (WB g v) w wr ∧ Grew w v v') (fun iv _ => ll.length - (intOf iv).toNat)
  case atStart => exact ⟨0, v, Nat.zero_le _, rfl, by simpa [flatB] using h, hr0, Chg.refl _ _, Grew.refl _ _⟩
  case round =>
    clear h hr0
    obtain ⟨k, v', hk, rfl, hW, hr, hcw, hG⟩ := hrel
    by_cases h1 : k < ll.length
    · obtain ⟨ad, p, rfl, _, hp, hrp⟩ := hr.at_ h1
      obtain ⟨P, cp, rfl, hcp, hmp⟩ := hrp.shape
      unfold maxLen at hmp
      have htk := flatB_take ll k h1
      have hle := flatB_take_le ll (k + 1)
      rw [htk] at hle
      obtain ⟨q, hq⟩ : ∃ q, q = ll[k] := ⟨_, rfl⟩
      rw [← hq] at hp hrp hcp htk hle
      have HTK := hide htk
      clear hq htk
      obtain ⟨cur, hcur⟩ : ∃ cur, cur = l ++ flatB (ll.take k) := ⟨_, rfl⟩
      have hcl : cur.length = l.length + (flatB (ll.take k)).length := by rw [hcur, List.length_append]
      have HC := hide hcur
      rw [← hcur] at hW
      clear hcur
      simp only [partB, List.length_append] at hle
      have hwr : IntKind.u64.wrap (q.length : Int) = (q.length : Int) := wrap_u64n (by unfold U64; omega)
      have hu := RdU.lit wr 22 (0, 0) #[.int .u64 (q.length : Int)] [q.length] 1 rfl rfl (by simp [maxLen]) (by intro y hy; simp at hy; subst hy; unfold U64; omega)
      have hnum := wtrNum (hW.al (.cells #[.int .u64 (q.length : Int)] 22)) hu (by simp only [List.length_cons, List.length_nil]; omega)
      have hnb : numsB [q.length] = numB q.length := by simp [numsB]
      rw [hnb] at hnum
      go_wp2_with fail
      refine hnum.mono ?_
      rintro e w2 ⟨rfl, v2, hW2, hc2, hG2⟩
      have hcx := ((Chg.refl (WB g v') wr).alloc (.cells #[.int .u64 (q.length : Int)] 22)).trans hc2 fun _ _ h => h
      have hrp2 := hrp.chg hcx fun b hb => hF0 b hb v' hG
      have hr2 := hr.chg hcx fun b hb => hF0 b hb v' hG
      have hGw := hG.trans hcw.size (hG2.low (by simp))
      have hcw2 := hcw.wtr hG hcx
      have k0 := hW2.blk.cell 0
      simp at k0
      have hown := hW2.own
      have hlen : (cur ++ numB q.length).length + q.length ≤ 140737488355328 := by rw [List.length_append]; omega
      have hbase : base ≤ w2.heap.size := by have h1 := hW2.blk.lt; have h2 := hW2.le; omega
      clear hu hnum hnb hc2 hG2 hrp hr hW hcx hcw hG
      go_wp2_with (at_builtin; refine append_B rfl _ _ rfl hown rfl hrp2 rfl hlen hbase ?_; intro v3 w3 hown3 hg3 hat3; obtain ⟨kx, fx⟩ := Wtr.cellx hW2 (Chg.refl _ _) hg3; obtain ⟨A3, n3, c3, rfl⟩ := OwnB.shapeH hown3)
      obtain ⟨hW3, hc3⟩ := hW2.put hg3 hat3 hown3
      have hr3 := (hr2.chg hc3 fun b hb => hF0 b hb v2 hGw)
      have hG3 : Grew w v _ := hGw.trans hcw2.size (Grew.of_at hat3)
      have hcw3 := hcw2.wtr hGw hc3
      go_round
      case rel => exact ⟨k + 1, _, by omega, by go_num, by rw [HTK.out, partB, ← List.append_assoc, ← List.append_assoc, ← HC.out]; exact hW3, hr3, hcw3, hG3⟩
      case measure => simp [intOf]; omega
    · have HK := hide (show ll.take k = ll from List.take_of_length_le (by omega))
      go_wp2_with fail
      rw [HK.out] at hW
      exact bodyPost_end (results_none rfl _ _ _) rfl ⟨rfl, v', hW, hcw, hG⟩

set_option maxRecDepth 100000 in
set_option maxHeartbeats 400000 in
theorem wtrBytes {base g : Nat} {v : Value} {l : List UInt8} {w : World} (h : Wtr ty rs w base g v l) (hl : l.length ≤ 140737488355328) :
    Calls Try.prog 28 #[.pointer (some ⟨g, 0, none⟩)] w fun e w' => ∃ u, e = .returned u ∧ OwnB w' w.heap.size u l ∧ Chg Non w w' := by
  have k0 := h.blk.cell 0
  simp at k0
  go_enter Try.func28, Try.ntmps28
  go_wp2_with fail
  refine (bytesClone h.own.rd hl).mono ?_
  rintro e w1 ⟨u, rfl, hu, hc⟩
  go_wp2_with fail
  go_ret
  exact ⟨_, rfl, hu, hc⟩


theorem Wtr.new (w : World) : Wtr 98 [] (w.alloc (.cells #[.slice none 0 0] 98)) w.heap.size w.heap.size (.slice none 0 0) [] :=
  ⟨Blk.new w _ _, OwnB.nil_ _ _, by simp [Value.ownBlock], Nat.le_refl _⟩

set_option maxRecDepth 100000 in
set_option maxHeartbeats 400000 in
theorem packJoin {x : Value} {ll : List (List UInt8)} {F : Nat → Prop} {w : World} (hr : RdBB w F x ll) (hl : (joinB ll).length + 18 ≤ 140737488355328) :
    Calls Try.prog 50 #[x] w fun e w' => ∃ u, e = .returned u ∧ OwnB w' w.heap.size u (joinB ll) ∧ Chg Non w w' := by
  obtain ⟨A, c, rfl, hc, hm⟩ := hr.shape
  unfold maxLen at hm
  have hn := Wtr.new w
  have hwr : IntKind.u64.wrap (ll.length : Int) = (ll.length : Int) := wrap_u64n (by unfold U64; omega)
  have hu := RdU.lit (w.alloc (.cells #[.slice none 0 0] 98)) 22 (0, 0) #[.int .u64 (ll.length : Int)] [ll.length] 1 rfl rfl (by simp [maxLen]) (by intro y hy; simp at hy; subst hy; unfold U64; omega)
  rw [show (w.alloc (.cells #[.slice none 0 0] 98)).heap.size = w.heap.size + 1 by simp] at hu
  have hnum := wtrNum (hn.al (.cells #[.int .u64 (ll.length : Int)] 22)) hu (by simp only [List.length_nil, List.length_cons]; omega)
  have hnb : numsB [ll.length] = numB ll.length := by simp [numsB]
  rw [hnb, List.nil_append] at hnum
  have hlt := hr.lt
  go_enter Try.func50, Try.ntmps50
  go_wp2_with fail
  refine hnum.mono ?_
  rintro e w2 ⟨rfl, v2, hW2, hc2, hG2⟩
  have hx := ((Chg.refl Non w).alloc (.cells #[.slice none 0 0] 98)).alloc (.cells #[.int .u64 (ll.length : Int)] 22)
  have hx2 : Chg Non w w2 := hx.trans hc2 fun k hk hb => by
    rcases hb with rfl | hb
    · exact absurd hk (Nat.lt_irrefl _)
    · simp [Value.ownBlock] at hb
  have hr2 := hlt.c0 hx2
  have hv2 : ∀ k, WB w.heap.size v2 k → w.heap.size ≤ k := fun k hk => (hW2.lt k hk).1
  have hl2 : (numB ll.length).length + (flatB ll).length + 9 ≤ 140737488355328 := by simp only [joinB, List.length_append] at hl; omega
  clear hnum hn hu hc2 hG2 hx hnb hlt
  go_wp2_with fail
  refine (wtrText hW2 hr2 (fun k hk hb => by have h1 := hv2 k hb; have h2 := hk.2; omega) hl2).mono ?_
  rintro e w3 ⟨rfl, v3, hW3, hc3, hG3⟩
  have hx3 := hx2.trans hc3 fun k hk hb => by have := hv2 k hb; omega
  have k0 := hW3.blk.cell 0
  simp at k0
  go_wp2_with fail
  go_ret
  exact ⟨_, rfl, hW3.own, hx3⟩
end Go.Proofs.Ytncchbcoldgpbaa

namespace Go.Proofs.Ytncchbcoldgpbaa
open Go.RowKit
variable {ty : TypeId} {rs : List Value}

def flagB (f : Bool) : List UInt8 := [if f then 1 else 0]
set_option maxRecDepth 100000 in
set_option maxHeartbeats 1000000 in
theorem wtrFlag {base g h : Nat} {v : Value} {l : List UInt8} {f : Bool} {w : World} (hw : Wtr ty rs w base g v l) (hc : w.cell? ⟨h, 0, none⟩ = some (.bool f))
    (hl : l.length + 1 ≤ 140737488355328) :
    Calls Try.prog 91 #[.pointer (some ⟨g, 0, none⟩), .slice (some ⟨h, 0, none⟩) 1 1] w fun e w' =>
      e = .returned (.tuple #[]) ∧ ∃ v', Wtr ty rs w' base g v' (l ++ flagB f) ∧ Chg (WB g v) w w' ∧ Grew w v v' := by
  have k0 := hw.blk.cell 0
  simp at k0
  have hown := hw.own
  have hbase : base ≤ w.heap.size := by have h1 := hw.blk.lt; have h2 := hw.le; omega
  cases f
  case false =>
    go_enter Try.func91, Try.ntmps91
    go_wp2_with fail
    refine wp_loop_rounds 2 ?_
    rw [rounds_succ]
    have hal := fun (o : Obj) => hw.al o
    have hownA := fun (o : Obj) => hown.al o
    have hszA := fun (o : Obj) => Nat.le_trans hbase ((Chg.refl Non w).alloc o).size
    have h1 := own_one w 0 0 rfl
    have hlen : l.length + ([0] : List UInt8).length ≤ 140737488355328 := by simpa using hl
    go_wp2_with (at_builtin; refine append_B rfl _ _ rfl (hownA _) rfl h1.rd rfl hlen (hszA _) ?_; intro v3 w3 hown3 hg3 hat3; obtain ⟨kx, fx⟩ := Wtr.cellx (hal _) (Chg.refl _ _) hg3; obtain ⟨A3, n3, c3, rfl⟩ := OwnB.shapeH hown3)
    obtain ⟨hW3, hc3⟩ := (hal _).put hg3 hat3 hown3
    rw [rounds_succ]
    go_wp2_with fail
    refine bodyPost_end (results_none rfl _ _ _) rfl ⟨rfl, _, hW3, ?_, (Grew.of_at hat3).low (by simp)⟩
    exact ((Chg.refl (WB g v) w).alloc _).trans hc3 fun _ _ h => h
  case true =>
    go_enter Try.func91, Try.ntmps91
    go_wp2_with fail
    refine wp_loop_rounds 2 ?_
    rw [rounds_succ]
    have hal := fun (o : Obj) => hw.al o
    have hownA := fun (o : Obj) => hown.al o
    have hszA := fun (o : Obj) => Nat.le_trans hbase ((Chg.refl Non w).alloc o).size
    have h1 := own_one w 1 1 rfl
    have hlen : l.length + ([1] : List UInt8).length ≤ 140737488355328 := by simpa using hl
    go_wp2_with (at_builtin; refine append_B rfl _ _ rfl (hownA _) rfl h1.rd rfl hlen (hszA _) ?_; intro v3 w3 hown3 hg3 hat3; obtain ⟨kx, fx⟩ := Wtr.cellx (hal _) (Chg.refl _ _) hg3; obtain ⟨A3, n3, c3, rfl⟩ := OwnB.shapeH hown3)
    obtain ⟨hW3, hc3⟩ := (hal _).put hg3 hat3 hown3
    rw [rounds_succ]
    go_wp2_with fail
    refine bodyPost_end (results_none rfl _ _ _) rfl ⟨rfl, _, hW3, ?_, (Grew.of_at hat3).low (by simp)⟩
    exact ((Chg.refl (WB g v) w).alloc _).trans hc3 fun _ _ h => h
end Go.Proofs.Ytncchbcoldgpbaa

namespace Go.Proofs.Ytncchbcoldgpbaa
open Go.RowKit
set_option linter.unusedVariables false
set_option linter.unusedSimpArgs false

/-- the block g is a wire that writes and has put l -/
abbrev Wir (w : World) (base g : Nat) (v : Value) (l : List UInt8) : Prop := Wtr 101 [.pointer none] w base g v l
/-- a list of places -/
def RdPt (w : World) (F : Nat → Prop) (v : Value) (ps : List Addr) : Prop := RdV w F 1 v ps.length (ps.map fun a => .pointer (some a))
theorem RdPt.at_ {w : World} {F : Nat → Prop} {A : Option Addr} {n c : Nat} {ps : List Addr} (h : RdPt w F (.slice A n c) ps) {k : Nat} (hk : k < ps.length) : ∃ ad, A = some ad ∧ w.cell? (ad.add k) = some (.pointer (some ps[k])) := by
  obtain ⟨_, A', c', e, _, _, h2⟩ := h
  injection e with e1 e2 e3
  subst e1
  obtain ⟨ad, e, _, hc⟩ := h2 (by omega)
  exact ⟨ad, e, hc k _ (by rw [List.getElem?_map, List.getElem?_eq_getElem hk]; rfl)⟩
theorem RdPt.sl {w : World} {F : Nat → Prop} {v : Value} {ps : List Addr} (h : RdPt w F v ps) : ∃ A n c, v = .slice A n c := by
  obtain ⟨_, A, c, e, _⟩ := h
  exact ⟨A, _, c, e⟩
theorem RdPt.lit (w : World) (t : TypeId) (cs : Array Value) (ps : List Addr) (n : Nat) (h : cs.toList = ps.map fun a => .pointer (some a)) (hn : n = ps.length) (hm : n ≤ maxLen) : RdPt (w.alloc (.cells cs t)) (fun k => k = w.heap.size) (.slice (some ⟨w.heap.size, 0, none⟩) n n) ps := by
  subst hn
  refine ⟨by rw [List.length_map]; omega, some ⟨w.heap.size, 0, none⟩, _, rfl, Nat.le_refl _, hm, fun _ => ⟨_, rfl, rfl, fun j u hu => ?_⟩⟩
  rw [add_none, Nat.zero_add, cell_of_row _ w.heap.size j cs t (0, 0) (heap_alloc_new w _), ← Array.getElem?_toList, h]
  exact hu
theorem Wir.k1 {w : World} {base g : Nat} {v : Value} {l : List UInt8} (h : Wir w base g v l) : w.cell? ⟨g, 1, none⟩ = some (.pointer none) := by
  have := h.blk.cell 1
  simpa using this
theorem numsB_tk {ns : List Nat} {k : Nat} (h : k < ns.length) : numsB (ns.take (k + 1)) = numsB (ns.take k) ++ numsB [ns[k]] := by
  unfold numsB; rw [List.take_succ_eq_append_getElem h, List.flatMap_append]
theorem flatB_tk {ll : List (List UInt8)} {k : Nat} (h : k < ll.length) : flatB (ll.take (k + 1)) = flatB (ll.take k) ++ flatB [ll[k]] := by
  unfold flatB; rw [List.take_succ_eq_append_getElem h, List.flatMap_append]

theorem chgX {S : Nat → Prop} {a b : World} (h : Chg Non a b) : Chg S a b := h.mono fun _ _ h => h.elim
set_option maxHeartbeats 8000000 in
set_option maxRecDepth 100000 in
theorem wirNum {base g : Nat} {v pv : Value} {l : List UInt8} {ps : List Addr} {ns : List Nat} {F G : Nat → Prop} {w : World} (h : Wir w base g v l) (hp : RdPt w F pv ps) (hF : ∀ k, F k → ¬ WB g v k) (hn : ns.length = ps.length)
    (hc : ∀ (i : Nat) (a : Addr) (n : Nat), ps[i]? = some a → ns[i]? = some n → w.cell? a = some (.int .u64 (n : Int)) ∧ ¬ WB g v a.block ∧ U64 n) (hb : l.length + 9 * ns.length ≤ 140737488355328) :
    Calls Try.prog 53 #[.pointer (some ⟨g, 0, none⟩), pv] w fun e w' =>
      e = .returned (.tuple #[]) ∧ ∃ v', Wir w' base g v' (l ++ numsB ns) ∧ Chg (WB g v) w w' ∧ Grew w v v' := by
  obtain ⟨A, m, c, rfl⟩ := RdPt.sl hp
  have hm : m = ns.length := by obtain ⟨_, A', c', e, _⟩ := hp; injection e with e1 e2; omega
  have HM := hide hm
  have HN := hide hn
  have HC := hide hc
  have HB := hide hb
  have hlim : m ≤ 9223372036854775807 := by obtain ⟨_, A', c', e, h1, h2, _⟩ := hp; injection e with e1 e2 e3; unfold maxLen at h2; omega
  clear hm hn hc hb
  go_enter Try.func53, Try.ntmps53
  go_wp2_with fail
  go_loopw [8] (fun iv wr => ∃ (k : Nat) (vv : Value), iv = .int .i64 (k : Int) ∧ k ≤ ns.length ∧ Hid (Wir wr base g vv (l ++ numsB (ns.take k))) ∧ Chg (WB g v) w wr ∧ Grew w v vv) (fun iv _ => ns.length - (intOf iv).toNat)
  case atStart => exact ⟨0, v, rfl, Nat.zero_le _, hide (by simpa [numsB] using h), Chg.refl _ _, Grew.refl _ _⟩
  case round =>
    obtain ⟨k, vv, rfl, hk, HW, hcw, hG⟩ := hrel
    have hm := HM.out
    by_cases hkl : k < ns.length
    · have hki : (k : Int) < (m : Int) := by omega
      have h0i : (0 : Int) ≤ (k : Int) := by omega
      have hkp : k < ps.length := by have := HN.out; omega
      obtain ⟨ad, rfl, c1⟩ := RdPt.at_ (RdV.chg hp hcw hF) hkp
      obtain ⟨a, ha⟩ : ∃ a, a = ps[k] := ⟨_, rfl⟩
      obtain ⟨n, hn⟩ : ∃ n, n = ns[k] := ⟨_, rfl⟩
      have h0 := HC.out k a n (by rw [ha]; exact List.getElem?_eq_getElem hkp) (by rw [hn]; exact List.getElem?_eq_getElem hkl)
      have htk : numsB (ns.take (k + 1)) = numsB (ns.take k) ++ numsB [n] := by rw [hn]; exact numsB_tk hkl
      rw [← ha] at c1
      have HTK := hide htk
      have hsm : (l ++ numsB (ns.take k)).length + 9 * [n].length ≤ 140737488355328 := by
        have h1 := numsB_length (ns.take k)
        have h2 := HB.out
        have h3 : (ns.take k).length ≤ k := by rw [List.length_take]; omega
        rw [List.length_append, List.length_singleton]; omega
      have HK := hide (And.intro hkl (And.intro hkp hm))
      clear ha hn htk hkl hkp hk hm
      have ca := hcw.cell h0.1 h0.2.1
      have hu64 := h0.2.2
      have HCA := hide ca
      have HNW := hide (show ¬ WB g vv a.block from fun hb => h0.2.1 (hG.wb (World.block_lt_of_cell? w a h0.1) hb))
      clear h0
      have k0 := HW.out.blk.cell 0
      simp at k0
      have k1 := Wir.k1 HW.out
      go_upto_region 5 with fail
      have hcd : Chg Non wr wr.drew := (Chg.refl Non wr).drew
      have HWD := hide (HW.out.c0 hcd)
      clear k0 k1 c1
      obtain ⟨S, hSd⟩ : ∃ S : World → Prop, ∀ w', S w' ↔ w'.cell? a = some (.int .u64 (n : Int)) := ⟨_, fun _ => Iff.rfl⟩
      have HSd := hide hSd
      have HS := hide ((hSd wr.drew).2 (hcd.cell HCA.out (fun h => h)))
      clear hSd
      refine wp_region_T S 99 (by kernel_rfl) ?_
      refine AnyT.take (i := 0) (v := ?_) rfl (by kernel_rfl) (by kernel_rfl) (fun _ _ _ h => h) (by kernel_rfl) (by kernel_rfl) (Or.inl ⟨by rfl, ?_⟩) HS.out ?_
      rotate_left
      · (intro w9 h9; go_simp; try with_reducible rfl)
      try simp only [getElem_toArray, getElem_cons_succ, getElem_cons_zero, Act.put, setIfInBounds_toArray, set_cons_zero, set_cons_succ]
      refine AnyT.take (i := 1) (v := ?_) rfl (by kernel_rfl) (by kernel_rfl) (fun _ _ _ h => h) (by kernel_rfl) (by kernel_rfl) (Or.inl ⟨by rfl, ?_⟩) HS.out ?_
      rotate_left
      · (intro w9 h9; go_simp; try with_reducible rfl)
      try simp only [getElem_toArray, getElem_cons_succ, getElem_cons_zero, Act.put, setIfInBounds_toArray, set_cons_zero, set_cons_succ]
      refine AnyT.take (i := 2) (v := ?_) rfl (by kernel_rfl) (by kernel_rfl) (fun _ _ _ h => h) (by kernel_rfl) (by kernel_rfl) (Or.inl ⟨by rfl, ?_⟩) HS.out ?_
      rotate_left
      · (intro w9 h9; go_simp; try with_reducible rfl)
      try simp only [getElem_toArray, getElem_cons_succ, getElem_cons_zero, Act.put, setIfInBounds_toArray, set_cons_zero, set_cons_succ]
      refine AnyT.take (i := 3) (v := ?_) rfl (by kernel_rfl) (by kernel_rfl) (fun _ _ _ h => h) (by kernel_rfl) (by kernel_rfl) (Or.inl ⟨by rfl, ?_⟩) HS.out ?_
      rotate_left
      · (intro w9 h9; go_simp; try with_reducible rfl)
      try simp only [getElem_toArray, getElem_cons_succ, getElem_cons_zero, Act.put, setIfInBounds_toArray, set_cons_zero, set_cons_succ]
      refine AnyT.take (i := 4) (v := ?_) rfl (by kernel_rfl) (by kernel_rfl) (fun _ _ _ h => h) (by kernel_rfl) (by kernel_rfl) (Or.inl ⟨by rfl, ?_⟩) HS.out ?_
      rotate_left
      · (intro w9 h9; go_simp; try with_reducible rfl)
      try simp only [getElem_toArray, getElem_cons_succ, getElem_cons_zero, Act.put, setIfInBounds_toArray, set_cons_zero, set_cons_succ]
      refine AnyT.take (i := 5) (v := ?_) rfl (by kernel_rfl) (by kernel_rfl) (fun _ _ _ h => h) (by kernel_rfl) (by kernel_rfl) (Or.inl ⟨by rfl, ?_⟩) HS.out ?_
      rotate_left
      · (intro w9 h9; have y0 := (HSd.out _).1 h9; go_simp; try with_reducible rfl)
      try simp only [getElem_toArray, getElem_cons_succ, getElem_cons_zero, Act.put, setIfInBounds_toArray, set_cons_zero, set_cons_succ]
      refine AnyT.one (i := 6) (by kernel_rfl) rfl (fun K hK => ?_)
      go_simp
      have hu := RdU.lit wr.drew 22 (0, 0) #[.int .u64 (n : Int)] [n] 1 rfl rfl (by simp [maxLen]) (fun x hx => by simp at hx; subst hx; exact hu64)
      have hWA := HWD.out.al (.cells #[.int .u64 (n : Int)] 22)
      have hcM : Chg Non wr.drew (wr.drew.alloc (.cells #[.int .u64 (n : Int)] 22)) := (Chg.refl Non wr.drew).alloc _
      have hS6 := hcM.cell ((HSd.out _).1 HS.out) (fun h => h)
      refine hK.out _ _ (fun _ => (HSd.out _).2 hS6) ?_
      clear hK K HS
      try simp only [getElem_toArray, getElem_cons_succ, getElem_cons_zero, Act.put, setIfInBounds_toArray, set_cons_zero, set_cons_succ]
      refine AnyT.one (i := 7) (by kernel_rfl) rfl (fun K hK => ?_)
      go_simp
      go_wp2_with (go_at_call 73; refine (wtrNum hWA hu hsm).mono ?_; rintro e w2 ⟨rfl, v2, hW2, hc2, hG2⟩)
      refine hK.out _ _ (fun _ => (HSd.out _).2 (hc2.cell hS6 HNW.out)) ?_
      clear hK K
      try simp only [getElem_toArray, getElem_cons_succ, getElem_cons_zero, Act.put, setIfInBounds_toArray, set_cons_zero, set_cons_succ]
      refine AnyT.nil (by kernel_rfl) ?_
      have HW2 := hide (show Wir w2 base g v2 (l ++ numsB (ns.take (k + 1))) by rw [HTK.out, ← List.append_assoc]; exact hW2)
      have hcx := hcd.trans0 hcM
      have hcw2 := hcw.wtr hG ((chgX hcx).trans hc2 fun _ _ h => h)
      have hG3 := hG.trans hcw.size (hG2.low hcx.size)
      clear hW2 hc2 hG2 hcM hcd HWD HW HCA
      go_wp2_with fail
      go_roundw
      case rel => exact ⟨k + 1, v2, by go_num, by have := HK.out.1; omega, HW2, hcw2, hG3⟩
      case measure => (have h := HK.out.1; have := HK.out.2.2; simp [intOf]; omega)
    · have hge : ¬ ((k : Int) < (m : Int)) := by omega
      have hke : k = ns.length := by omega
      have HKE := hide hke
      clear hke hm hkl hk
      go_wp2_with fail
      refine bodyPost_end (results_none rfl _ _ _) rfl ⟨rfl, vv, ?_, hcw, hG⟩
      have h1 := HW.out
      rw [HKE.out, List.take_length] at h1
      exact h1
set_option maxHeartbeats 8000000 in
set_option maxRecDepth 100000 in
theorem wirData {base g : Nat} {v pv : Value} {l : List UInt8} {ps : List Addr} {ns : List (List UInt8)} {F G : Nat → Prop} {w : World} (h : Wir w base g v l) (hp : RdPt w F pv ps) (hF : ∀ k, F k → ¬ WB g v k) (hn : ns.length = ps.length)
    (hc : ∀ (i : Nat) (a : Addr) (n : (List UInt8)), ps[i]? = some a → ns[i]? = some n → ∃ x, w.cell? a = some x ∧ ¬ WB g v a.block ∧ RdB w G x n) (hG' : ∀ k, G k → ¬ WB g v k) (hb : l.length + (flatB ns).length + 9 ≤ 140737488355328) :
    Calls Try.prog 60 #[.pointer (some ⟨g, 0, none⟩), pv] w fun e w' =>
      e = .returned (.tuple #[]) ∧ ∃ v', Wir w' base g v' (l ++ flatB ns) ∧ Chg (WB g v) w w' ∧ Grew w v v' := by
  obtain ⟨A, m, c, rfl⟩ := RdPt.sl hp
  have hm : m = ns.length := by obtain ⟨_, A', c', e, _⟩ := hp; injection e with e1 e2; omega
  have HM := hide hm
  have HN := hide hn
  have HC := hide hc
  have HB := hide hb
  have hlim : m ≤ 9223372036854775807 := by obtain ⟨_, A', c', e, h1, h2, _⟩ := hp; injection e with e1 e2 e3; unfold maxLen at h2; omega
  clear hm hn hc hb
  go_enter Try.func60, Try.ntmps60
  go_wp2_with fail
  go_loopw [8] (fun iv wr => ∃ (k : Nat) (vv : Value), iv = .int .i64 (k : Int) ∧ k ≤ ns.length ∧ Hid (Wir wr base g vv (l ++ flatB (ns.take k))) ∧ Chg (WB g v) w wr ∧ Grew w v vv) (fun iv _ => ns.length - (intOf iv).toNat)
  case atStart => exact ⟨0, v, rfl, Nat.zero_le _, hide (by simpa [flatB] using h), Chg.refl _ _, Grew.refl _ _⟩
  case round =>
    obtain ⟨k, vv, rfl, hk, HW, hcw, hG⟩ := hrel
    have hm := HM.out
    by_cases hkl : k < ns.length
    · have hki : (k : Int) < (m : Int) := by omega
      have h0i : (0 : Int) ≤ (k : Int) := by omega
      have hkp : k < ps.length := by have := HN.out; omega
      obtain ⟨ad, rfl, c1⟩ := RdPt.at_ (RdV.chg hp hcw hF) hkp
      obtain ⟨a, ha⟩ : ∃ a, a = ps[k] := ⟨_, rfl⟩
      obtain ⟨n, hn⟩ : ∃ n, n = ns[k] := ⟨_, rfl⟩
      have h0 := HC.out k a n (by rw [ha]; exact List.getElem?_eq_getElem hkp) (by rw [hn]; exact List.getElem?_eq_getElem hkl)
      have htk : flatB (ns.take (k + 1)) = flatB (ns.take k) ++ flatB [n] := by rw [hn]; exact flatB_tk hkl
      rw [← ha] at c1
      have HTK := hide htk
      have hsm : (l ++ flatB (ns.take k)).length + (flatB [n]).length + 9 ≤ 140737488355328 := by
        have h1 := flatB_take_le ns (k + 1)
        have h2 := HB.out
        rw [htk, List.length_append] at h1
        rw [List.length_append]; omega
      have HK := hide (And.intro hkl (And.intro hkp hm))
      clear ha hn htk hkl hkp hk hm
      obtain ⟨x, hx1, hx2, hx3⟩ := h0
      obtain ⟨P, pn, pc, rfl⟩ := (show ∃ A m c, x = .slice A m c from by obtain ⟨A, c, e, _⟩ := hx3.shape; exact ⟨A, _, c, e⟩)
      have ca := hcw.cell hx1 hx2
      have hrn := hx3.lt.chg hcw (fun b hb => hG' b hb.1)
      have HCA := hide ca
      have HNW := hide (show ¬ WB g vv a.block from fun hb => hx2 (hG.wb (World.block_lt_of_cell? w a hx1) hb))
      clear hx1 hx2 hx3
      have k0 := HW.out.blk.cell 0
      simp at k0
      have k1 := Wir.k1 HW.out
      go_upto_region 5 with fail
      have hcd : Chg Non wr wr.drew := (Chg.refl Non wr).drew
      have HWD := hide (HW.out.c0 hcd)
      clear k0 k1 c1
      obtain ⟨S, hSd⟩ : ∃ S : World → Prop, ∀ w', S w' ↔ w'.cell? a = some (.slice P pn pc) := ⟨_, fun _ => Iff.rfl⟩
      have HSd := hide hSd
      have HS := hide ((hSd wr.drew).2 (hcd.cell HCA.out (fun h => h)))
      clear hSd
      refine wp_region_T S 99 (by kernel_rfl) ?_
      refine AnyT.take (i := 0) (v := ?_) rfl (by kernel_rfl) (by kernel_rfl) (fun _ _ _ h => h) (by kernel_rfl) (by kernel_rfl) (Or.inl ⟨by rfl, ?_⟩) HS.out ?_
      rotate_left
      · (intro w9 h9; go_simp; try with_reducible rfl)
      try simp only [getElem_toArray, getElem_cons_succ, getElem_cons_zero, Act.put, setIfInBounds_toArray, set_cons_zero, set_cons_succ]
      refine AnyT.take (i := 1) (v := ?_) rfl (by kernel_rfl) (by kernel_rfl) (fun _ _ _ h => h) (by kernel_rfl) (by kernel_rfl) (Or.inl ⟨by rfl, ?_⟩) HS.out ?_
      rotate_left
      · (intro w9 h9; go_simp; try with_reducible rfl)
      try simp only [getElem_toArray, getElem_cons_succ, getElem_cons_zero, Act.put, setIfInBounds_toArray, set_cons_zero, set_cons_succ]
      refine AnyT.take (i := 2) (v := ?_) rfl (by kernel_rfl) (by kernel_rfl) (fun _ _ _ h => h) (by kernel_rfl) (by kernel_rfl) (Or.inl ⟨by rfl, ?_⟩) HS.out ?_
      rotate_left
      · (intro w9 h9; go_simp; try with_reducible rfl)
      try simp only [getElem_toArray, getElem_cons_succ, getElem_cons_zero, Act.put, setIfInBounds_toArray, set_cons_zero, set_cons_succ]
      refine AnyT.take (i := 3) (v := ?_) rfl (by kernel_rfl) (by kernel_rfl) (fun _ _ _ h => h) (by kernel_rfl) (by kernel_rfl) (Or.inl ⟨by rfl, ?_⟩) HS.out ?_
      rotate_left
      · (intro w9 h9; go_simp; try with_reducible rfl)
      try simp only [getElem_toArray, getElem_cons_succ, getElem_cons_zero, Act.put, setIfInBounds_toArray, set_cons_zero, set_cons_succ]
      refine AnyT.take (i := 4) (v := ?_) rfl (by kernel_rfl) (by kernel_rfl) (fun _ _ _ h => h) (by kernel_rfl) (by kernel_rfl) (Or.inl ⟨by rfl, ?_⟩) HS.out ?_
      rotate_left
      · (intro w9 h9; go_simp; try with_reducible rfl)
      try simp only [getElem_toArray, getElem_cons_succ, getElem_cons_zero, Act.put, setIfInBounds_toArray, set_cons_zero, set_cons_succ]
      refine AnyT.take (i := 5) (v := ?_) rfl (by kernel_rfl) (by kernel_rfl) (fun _ _ _ h => h) (by kernel_rfl) (by kernel_rfl) (Or.inl ⟨by rfl, ?_⟩) HS.out ?_
      rotate_left
      · (intro w9 h9; have y0 := (HSd.out _).1 h9; go_simp; try with_reducible rfl)
      try simp only [getElem_toArray, getElem_cons_succ, getElem_cons_zero, Act.put, setIfInBounds_toArray, set_cons_zero, set_cons_succ]
      refine AnyT.one (i := 6) (by kernel_rfl) rfl (fun K hK => ?_)
      go_simp
      have hrd := hrn.c0 hcd
      have hu := RdBB.one hrd 26
      have hWA := HWD.out.al (.cells #[.slice P pn pc] 26)
      have hFW : ∀ b, ((G b ∧ b < w.heap.size) ∨ b = wr.drew.heap.size) → ¬ WB g vv b := fun b hb hw => by
        rcases hb with hb | hb
        · exact hG' b hb.1 (hG.wb hb.2 hw)
        · have := (HWD.out.lt b hw).2; omega
      have hcM : Chg Non wr.drew (wr.drew.alloc (.cells #[.slice P pn pc] 26)) := (Chg.refl Non wr.drew).alloc _
      have hS6 := hcM.cell ((HSd.out _).1 HS.out) (fun h => h)
      refine hK.out _ _ (fun _ => (HSd.out _).2 hS6) ?_
      clear hK K HS
      try simp only [getElem_toArray, getElem_cons_succ, getElem_cons_zero, Act.put, setIfInBounds_toArray, set_cons_zero, set_cons_succ]
      refine AnyT.one (i := 7) (by kernel_rfl) rfl (fun K hK => ?_)
      go_simp
      go_wp2_with (go_at_call 74; refine (wtrText hWA hu hFW hsm).mono ?_; rintro e w2 ⟨rfl, v2, hW2, hc2, hG2⟩)
      refine hK.out _ _ (fun _ => (HSd.out _).2 (hc2.cell hS6 HNW.out)) ?_
      clear hK K
      try simp only [getElem_toArray, getElem_cons_succ, getElem_cons_zero, Act.put, setIfInBounds_toArray, set_cons_zero, set_cons_succ]
      refine AnyT.nil (by kernel_rfl) ?_
      have HW2 := hide (show Wir w2 base g v2 (l ++ flatB (ns.take (k + 1))) by rw [HTK.out, ← List.append_assoc]; exact hW2)
      have hcx := hcd.trans0 hcM
      have hcw2 := hcw.wtr hG ((chgX hcx).trans hc2 fun _ _ h => h)
      have hG3 := hG.trans hcw.size (hG2.low hcx.size)
      clear hW2 hc2 hG2 hcM hcd HWD HW HCA
      go_wp2_with fail
      go_roundw
      case rel => exact ⟨k + 1, v2, by go_num, by have := HK.out.1; omega, HW2, hcw2, hG3⟩
      case measure => (have h := HK.out.1; have := HK.out.2.2; simp [intOf]; omega)
    · have hge : ¬ ((k : Int) < (m : Int)) := by omega
      have hke : k = ns.length := by omega
      have HKE := hide hke
      clear hke hm hkl hk
      go_wp2_with fail
      refine bodyPost_end (results_none rfl _ _ _) rfl ⟨rfl, vv, ?_, hcw, hG⟩
      have h1 := HW.out
      rw [HKE.out, List.take_length] at h1
      exact h1
end Go.Proofs.Ytncchbcoldgpbaa

namespace Go.Proofs.Ytncchbcoldgpbaa
open Go.RowKit
set_option linter.unusedVariables false
set_option linter.unusedSimpArgs false

/-- what is stored where it stands changes nothing -/
theorem setCell_id {w : World} {p : Addr} {v : Value} (h : w.cell? p = some v) : w.setCell p v = w := by
  have key : (w.setCell p v).heap = w.heap := by
    refine Array.ext_getElem? fun i => ?_
    unfold World.setCell
    simp only [Array.getElem?_modify]
    by_cases hi : p.block = i
    · subst hi
      rw [if_pos rfl]
      unfold World.cell? at h
      cases hb : w.heap[p.block]? with
      | none => rfl
      | some o =>
        rw [hb] at h
        cases o with
        | cells c t fz =>
          simp only at h
          by_cases hs : p.spot.isSome = true
          · simp [hs] at h
          · rw [if_neg hs] at h
            obtain ⟨h1, h2⟩ := Array.getElem?_eq_some_iff.1 h
            simp only [Option.map_some, if_neg hs]
            congr 2
            rw [Array.setIfInBounds_def, dif_pos h1]
            subst h2
            exact Array.set_getElem_self h1
        | _ => rfl
    · rw [if_neg hi]
  exact congrArg (fun h => ({ w with heap := h } : World)) key
theorem Chg.frz {S : Nat → Prop} {w w' : World} (h : Chg S w w') {a : Addr} {u : Value} (hc : w.cell? a = some u) (hS : ¬ S a.block) (hf : w.frozen? a = false) : w'.frozen? a = false := by
  rw [World.frozen?_of_block (h.block a.block (World.block_lt_of_cell? w a hc) hS)]; exact hf
/-- a whole number, as it is written -/
def wz (z : Int) : Nat := (z % 18446744073709551616).toNat
theorem wz_u (z : Int) : IntKind.u64.wrap z = (wz z : Int) := by
  unfold wz
  have h1 : 0 ≤ z % 18446744073709551616 := Int.emod_nonneg _ (by omega)
  simp [IntKind.wrap, IntKind.signed, IntKind.bits]
  omega
theorem wz_64 (z : Int) : U64 (wz z) := by
  unfold U64 wz
  have h1 : 0 ≤ z % 18446744073709551616 := Int.emod_nonneg _ (by omega)
  have h2 : z % 18446744073709551616 < 18446744073709551616 := Int.emod_lt_of_pos _ (by omega)
  omega
theorem wz_i {z : Int} (h1 : -9223372036854775808 ≤ z) (h2 : z ≤ 9223372036854775807) : IntKind.i64.wrap (wz z : Int) = z := by
  unfold wz
  have h3 : 0 ≤ z % 18446744073709551616 := Int.emod_nonneg _ (by omega)
  rw [Int.toNat_of_nonneg h3]
  simp [IntKind.wrap, IntKind.signed, IntKind.bits]
  omega
theorem wzs_tk {zs : List Int} {k : Nat} (h : k < zs.length) : numsB ((zs.take (k + 1)).map wz) = numsB ((zs.take k).map wz) ++ numsB [wz zs[k]] := by
  unfold numsB; rw [List.take_succ_eq_append_getElem h, List.map_append, List.flatMap_append]; rfl

set_option maxHeartbeats 8000000 in
set_option maxRecDepth 100000 in
theorem wirWhole {base g : Nat} {v pv : Value} {l : List UInt8} {ps : List Addr} {zs : List Int} {F : Nat → Prop} {w : World} (h : Wir w base g v l) (hp : RdPt w F pv ps) (hF : ∀ k, F k → ¬ WB g v k) (hn : zs.length = ps.length)
    (hc : ∀ (i : Nat) (a : Addr) (z : Int), ps[i]? = some a → zs[i]? = some z → w.cell? a = some (.int .i64 z) ∧ w.frozen? a = false ∧ ¬ WB g v a.block ∧ -9223372036854775808 ≤ z ∧ z ≤ 9223372036854775807) (hb : l.length + 9 * zs.length ≤ 140737488355328) :
    Calls Try.prog 52 #[.pointer (some ⟨g, 0, none⟩), pv] w fun e w' =>
      e = .returned (.tuple #[]) ∧ ∃ v', Wir w' base g v' (l ++ numsB (zs.map wz)) ∧ Chg (WB g v) w w' ∧ Grew w v v' := by
  obtain ⟨A, m, c, rfl⟩ := RdPt.sl hp
  have hm : m = zs.length := by obtain ⟨_, A', c', e, _⟩ := hp; injection e with e1 e2; omega
  have HM := hide hm
  have HN := hide hn
  have HC := hide hc
  have HB := hide hb
  have hlim : m ≤ 9223372036854775807 := by obtain ⟨_, A', c', e, h1, h2, _⟩ := hp; injection e with e1 e2 e3; unfold maxLen at h2; omega
  clear hm hn hc hb
  go_enter Try.func52, Try.ntmps52
  go_wp2_with fail
  go_loopw [9] (fun iv wr => ∃ (k : Nat) (vv : Value), iv = .int .i64 (k : Int) ∧ k ≤ zs.length ∧ Hid (Wir wr base g vv (l ++ numsB ((zs.take k).map wz))) ∧ Chg (WB g v) w wr ∧ Grew w v vv) (fun iv _ => zs.length - (intOf iv).toNat)
  case atStart => exact ⟨0, v, rfl, Nat.zero_le _, hide (by simpa [numsB] using h), Chg.refl _ _, Grew.refl _ _⟩
  case round =>
    obtain ⟨k, vv, rfl, hk, HW, hcw, hG⟩ := hrel
    have hm := HM.out
    by_cases hkl : k < zs.length
    · have hki : (k : Int) < (m : Int) := by omega
      have h0i : (0 : Int) ≤ (k : Int) := by omega
      have hkp : k < ps.length := by have := HN.out; omega
      obtain ⟨ad, rfl, c1⟩ := RdPt.at_ (RdV.chg hp hcw hF) hkp
      obtain ⟨a, ha⟩ : ∃ a, a = ps[k] := ⟨_, rfl⟩
      obtain ⟨z, hz⟩ : ∃ z, z = zs[k] := ⟨_, rfl⟩
      obtain ⟨ca0, cf0, ca1, hz1, hz2⟩ := HC.out k a z (by rw [ha]; exact List.getElem?_eq_getElem hkp) (by rw [hz]; exact List.getElem?_eq_getElem hkl)
      have htk : numsB ((zs.take (k + 1)).map wz) = numsB ((zs.take k).map wz) ++ numsB [wz z] := by rw [hz]; exact wzs_tk hkl
      rw [← ha] at c1
      have HTK := hide htk
      have hsm : (l ++ numsB ((zs.take k).map wz)).length + 9 * [wz z].length ≤ 140737488355328 := by
        have h1 := numsB_length ((zs.take k).map wz)
        have h2 := HB.out
        have h3 : ((zs.take k).map wz).length ≤ k := by rw [List.length_map, List.length_take]; omega
        rw [List.length_append, List.length_singleton]; omega
      have HK := hide (And.intro hkl (And.intro hkp hm))
      clear ha hz htk hkl hkp hk hm
      have ca := hcw.cell ca0 ca1
      have cf := hcw.frz ca0 ca1 cf0
      have HNW := hide (show ¬ WB g vv a.block from fun hb => ca1 (hG.wb (World.block_lt_of_cell? w a ca0) hb))
      clear ca0 ca1 cf0
      have hv1 := wz_u z
      have hv2 := wz_i hz1 hz2
      go_upto_region 4 with fail
      clear c1
      have hX := Blk.new wr 22 #[.int .u64 (wz z : Int)]
      have hcA := (Chg.refl Non wr).alloc (.cells #[.int .u64 (wz z : Int)] 22)
      obtain ⟨bu, hbu⟩ : ∃ b, b = wr.heap.size := ⟨_, rfl⟩
      rw [← hbu] at hX ⊢
      generalize World.alloc _ _ = wA at hX hcA ⊢
      have hbw : ¬ WB g vv bu := fun hb => by have := (HW.out.lt bu hb).2; omega
      clear hbu
      have HWA := hide (HW.out.c0 hcA)
      have caA := hcA.cell ca (fun h => h)
      have cfA := hcA.frz ca (fun h => h) cf
      have hpt := RdPt.lit wA 135 #[.pointer (some ⟨bu, 0, none⟩)] [⟨bu, 0, none⟩] 1 rfl rfl (by simp [maxLen])
      have hWL := HWA.out.al (.cells #[.pointer (some ⟨bu, 0, none⟩)] 135)
      have hcL := (Chg.refl Non wA).alloc (.cells #[.pointer (some ⟨bu, 0, none⟩)] 135)
      have hcz : ∀ (i : Nat) (b : Addr) (n : Nat), ([⟨bu, 0, none⟩] : List Addr)[i]? = some b → [wz z][i]? = some n → (wA.alloc (.cells #[.pointer (some ⟨bu, 0, none⟩)] 135)).cell? b = some (.int .u64 (n : Int)) ∧ ¬ WB g vv b.block ∧ U64 n := by
        intro i b n h1 h2
        match i, h1, h2 with
        | 0, h1, h2 =>
          simp at h1 h2
          subst h1; subst h2
          exact ⟨hcL.cell (hX.cell 0) (fun h => h), hbw, wz_64 z⟩
        | i + 1, h1, h2 => simp at h1
      have hFp : ∀ k, k = wA.heap.size → ¬ WB g vv k := fun k e hb => by have := (HWA.out.lt k hb).2; omega
      have HCZ := hide hcz
      clear hcz
      go_upto_region 5 with (go_at_call 53; refine (wirNum (G := Non) hWL hpt hFp rfl HCZ.out hsm).mono ?_; rintro e w2 ⟨rfl, v2, hW2, hc2, hG2⟩)
      have ca2 := hc2.cell (hcL.cell caA (fun h => h)) HNW.out
      have cf2 := hc2.frz (hcL.cell caA (fun h => h)) HNW.out (hcL.frz caA (fun h => h) cfA)
      have cu2 : w2.cell? ⟨bu, 0, none⟩ = some (.int .u64 (wz z : Int)) := hc2.cell (hcL.cell (hX.cell 0) (fun h => h)) hbw
      have HW2 := hide (show Wir w2 base g v2 (l ++ numsB ((zs.take (k + 1)).map wz)) by rw [HTK.out, ← List.append_assoc]; exact hW2)
      have hcx := hcA.trans0 hcL
      have hcw2 := hcw.wtr hG ((chgX hcx).trans hc2 fun _ _ h => h)
      have hG3 := hG.trans hcw.size (hG2.low hcx.size)
      clear hW2 hc2 hG2 hcL hcA hWL hpt HWA HW hX caA cfA ca cf
      go_wp2_with fail
      rw [setCell_id ca2]
      go_roundw
      case rel => exact ⟨k + 1, v2, by go_num, by have := HK.out.1; omega, HW2, hcw2, hG3⟩
      case measure => (have h := HK.out.1; have := HK.out.2.2; simp [intOf]; omega)
    · have hge : ¬ ((k : Int) < (m : Int)) := by omega
      have hke : k = zs.length := by omega
      have HKE := hide hke
      clear hke hm hkl hk
      go_wp2_with fail
      refine bodyPost_end (results_none rfl _ _ _) rfl ⟨rfl, vv, ?_, hcw, hG⟩
      have h1 := HW.out
      rw [HKE.out, List.take_length] at h1
      exact h1
end Go.Proofs.Ytncchbcoldgpbaa

namespace Go.Proofs.Ytncchbcoldgpbaa
open Go.RowKit
set_option linter.unusedVariables false
set_option linter.unusedSimpArgs false

theorem numsB_one (n : Nat) : numsB [n] = numB n := by simp [numsB]
/-- one place, for wirWhole -/
theorem whole_one {w : World} {g : Nat} {v : Value} {a : Addr} {z : Int} (h1 : w.cell? a = some (.int .i64 z)) (h2 : w.frozen? a = false) (h3 : ¬ WB g v a.block) (h4 : -9223372036854775808 ≤ z ∧ z ≤ 9223372036854775807) :
    ∀ (i : Nat) (b : Addr) (n : Int), [a][i]? = some b → [z][i]? = some n → w.cell? b = some (.int .i64 n) ∧ w.frozen? b = false ∧ ¬ WB g v b.block ∧ -9223372036854775808 ≤ n ∧ n ≤ 9223372036854775807 := by
  intro i b n hb hn
  match i, hb, hn with
  | 0, hb, hn =>
    simp at hb hn
    subst hb; subst hn
    exact ⟨h1, h2, h3, h4⟩
  | i + 1, hb, hn => simp at hb
set_option maxHeartbeats 8000000 in
set_option maxRecDepth 100000 in
theorem wirErrno {base g : Nat} {v : Value} {l : List UInt8} {a : Addr} {z : Int} {w : World} (h : Wir w base g v l) (ca : w.cell? a = some (.int .i64 z)) (cf : w.frozen? a = false) (hna : ¬ WB g v a.block) (hz : -9223372036854775808 ≤ z ∧ z ≤ 9223372036854775807) (hb : l.length + 9 * [z].length ≤ 140737488355328) :
    Calls Try.prog 59 #[.pointer (some ⟨g, 0, none⟩), .pointer (some a)] w fun e w' =>
      e = .returned (.tuple #[]) ∧ ∃ v', Wir w' base g v' (l ++ numB (wz z)) ∧ Chg (WB g v) w w' ∧ Grew w v v' := by
  go_enter Try.func59, Try.ntmps59
  go_upto_region 1 with fail
  have hX := Blk.new w 3 #[.int .i64 z]
  have hcA := (Chg.refl Non w).alloc (.cells #[.int .i64 z] 3)
  obtain ⟨bu, hbu⟩ : ∃ b, b = w.heap.size := ⟨_, rfl⟩
  rw [← hbu] at hX ⊢
  generalize World.alloc _ _ = wA at hX hcA ⊢
  have hbw : ¬ WB g v bu := fun hb => by have := (h.lt bu hb).2; omega
  clear hbu
  have hWA : Wir wA base g v l := h.c0 hcA
  have caA := hcA.cell ca (fun h => h)
  have cfA := hcA.frz ca (fun h => h) cf
  have hpt := RdPt.lit wA 133 #[.pointer (some ⟨bu, 0, none⟩)] [⟨bu, 0, none⟩] 1 rfl rfl (by simp [maxLen])
  have hWL := hWA.al (.cells #[.pointer (some ⟨bu, 0, none⟩)] 133)
  have hcL := (Chg.refl Non wA).alloc (.cells #[.pointer (some ⟨bu, 0, none⟩)] 133)
  have hFp : ∀ k, k = wA.heap.size → ¬ WB g v k := fun k e hb => by have := (hWA.lt k hb).2; omega
  have hcz := whole_one (hcL.cell (hX.cell 0) (fun h => h)) (hcL.frz (hX.cell 0) (fun h => h) (hX.frozen 0)) hbw hz
  have HCZ := hide hcz
  clear hcz
  go_upto_region 2 with (go_at_call 52; refine (wirWhole hWL hpt hFp rfl HCZ.out hb).mono ?_; rintro e w2 ⟨rfl, v2, hW2, hc2, hG2⟩)
  have ca2 := hc2.cell (hcL.cell caA (fun h => h)) hna
  have cf2 := hc2.frz (hcL.cell caA (fun h => h)) hna (hcL.frz caA (fun h => h) cfA)
  have cu2 : w2.cell? ⟨bu, 0, none⟩ = some (.int .i64 z) := hc2.cell (hcL.cell (hX.cell 0) (fun h => h)) hbw
  have hcx := hcA.trans0 hcL
  have HR := hide (show Wir w2 base g v2 (l ++ numB (wz z)) from by rw [← numsB_one]; exact hW2)
  have HC := hide ((chgX (S := WB g v) hcx).trans hc2 fun _ _ h => h)
  have HG := hide (hG2.low hcx.size)
  clear hW2 hc2 hG2 hcL hcA hWL hpt hWA hX caA cfA
  go_wp2_with fail
  rw [setCell_id ca2]
  exact bodyPost_end (results_none rfl _ _ _) rfl ⟨rfl, v2, HR.out, HC.out, HG.out⟩
set_option maxHeartbeats 8000000 in
set_option maxRecDepth 100000 in
theorem wirCount {base g : Nat} {v : Value} {l : List UInt8} {z : Int} {w : World} (h : Wir w base g v l) (hz : -9223372036854775808 ≤ z ∧ z ≤ 9223372036854775807) (hb : l.length + 9 * [z].length ≤ 140737488355328) :
    Calls Try.prog 78 #[.pointer (some ⟨g, 0, none⟩), .int .i64 z] w fun e w' =>
      e = .returned (.int .i64 z) ∧ ∃ v', Wir w' base g v' (l ++ numB (wz z)) ∧ Chg (WB g v) w w' ∧ Grew w v v' := by
  go_enter Try.func78, Try.ntmps78
  go_upto_region 1 with fail
  have hX := Blk.new w 3 #[.int .i64 z]
  have hcA := (Chg.refl Non w).alloc (.cells #[.int .i64 z] 3)
  obtain ⟨bu, hbu⟩ : ∃ b, b = w.heap.size := ⟨_, rfl⟩
  rw [← hbu] at hX ⊢
  generalize World.alloc _ _ = wA at hX hcA ⊢
  have hbw : ¬ WB g v bu := fun hb => by have := (h.lt bu hb).2; omega
  clear hbu
  have hWA : Wir wA base g v l := h.c0 hcA
  have hpt := RdPt.lit wA 133 #[.pointer (some ⟨bu, 0, none⟩)] [⟨bu, 0, none⟩] 1 rfl rfl (by simp [maxLen])
  have hWL := hWA.al (.cells #[.pointer (some ⟨bu, 0, none⟩)] 133)
  have hcL := (Chg.refl Non wA).alloc (.cells #[.pointer (some ⟨bu, 0, none⟩)] 133)
  have hFp : ∀ k, k = wA.heap.size → ¬ WB g v k := fun k e hb => by have := (hWA.lt k hb).2; omega
  have hcz := whole_one (hcL.cell (hX.cell 0) (fun h => h)) (hcL.frz (hX.cell 0) (fun h => h) (hX.frozen 0)) hbw hz
  have HCZ := hide hcz
  clear hcz
  go_upto_region 2 with (go_at_call 52; refine (wirWhole hWL hpt hFp rfl HCZ.out hb).mono ?_; rintro e w2 ⟨rfl, v2, hW2, hc2, hG2⟩)
  have cu2 : w2.cell? ⟨bu, 0, none⟩ = some (.int .i64 z) := hc2.cell (hcL.cell (hX.cell 0) (fun h => h)) hbw
  have k0 := hW2.blk.cell 0
  simp at k0
  have k1 := Wir.k1 hW2
  have hcx := hcA.trans0 hcL
  have HR := hide (show Wir w2 base g v2 (l ++ numB (wz z)) from by rw [← numsB_one]; exact hW2)
  have HC := hide ((chgX (S := WB g v) hcx).trans hc2 fun _ _ h => h)
  have HG := hide (hG2.low hcx.size)
  clear hW2 hc2 hG2 hcL hcA hWL hpt hWA hX
  go_wp2_with fail
  go_ret
  exact ⟨rfl, v2, HR.out, HC.out, HG.out⟩
set_option maxHeartbeats 8000000 in
set_option maxRecDepth 100000 in
theorem wirFlag {base g : Nat} {v : Value} {l : List UInt8} {a : Addr} {f : Bool} {w : World} (h : Wir w base g v l) (ca : w.cell? a = some (.bool f)) (hna : ¬ WB g v a.block) (hb : l.length + 1 ≤ 140737488355328) :
    Calls Try.prog 76 #[.pointer (some ⟨g, 0, none⟩), .pointer (some a)] w fun e w' =>
      e = .returned (.tuple #[]) ∧ ∃ v', Wir w' base g v' (l ++ flagB f) ∧ Chg (WB g v) w w' ∧ Grew w v v' := by
  have k0 := h.blk.cell 0
  simp at k0
  have k1 := Wir.k1 h
  go_enter Try.func76, Try.ntmps76
  go_upto_region 2 with fail
  clear k0 k1
  have hcd : Chg Non w w.drew := (Chg.refl Non w).drew
  have cad := hcd.cell ca (fun h => h)
  have hWD : Wir w.drew base g v l := h.c0 hcd
  obtain ⟨S, hSd⟩ : ∃ S : World → Prop, ∀ w', S w' ↔ w'.cell? a = some (.bool f) := ⟨_, fun _ => Iff.rfl⟩
  have HSd := hide hSd
  have HS := hide ((hSd w.drew).2 cad)
  clear hSd
  refine wp_region_T S 99 (by kernel_rfl) ?_
  refine AnyT.take (i := 0) (v := ?_) rfl (by kernel_rfl) (by kernel_rfl) (fun _ _ _ h => h) (by kernel_rfl) (by kernel_rfl) (Or.inl ⟨by rfl, ?_⟩) HS.out ?_
  rotate_left
  · (intro w9 h9; go_simp; try with_reducible rfl)
  try simp only [getElem_toArray, getElem_cons_succ, getElem_cons_zero, Act.put, setIfInBounds_toArray, set_cons_zero, set_cons_succ]
  refine AnyT.take (i := 1) (v := ?_) rfl (by kernel_rfl) (by kernel_rfl) (fun _ _ _ h => h) (by kernel_rfl) (by kernel_rfl) (Or.inl ⟨by rfl, ?_⟩) HS.out ?_
  rotate_left
  · (intro w9 h9; go_simp; try with_reducible rfl)
  try simp only [getElem_toArray, getElem_cons_succ, getElem_cons_zero, Act.put, setIfInBounds_toArray, set_cons_zero, set_cons_succ]
  refine AnyT.take (i := 2) (v := ?_) rfl (by kernel_rfl) (by kernel_rfl) (fun _ _ _ h => h) (by kernel_rfl) (by kernel_rfl) (Or.inl ⟨by rfl, ?_⟩) HS.out ?_
  rotate_left
  · (intro w9 h9; go_simp; try with_reducible rfl)
  try simp only [getElem_toArray, getElem_cons_succ, getElem_cons_zero, Act.put, setIfInBounds_toArray, set_cons_zero, set_cons_succ]
  refine AnyT.take (i := 3) (v := ?_) rfl (by kernel_rfl) (by kernel_rfl) (fun _ _ _ h => h) (by kernel_rfl) (by kernel_rfl) (Or.inl ⟨by rfl, ?_⟩) HS.out ?_
  rotate_left
  · (intro w9 h9; go_simp; try with_reducible rfl)
  try simp only [getElem_toArray, getElem_cons_succ, getElem_cons_zero, Act.put, setIfInBounds_toArray, set_cons_zero, set_cons_succ]
  refine AnyT.take (i := 4) (v := ?_) rfl (by kernel_rfl) (by kernel_rfl) (fun _ _ _ h => h) (by kernel_rfl) (by kernel_rfl) (Or.inl ⟨by rfl, ?_⟩) HS.out ?_
  rotate_left
  · (intro w9 h9; go_simp; try with_reducible rfl)
  try simp only [getElem_toArray, getElem_cons_succ, getElem_cons_zero, Act.put, setIfInBounds_toArray, set_cons_zero, set_cons_succ]
  refine AnyT.take (i := 5) (v := ?_) rfl (by kernel_rfl) (by kernel_rfl) (fun _ _ _ h => h) (by kernel_rfl) (by kernel_rfl) (Or.inl ⟨by rfl, ?_⟩) HS.out ?_
  rotate_left
  · (intro w9 h9; have y0 := (HSd.out _).1 h9; go_simp; try with_reducible rfl)
  try simp only [getElem_toArray, getElem_cons_succ, getElem_cons_zero, Act.put, setIfInBounds_toArray, set_cons_zero, set_cons_succ]
  have hX := Blk.new w.drew 4 #[.bool f]
  have hcM := (Chg.refl Non w.drew).alloc (.cells #[.bool f] 4)
  have hWA : Wir _ base g v l := hWD.al (.cells #[.bool f] 4)
  refine AnyT.one (i := 6) (by kernel_rfl) rfl (fun K hK => ?_)
  go_simp
  have hS6 := hcM.cell cad (fun h => h)
  refine hK.out _ _ (fun _ => (HSd.out _).2 hS6) ?_
  clear hK K HS
  try simp only [getElem_toArray, getElem_cons_succ, getElem_cons_zero, Act.put, setIfInBounds_toArray, set_cons_zero, set_cons_succ]
  refine AnyT.one (i := 7) (by kernel_rfl) rfl (fun K hK => ?_)
  go_simp
  go_wp2_with (go_at_call 91; refine (wtrFlag hWA (hX.cell 0) hb).mono ?_; rintro e w2 ⟨rfl, v2, hW2, hc2, hG2⟩)
  refine hK.out _ _ (fun _ => (HSd.out _).2 (hc2.cell hS6 hna)) ?_
  clear hK K
  try simp only [getElem_toArray, getElem_cons_succ, getElem_cons_zero, Act.put, setIfInBounds_toArray, set_cons_zero, set_cons_succ]
  refine AnyT.nil (by kernel_rfl) ?_
  have hcx := hcd.trans0 hcM
  have HC := hide ((chgX (S := WB g v) hcx).trans hc2 fun _ _ h => h)
  have HG := hide (hG2.low hcx.size)
  go_wp2_with fail
  exact bodyPost_end (results_none rfl _ _ _) rfl ⟨rfl, v2, hW2, HC.out, HG.out⟩
set_option maxHeartbeats 8000000 in
set_option maxRecDepth 100000 in
theorem wirTxn {base g : Nat} {v : Value} {l : List UInt8} {b i : Nat} {p q r : Nat} {w : World} (h : Wir w base g v l) (c0 : w.cell? ⟨b, i, none⟩ = some (.int .u64 (p : Int))) (c1 : w.cell? ⟨b, i + 1, none⟩ = some (.int .u64 (q : Int))) (c2 : w.cell? ⟨b, i + 2, none⟩ = some (.int .u64 (r : Int)))
    (hp : U64 p) (hq : U64 q) (hr : U64 r) (hna : ¬ WB g v b) (hb : l.length + 9 * [p, q, r].length ≤ 140737488355328) :
    Calls Try.prog 56 #[.pointer (some ⟨g, 0, none⟩), .pointer (some ⟨b, i, none⟩)] w fun e w' =>
      e = .returned (.tuple #[]) ∧ ∃ v', Wir w' base g v' (l ++ numsB [p, q, r]) ∧ Chg (WB g v) w w' ∧ Grew w v v' := by
  have hcd : Chg Non w w.drew := (Chg.refl Non w).drew
  have hWD : Wir w.drew base g v l := h.c0 hcd
  have hpt := RdPt.lit w.drew 135 #[.pointer (some ⟨b, i, none⟩), .pointer (some ⟨b, i + 1, none⟩), .pointer (some ⟨b, i + 2, none⟩)] [⟨b, i, none⟩, ⟨b, i + 1, none⟩, ⟨b, i + 2, none⟩] 3 rfl rfl (by simp [maxLen])
  have hcM := (Chg.refl Non w.drew).alloc (.cells #[.pointer (some ⟨b, i, none⟩), .pointer (some ⟨b, i + 1, none⟩), .pointer (some ⟨b, i + 2, none⟩)] 135)
  have hWA : Wir _ base g v l := hWD.al (.cells #[.pointer (some ⟨b, i, none⟩), .pointer (some ⟨b, i + 1, none⟩), .pointer (some ⟨b, i + 2, none⟩)] 135)
  have hFp : ∀ k, k = w.drew.heap.size → ¬ WB g v k := fun k e hb => by have := (hWD.lt k hb).2; omega
  have hcz : ∀ (j : Nat) (a : Addr) (n : Nat), ([⟨b, i, none⟩, ⟨b, i + 1, none⟩, ⟨b, i + 2, none⟩] : List Addr)[j]? = some a → [p, q, r][j]? = some n → (w.drew.alloc (.cells #[.pointer (some ⟨b, i, none⟩), .pointer (some ⟨b, i + 1, none⟩), .pointer (some ⟨b, i + 2, none⟩)] 135)).cell? a = some (.int .u64 (n : Int)) ∧ ¬ WB g v a.block ∧ U64 n := by
    intro j a n h1 h2
    match j, h1, h2 with
    | 0, h1, h2 => simp at h1 h2; subst h1; subst h2; exact ⟨(hcd.trans0 hcM).cell c0 (fun h => h), hna, hp⟩
    | 1, h1, h2 => simp at h1 h2; subst h1; subst h2; exact ⟨(hcd.trans0 hcM).cell c1 (fun h => h), hna, hq⟩
    | 2, h1, h2 => simp at h1 h2; subst h1; subst h2; exact ⟨(hcd.trans0 hcM).cell c2 (fun h => h), hna, hr⟩
    | j + 3, h1, h2 => simp at h1
  have HCZ := hide hcz
  clear hcz
  have hcx := hcd.trans0 hcM
  go_enter Try.func56, Try.ntmps56
  go_upto_region 0 with fail
  refine wp_region_T (fun _ => True) 99 (by kernel_rfl) ?_
  have HS := hide True.intro
  refine AnyT.take (i := 0) (v := ?_) rfl (by kernel_rfl) (by kernel_rfl) (fun _ _ _ h => h) (by kernel_rfl) (by kernel_rfl) (Or.inl ⟨by rfl, ?_⟩) HS.out ?_
  rotate_left
  · (intro w9 h9; go_simp; try with_reducible rfl)
  try simp only [getElem_toArray, getElem_cons_succ, getElem_cons_zero, Act.put, setIfInBounds_toArray, set_cons_zero, set_cons_succ]
  refine AnyT.take (i := 1) (v := ?_) rfl (by kernel_rfl) (by kernel_rfl) (fun _ _ _ h => h) (by kernel_rfl) (by kernel_rfl) (Or.inl ⟨by rfl, ?_⟩) HS.out ?_
  rotate_left
  · (intro w9 h9; go_simp; try with_reducible rfl)
  try simp only [getElem_toArray, getElem_cons_succ, getElem_cons_zero, Act.put, setIfInBounds_toArray, set_cons_zero, set_cons_succ]
  refine AnyT.take (i := 2) (v := ?_) rfl (by kernel_rfl) (by kernel_rfl) (fun _ _ _ h => h) (by kernel_rfl) (by kernel_rfl) (Or.inl ⟨by rfl, ?_⟩) HS.out ?_
  rotate_left
  · (intro w9 h9; go_simp; try with_reducible rfl)
  try simp only [getElem_toArray, getElem_cons_succ, getElem_cons_zero, Act.put, setIfInBounds_toArray, set_cons_zero, set_cons_succ]
  refine AnyT.take (i := 3) (v := ?_) rfl (by kernel_rfl) (by kernel_rfl) (fun _ _ _ h => h) (by kernel_rfl) (by kernel_rfl) (Or.inl ⟨by rfl, ?_⟩) HS.out ?_
  rotate_left
  · (intro w9 h9; go_simp; try with_reducible rfl)
  try simp only [getElem_toArray, getElem_cons_succ, getElem_cons_zero, Act.put, setIfInBounds_toArray, set_cons_zero, set_cons_succ]
  refine AnyT.take (i := 4) (v := ?_) rfl (by kernel_rfl) (by kernel_rfl) (fun _ _ _ h => h) (by kernel_rfl) (by kernel_rfl) (Or.inl ⟨by rfl, ?_⟩) HS.out ?_
  rotate_left
  · (intro w9 h9; go_simp; try with_reducible rfl)
  try simp only [getElem_toArray, getElem_cons_succ, getElem_cons_zero, Act.put, setIfInBounds_toArray, set_cons_zero, set_cons_succ]
  refine AnyT.take (i := 5) (v := ?_) rfl (by kernel_rfl) (by kernel_rfl) (fun _ _ _ h => h) (by kernel_rfl) (by kernel_rfl) (Or.inl ⟨by rfl, ?_⟩) HS.out ?_
  rotate_left
  · (intro w9 h9; go_simp; try with_reducible rfl)
  try simp only [getElem_toArray, getElem_cons_succ, getElem_cons_zero, Act.put, setIfInBounds_toArray, set_cons_zero, set_cons_succ]
  refine AnyT.take (i := 6) (v := ?_) rfl (by kernel_rfl) (by kernel_rfl) (fun _ _ _ h => h) (by kernel_rfl) (by kernel_rfl) (Or.inl ⟨by rfl, ?_⟩) HS.out ?_
  rotate_left
  · (intro w9 h9; go_simp; try with_reducible rfl)
  try simp only [getElem_toArray, getElem_cons_succ, getElem_cons_zero, Act.put, setIfInBounds_toArray, set_cons_zero, set_cons_succ]
  refine AnyT.take (i := 7) (v := ?_) rfl (by kernel_rfl) (by kernel_rfl) (fun _ _ _ h => h) (by kernel_rfl) (by kernel_rfl) (Or.inl ⟨by rfl, ?_⟩) HS.out ?_
  rotate_left
  · (intro w9 h9; go_simp; try with_reducible rfl)
  try simp only [getElem_toArray, getElem_cons_succ, getElem_cons_zero, Act.put, setIfInBounds_toArray, set_cons_zero, set_cons_succ]
  refine AnyT.take (i := 8) (v := ?_) rfl (by kernel_rfl) (by kernel_rfl) (fun _ _ _ h => h) (by kernel_rfl) (by kernel_rfl) (Or.inl ⟨by rfl, ?_⟩) HS.out ?_
  rotate_left
  · (intro w9 h9; go_simp; try with_reducible rfl)
  try simp only [getElem_toArray, getElem_cons_succ, getElem_cons_zero, Act.put, setIfInBounds_toArray, set_cons_zero, set_cons_succ]
  refine AnyT.take (i := 9) (v := ?_) rfl (by kernel_rfl) (by kernel_rfl) (fun _ _ _ h => h) (by kernel_rfl) (by kernel_rfl) (Or.inl ⟨by rfl, ?_⟩) HS.out ?_
  rotate_left
  · (intro w9 h9; go_simp; try with_reducible rfl)
  try simp only [getElem_toArray, getElem_cons_succ, getElem_cons_zero, Act.put, setIfInBounds_toArray, set_cons_zero, set_cons_succ]
  refine AnyT.one (i := 10) (by kernel_rfl) rfl (fun K hK => ?_)
  go_simp
  refine hK.out _ _ (fun _ => trivial) ?_
  clear hK K
  try simp only [getElem_toArray, getElem_cons_succ, getElem_cons_zero, Act.put, setIfInBounds_toArray, set_cons_zero, set_cons_succ]
  refine AnyT.one (i := 11) (by kernel_rfl) rfl (fun K hK => ?_)
  go_simp
  go_wp2_with (go_at_call 53; refine (wirNum (G := Non) hWA hpt hFp rfl HCZ.out hb).mono ?_; rintro e w2 ⟨rfl, v2, hW2, hc2, hG2⟩)
  refine hK.out _ _ (fun _ => trivial) ?_
  clear hK K
  try simp only [getElem_toArray, getElem_cons_succ, getElem_cons_zero, Act.put, setIfInBounds_toArray, set_cons_zero, set_cons_succ]
  refine AnyT.nil (by kernel_rfl) ?_
  have HC := hide ((chgX (S := WB g v) hcx).trans hc2 fun _ _ h => h)
  have HG := hide (hG2.low hcx.size)
  go_wp2_with fail
  exact bodyPost_end (results_none rfl _ _ _) rfl ⟨rfl, v2, hW2, HC.out, HG.out⟩
end Go.Proofs.Ytncchbcoldgpbaa
