/- The walks of pack's Writer. -/
import Derived.Test.YtfgecgmgbngeaaaGreatPackA
import Derived.Test.YtfgecgmgbngeaaaGreatPackM
import Derived.Test.YtfgecgmgbngeaaaGreatPkM
import Derived.Test.YtfgecgmgbngeaaaGreatSlc
import Derived.Deep.RegionHeld3
import Derived.Deep.RegionLaw
set_option linter.unusedVariables false
set_option linter.unusedSimpArgs false
set_option maxRecDepth 100000
namespace Go.Proofs.YtfgecgmgbngeaaaGreat
open Go.RowKit

/-- the block g is a writer that has put l; its slice is v -/
structure Wtr (w : World) (base g : Nat) (v : Value) (l : List UInt8) : Prop where
  blk : Blk w g 114 #[v]
  own : OwnB w base v l
  ne : v.ownBlock ≠ some g
  le : base ≤ g
/-- the new slice lies where the old one lay, or in new memory -/
def Grew (w : World) (v v' : Value) : Prop := v'.ownBlock = v.ownBlock ∨ ∃ k, v'.ownBlock = some k ∧ w.heap.size ≤ k
/-- the blocks of a writer -/
def WB (g : Nat) (v : Value) : Nat → Prop := fun k => k = g ∨ v.ownBlock = some k
section
variable {w w' : World} {S : Nat → Prop} {base g : Nat} {v v' : Value} {l m : List UInt8}
theorem Wtr.chg (h : Wtr w base g v l) (hc : Chg S w w') (hS : ∀ k, WB g v k → ¬ S k) : Wtr w' base g v l :=
  ⟨h.blk.chg hc (hS g (.inl rfl)), h.own.chg hc fun k hk => hS k (.inr hk), h.ne, h.le⟩
theorem Wtr.c0 (h : Wtr w base g v l) (hc : Chg Non w w') : Wtr w' base g v l := h.chg hc fun _ _ h => h
theorem Wtr.al (h : Wtr w base g v l) (o : Obj) : Wtr (w.alloc o) base g v l := h.c0 ((Chg.refl Non w).alloc o)
theorem Wtr.lt (h : Wtr w base g v l) : ∀ k, WB g v k → base ≤ k ∧ k < w.heap.size := fun k hk => by
  rcases hk with rfl | hk
  · exact ⟨h.le, h.blk.lt⟩
  · exact h.own.lt k hk
/-- behind an append and the store of what it gave -/
theorem Wtr.put {w2 : World} (h : Wtr w base g v l) (hg : w.grownBy w2 v.ownBlock) (hat : v'.ownBlock = v.ownBlock ∨ v'.ownBlock = some w.heap.size) (hown : OwnB w2 base v' m) :
    Wtr (w2.setCell ⟨g, 0, none⟩ v') base g v' m ∧ Chg (WB g v) w (w2.setCell ⟨g, 0, none⟩ v') := by
  have hb := h.blk.chg (Chg.of_grown hg) (fun e => h.ne e.symm)
  have hne : v'.ownBlock ≠ some g := by
    rcases hat with e | e
    · rw [e]; exact h.ne
    · rw [e]; intro e2; injection e2 with e2; have := h.blk.lt; omega
  refine ⟨⟨hb.set_ 0 v', hown.chg (Chg.setCell (S := fun k => k = g) (Chg.refl _ w2) (p := ⟨g, 0, none⟩) (fun _ => rfl) v') (fun k hk e => hne (e ▸ hk)), hne, h.le⟩, ?_⟩
  refine Chg.setCell (S := WB g v) ?_ (p := ⟨g, 0, none⟩) (fun _ => .inl rfl) v'
  exact (Chg.of_grown hg).mono fun k _ hk => .inr hk.symm
end
theorem Wtr.cellx {w wc wx : World} {base g : Nat} {v : Value} {l : List UInt8} (h : Wtr w base g v l) (hcg : Chg Non w wc) (hgr : wc.grownBy wx v.ownBlock) : wx.cell? ⟨g, 0, none⟩ = some v ∧ wx.frozen? ⟨g, 0, none⟩ = false := by
  have hb := (h.blk.c0 hcg).chg (Chg.of_grown hgr) (fun e => h.ne e.symm)
  exact ⟨by rw [hb.cell]; rfl, hb.frozen 0⟩
theorem OwnB.shapeH {w : World} {base : Nat} {v : Value} {l : List UInt8} (h : OwnB w base v l) : ∃ A n c, v = .slice A n c := by
  obtain ⟨A, c, e, _⟩ := h.shape
  exact ⟨A, _, c, e⟩
theorem cell_c0 {w w' : World} {p : Addr} {u : Value} (h : w.cell? p = some u) (hc : Chg Non w w') : w'.cell? p = some u := hc.cell h id

theorem wtr_fin {w wc wx : World} {base g : Nat} {v v2 : Value} {l m : List UInt8} (h : Wtr w.drew base g v l) (hcg : Chg Non w.drew wc) (hgr : wc.grownBy wx v.ownBlock)
    (hat : v2.ownBlock = v.ownBlock ∨ v2.ownBlock = some wc.heap.size) (hown : OwnB wx base v2 m) :
    ∃ v', Wtr (wx.setCell ⟨g, 0, none⟩ v2) base g v' m ∧ Chg (WB g v) w (wx.setCell ⟨g, 0, none⟩ v2) ∧ Grew w v v' := by
  obtain ⟨h1, h2⟩ := (h.c0 hcg).put hgr hat hown
  refine ⟨v2, h1, (((Chg.refl (WB g v) w).drew).trans0 hcg).trans h2 fun _ _ h => h, ?_⟩
  rcases hat with e | e
  · exact .inl e
  · exact .inr ⟨_, e, hcg.size⟩
theorem Grew.refl (w : World) (v : Value) : Grew w v v := .inl rfl
theorem Grew.trans {w w1 : World} {v v1 v2 : Value} (h : Grew w v v1) (hs : w.heap.size ≤ w1.heap.size) (h' : Grew w1 v1 v2) : Grew w v v2 := by
  rcases h' with e | ⟨k, e, hk⟩
  · rcases h with e' | ⟨k, e', hk⟩
    · exact .inl (e.trans e')
    · exact .inr ⟨k, e.trans e', hk⟩
  · exact .inr ⟨k, e, Nat.le_trans hs hk⟩
theorem Grew.wb {w : World} {v v2 : Value} {g k : Nat} (h : Grew w v v2) (hk : k < w.heap.size) (hb : WB g v2 k) : WB g v k := by
  rcases hb with rfl | hb
  · exact .inl rfl
  · rcases h with e | ⟨j, e, hj⟩
    · exact .inr (e ▸ hb)
    · rw [e] at hb; injection hb with hb; omega
theorem Grew.low {w w1 : World} {v v2 : Value} (h : Grew w1 v v2) (hs : w.heap.size ≤ w1.heap.size) : Grew w v v2 := (Grew.refl w v).trans hs h
theorem Grew.of_at {w : World} {v v2 : Value} (h : v2.ownBlock = v.ownBlock ∨ v2.ownBlock = some w.heap.size) : Grew w v v2 := by
  rcases h with e | e
  · exact .inl e
  · exact .inr ⟨_, e, Nat.le_refl _⟩
theorem Chg.wtr {w w1 w2 : World} {g : Nat} {v v1 : Value} (h : Chg (WB g v) w w1) (hG : Grew w v v1) (h' : Chg (WB g v1) w1 w2) : Chg (WB g v) w w2 :=
  h.trans h' fun _ hk hb => hG.wb hk hb

set_option maxHeartbeats 400000 in
theorem wtrNum {base g : Nat} {v x : Value} {l : List UInt8} {ns : List Nat} {F : Nat → Prop} {w : World} (h : Wtr w base g v l) (hr : RdU w F x ns) (hl : l.length + 9 * ns.length ≤ 140737488355328) :
    Calls Tryz.prog 58 #[.pointer (some ⟨g, 0, none⟩), x] w fun e w' =>
      e = .returned (.tuple #[]) ∧ ∃ v', Wtr w' base g v' (l ++ numsB ns) ∧ Chg (WB g v) w w' ∧ Grew w v v' := by
  have k0 := h.blk.cell 0
  have f0 := h.blk.frozen 0
  simp at k0
  have hown : OwnB w.drew base v l := h.own
  have hnl := numsB_length ns
  have hsum : l.length + (numsB ns).length ≤ 140737488355328 := by omega
  have hbs : base ≤ w.drew.heap.size := by have h1 := h.blk.lt; have h2 := h.le; exact Nat.le_trans h2 (Nat.le_of_lt h1)
  have h9 : 9 * ns.length ≤ 140737488355328 := by omega
  have hd : Wtr w.drew base g v l := h.c0 ((Chg.refl Non w).drew)
  have kd : w.drew.cell? ⟨g, 0, none⟩ = some v := k0
  go_enter Tryz.func58, Tryz.ntmps58
  go_region_law (first
    | (refine step_B rfl _ _ rfl (OwnB.chg hown hcg (fun _ _ h => h)) rfl hu.rd rfl hsum (Nat.le_trans hbs hcg.size) ?_; intro v' wx hown2 hgr hat; obtain ⟨kx, fx⟩ := Wtr.cellx hd hcg hgr; obtain ⟨A2, c2, rfl, hc2, hm2⟩ := OwnB.shape hown2)
    | (go_simp; go_at_call 60; refine (packNumber (RdU.c0 hr (Chg.drew (Chg.refl Non w))) h9).mono ?_; rintro e wc ⟨u, rfl, hu, hcg⟩; have kc := cell_c0 kd hcg))
  all_goals
    rw [List.length_append] at hown2 hat
    exact bodyPost_end (results_none rfl _ _ _) rfl ⟨rfl, wtr_fin hd hcg hgr hat hown2⟩

theorem flatB_take_le (ll : List (List UInt8)) (k : Nat) : (flatB (ll.take k)).length ≤ (flatB ll).length := by
  have h : flatB ll = flatB (ll.take k) ++ flatB (ll.drop k) := by
    unfold flatB
    rw [← List.flatMap_append, List.take_append_drop]
  rw [h, List.length_append]; omega

set_option maxHeartbeats 1000000 in
theorem wtrText {base g : Nat} {v x : Value} {l : List UInt8} {ll : List (List UInt8)} {F : Nat → Prop} {w : World} (h : Wtr w base g v l) (hr : RdBB w F x ll) (hF : ∀ k, F k → ¬ WB g v k)
    (hl : l.length + (flatB ll).length + 9 ≤ 140737488355328) :
    Calls Tryz.prog 59 #[.pointer (some ⟨g, 0, none⟩), x] w fun e w' =>
      e = .returned (.tuple #[]) ∧ ∃ v', Wtr w' base g v' (l ++ flatB ll) ∧ Chg (WB g v) w w' ∧ Grew w v v' := by
  obtain ⟨A, c, rfl, hc, hm⟩ := hr.shape
  unfold maxLen at hm
  have hr0 := hr.lt
  have hF0 : ∀ k, F k ∧ k < w.heap.size → ∀ v', Grew w v v' → ¬ WB g v' k := fun k hk v' hG hb => hF k hk.1 (hG.wb hk.2 hb)
  clear hr hF
  go_enter Tryz.func59, Tryz.ntmps59
  go_wp2_with fail
  go_loopw [8] (fun iv wr => ∃ (k : Nat) (v' : Value), k ≤ ll.length ∧ iv = .int .i64 k ∧ Wtr wr base g v' (l ++ flatB (ll.take k)) ∧ RdBB wr (fun k => F k ∧ k < w.heap.size) (.slice A ll.length c) ll ∧ Chg (WB g v) w wr ∧ Grew w v v') (fun iv _ => ll.length - (intOf iv).toNat)
  case atStart => exact ⟨0, v, Nat.zero_le _, rfl, by simpa [flatB] using h, hr0, Chg.refl _ _, Grew.refl _ _⟩
  case round =>
    clear h hr0
    obtain ⟨k, v', hk, rfl, hW, hr, hcw, hG⟩ := hrel
    by_cases h1 : k < ll.length
    · obtain ⟨ad, p, rfl, _, hp, hrp⟩ := hr.at_ h1
      obtain ⟨P, cp, rfl, hcp, hmp⟩ := hrp.shape
      unfold maxLen at hmp
      have htk := flatB_take ll k h1
      have hle := flatB_take_le ll (k + 1)
      rw [htk] at hle
      obtain ⟨q, hq⟩ : ∃ q, q = ll[k] := ⟨_, rfl⟩
      rw [← hq] at hp hrp hcp htk hle
      have HTK := hide htk
      clear hq htk
      obtain ⟨cur, hcur⟩ : ∃ cur, cur = l ++ flatB (ll.take k) := ⟨_, rfl⟩
      have hcl : cur.length = l.length + (flatB (ll.take k)).length := by rw [hcur, List.length_append]
      have HC := hide hcur
      rw [← hcur] at hW
      clear hcur
      simp only [partB, List.length_append] at hle
      have hwr : IntKind.u64.wrap (q.length : Int) = (q.length : Int) := wrap_u64n (by unfold U64; omega)
      have hu := RdU.lit wr 101 (0, 0) #[.int .u64 (q.length : Int)] [q.length] 1 rfl rfl (by simp [maxLen]) (by intro y hy; simp at hy; subst hy; unfold U64; omega)
      have hnum := wtrNum (hW.al (.cells #[.int .u64 (q.length : Int)] 101)) hu (by simp only [List.length_cons, List.length_nil]; omega)
      have hnb : numsB [q.length] = numB q.length := by simp [numsB]
      rw [hnb] at hnum
      go_wp2_with fail
      refine hnum.mono ?_
      rintro e w2 ⟨rfl, v2, hW2, hc2, hG2⟩
      have hcx := ((Chg.refl (WB g v') wr).alloc (.cells #[.int .u64 (q.length : Int)] 101)).trans hc2 fun _ _ h => h
      have hrp2 := hrp.chg hcx fun b hb => hF0 b hb v' hG
      have hr2 := hr.chg hcx fun b hb => hF0 b hb v' hG
      have hGw := hG.trans hcw.size (hG2.low (by simp))
      have hcw2 := hcw.wtr hG hcx
      have k0 := hW2.blk.cell 0
      simp at k0
      have hown := hW2.own
      have hlen : (cur ++ numB q.length).length + q.length ≤ 140737488355328 := by rw [List.length_append]; omega
      have hbase : base ≤ w2.heap.size := by have h1 := hW2.blk.lt; have h2 := hW2.le; omega
      clear hu hnum hnb hc2 hG2 hrp hr hW hcx hcw hG
      go_wp2_with (at_builtin; refine append_B rfl _ _ rfl hown rfl hrp2 rfl hlen hbase ?_; intro v3 w3 hown3 hg3 hat3; obtain ⟨kx, fx⟩ := Wtr.cellx hW2 (Chg.refl _ _) hg3; obtain ⟨A3, n3, c3, rfl⟩ := OwnB.shapeH hown3)
      obtain ⟨hW3, hc3⟩ := hW2.put hg3 hat3 hown3
      have hr3 := (hr2.chg hc3 fun b hb => hF0 b hb v2 hGw)
      have hG3 : Grew w v _ := hGw.trans hcw2.size (Grew.of_at hat3)
      have hcw3 := hcw2.wtr hGw hc3
      go_round
      case rel => exact ⟨k + 1, _, by omega, by go_num, by rw [HTK.out, partB, ← List.append_assoc, ← List.append_assoc, ← HC.out]; exact hW3, hr3, hcw3, hG3⟩
      case measure => simp [intOf]; omega
    · have HK := hide (show ll.take k = ll from List.take_of_length_le (by omega))
      go_wp2_with fail
      rw [HK.out] at hW
      exact bodyPost_end (results_none rfl _ _ _) rfl ⟨rfl, v', hW, hcw, hG⟩



theorem Wtr.new (w : World) : Wtr (w.alloc (.cells #[.slice none 0 0] 114)) w.heap.size w.heap.size (.slice none 0 0) [] :=
  ⟨Blk.new w _ _, OwnB.nil_ _ _, by simp [Value.ownBlock], Nat.le_refl _⟩

set_option maxHeartbeats 400000 in
theorem packJoin {x : Value} {ll : List (List UInt8)} {F : Nat → Prop} {w : World} (hr : RdBB w F x ll) (hl : (joinB ll).length + 18 ≤ 140737488355328) :
    Calls Tryz.prog 29 #[x] w fun e w' => ∃ u, e = .returned u ∧ OwnB w' w.heap.size u (joinB ll) ∧ Chg Non w w' := by
  obtain ⟨A, c, rfl, hc, hm⟩ := hr.shape
  unfold maxLen at hm
  have hn := Wtr.new w
  have hwr : IntKind.u64.wrap (ll.length : Int) = (ll.length : Int) := wrap_u64n (by unfold U64; omega)
  have hu := RdU.lit (w.alloc (.cells #[.slice none 0 0] 114)) 101 (0, 0) #[.int .u64 (ll.length : Int)] [ll.length] 1 rfl rfl (by simp [maxLen]) (by intro y hy; simp at hy; subst hy; unfold U64; omega)
  rw [show (w.alloc (.cells #[.slice none 0 0] 114)).heap.size = w.heap.size + 1 by simp] at hu
  have hnum := wtrNum (hn.al (.cells #[.int .u64 (ll.length : Int)] 101)) hu (by simp only [List.length_nil, List.length_cons]; omega)
  have hnb : numsB [ll.length] = numB ll.length := by simp [numsB]
  rw [hnb, List.nil_append] at hnum
  have hlt := hr.lt
  go_enter Tryz.func29, Tryz.ntmps29
  go_wp2_with fail
  refine hnum.mono ?_
  rintro e w2 ⟨rfl, v2, hW2, hc2, hG2⟩
  have hx := ((Chg.refl Non w).alloc (.cells #[.slice none 0 0] 114)).alloc (.cells #[.int .u64 (ll.length : Int)] 101)
  have hx2 : Chg Non w w2 := hx.trans hc2 fun k hk hb => by
    rcases hb with rfl | hb
    · exact absurd hk (Nat.lt_irrefl _)
    · simp [Value.ownBlock] at hb
  have hr2 := hlt.c0 hx2
  have hv2 : ∀ k, WB w.heap.size v2 k → w.heap.size ≤ k := fun k hk => (hW2.lt k hk).1
  have hl2 : (numB ll.length).length + (flatB ll).length + 9 ≤ 140737488355328 := by simp only [joinB, List.length_append] at hl; omega
  clear hnum hn hu hc2 hG2 hx hnb hlt
  go_wp2_with fail
  refine (wtrText hW2 hr2 (fun k hk hb => by have h1 := hv2 k hb; have h2 := hk.2; omega) hl2).mono ?_
  rintro e w3 ⟨rfl, v3, hW3, hc3, hG3⟩
  have hx3 := hx2.trans hc3 fun k hk hb => by have := hv2 k hb; omega
  have k0 := hW3.blk.cell 0
  simp at k0
  go_wp2_with fail
  go_ret
  exact ⟨_, rfl, hW3.own, hx3⟩
end Go.Proofs.YtfgecgmgbngeaaaGreat
