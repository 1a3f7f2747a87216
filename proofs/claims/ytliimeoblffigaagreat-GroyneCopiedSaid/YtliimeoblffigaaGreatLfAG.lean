/- Parts as one list of bytes, and back. Plain mathematics, no program in sight. -/
import Derived.Test.YtliimeoblffigaaGreatPackBG
import Derived.Test.YtliimeoblffigaaGreatPackAG
import Derived.Test.YtliimeoblffigaaGreatDgDG
import Derived.Deep.RegionHeld3
import Derived.Deep.RegionLaw
import Derived.Test.YtliimeoblffigaaGreatTrOG
import Derived.BigQuiet
import Derived.Deep.Cut
set_option linter.unusedVariables false
set_option linter.unusedSimpArgs false
set_option maxRecDepth 100000
namespace Go.Proofs.YtliimeoblffigaaGreat

/-! ### the number at the head -/
def hd (r : List UInt8) : Nat × Nat × Int :=
 match r with
 | [] => (0, 0, 5)
 | f :: r =>
  if f.toNat ≤ 247 then (f.toNat, 1, 0)
  else if r.length < f.toNat - 247 then (0, 0, 5)
  else if val (r.take (f.toNat - 247)) ≤ 247 ∨ r.head? = some 0 then (0, 0, 3)
  else (val (r.take (f.toNat - 247)), 1 + (f.toNat - 247), 0)
theorem takeB_hd (b : List UInt8) (a : Nat) (h : a ≤ b.length) : takeB b (a : Int) = ((hd (b.drop a)).1, if (hd (b.drop a)).2.2 = 0 then ((a + (hd (b.drop a)).2.1 : Nat) : Int) else 0, (hd (b.drop a)).2.2) := by
 rw [takeB, if_neg (by omega), Int.toNat_natCast]
 cases hb : b.drop a with
 | nil => rfl
 | cons f r =>
  by_cases h1 : f.toNat ≤ 247
  ·simp only [hd, if_pos h1, if_true]
   refine Prod.ext rfl (Prod.ext ?_ rfl)
   show (a : Int) + 1 = ((a + 1 : Nat) : Int)
   omega
  ·by_cases h2 : r.length < f.toNat - 247
   ·simp only [hd, if_neg h1, if_pos h2]
    rfl
   ·by_cases h3 : val (r.take (f.toNat - 247)) ≤ 247 ∨ r.head? = some 0
    ·simp only [hd, if_neg h1, if_neg h2, if_pos h3]
     rfl
    ·simp only [hd, if_neg h1, if_neg h2, if_neg h3, if_true]
     generalize val (r.take (f.toNat - 247)) = x
     refine Prod.ext rfl (Prod.ext ?_ rfl)
     show (a : Int) + 1 + ((f.toNat - 247 : Nat) : Int) = ((a + (1 + (f.toNat - 247)) : Nat) : Int)
     omega
theorem hd_numB {n : Nat} (h : n < 18446744073709551616) (post : List UInt8) : hd (numB n ++ post) = (n, (numB n).length, 0) := by
 have h1 := takeB_numB h [] post
 have h2 := takeB_hd (numB n ++ post) 0 (Nat.zero_le _)
 simp only [List.nil_append, List.length_nil, List.drop_zero] at h1 h2
 rw [h1] at h2
 simp only [Prod.mk.injEq] at h2
 obtain ⟨e1, e2, e3⟩ := h2
 rw [← e3, if_pos rfl] at e2
 refine Prod.ext e1.symm (Prod.ext ?_ e3.symm)
 show (hd (numB n ++ post)).2.1 = (numB n).length
 omega
theorem hd_used (r : List UInt8) (h : (hd r).2.2 = 0) : 0 < (hd r).2.1 ∧ (hd r).2.1 ≤ r.length ∧ (hd r).2.1 ≤ 9 := by
 cases r with
 | nil => simp [hd] at h
 | cons f r =>
  have hf := f.toNat_lt
  simp only [hd] at h ⊢
  split at h
  ·rename_i h1; simp [h1]
  ·rename_i h1
   split at h
   ·simp at h
   ·rename_i h2
    split at h
    ·simp at h
    ·rename_i h3
     rw [if_neg h1, if_neg h2, if_neg h3]
     simp only [List.length_cons]
     omega
theorem pow8_lt {n k : Nat} (hk : k ≤ 8) (h : n < 256 ^ k) : n < 18446744073709551616 :=
 Nat.lt_of_lt_of_le h (Nat.le_trans (Nat.pow_le_pow_right (by omega) hk) (Nat.le_of_eq (by decide)))
theorem hd_lt (r : List UInt8) : (hd r).1 < 18446744073709551616 := by
 cases r with
 | nil => simp [hd]
 | cons f r =>
  have hf := f.toNat_lt
  by_cases h1 : f.toNat ≤ 247
  ·simp only [hd, if_pos h1]; omega
  ·by_cases h2 : r.length < f.toNat - 247
   ·simp only [hd, if_neg h1, if_pos h2]; omega
   ·by_cases h3 : val (r.take (f.toNat - 247)) ≤ 247 ∨ r.head? = some 0
    ·simp only [hd, if_neg h1, if_neg h2, if_pos h3]; omega
    ·simp only [hd, if_neg h1, if_neg h2, if_neg h3]
     have h := val_lt (r.take (f.toNat - 247))
     have hl : (r.take (f.toNat - 247)).length ≤ 8 := by rw [List.length_take]; omega
     generalize val (r.take (f.toNat - 247)) = x at h ⊢
     exact pow8_lt hl h
/-! ### parts -/
def partB (l : List UInt8) : List UInt8 := numB l.length ++ l
def flatB (ll : List (List UInt8)) : List UInt8 := ll.flatMap partB
theorem flatB_take (ll : List (List UInt8)) (k : Nat) (h : k < ll.length) : flatB (ll.take (k + 1)) = flatB (ll.take k) ++ partB ll[k] := by
 rw [List.take_succ_eq_append_getElem h, flatB, List.flatMap_append]; simp [flatB]
theorem hd_part {l : List UInt8} (h : l.length < 18446744073709551616) (post : List UInt8) : hd (partB l ++ post) = (l.length, (numB l.length).length, 0) := by
 rw [partB, List.append_assoc, hd_numB h]
end Go.Proofs.YtliimeoblffigaaGreat

set_option maxRecDepth 100000
namespace Go.Proofs.YtliimeoblffigaaGreat
open Go.RowKit

/-- the block g is a writer that has put l; its slice is v -/
structure Wtr (w : World) (base g : Nat) (v : Value) (l : List UInt8) : Prop where
 blk : Blk w g 69 #[v]
 own : OwnB w base v l
 ne : v.ownBlock ≠ some g
 le : base ≤ g
/-- the new slice lies where the old one lay, or in new memory -/
def Grew (w : World) (v v' : Value) : Prop := v'.ownBlock = v.ownBlock ∨ ∃ k, v'.ownBlock = some k ∧ w.heap.size ≤ k
/-- the blocks of a writer -/
def WB (g : Nat) (v : Value) : Nat → Prop := fun k => k = g ∨ v.ownBlock = some k
section
variable {w w' : World} {S : Nat → Prop} {base g : Nat} {v v' : Value} {l m : List UInt8}
theorem Wtr.chg (h : Wtr w base g v l) (hc : Chg S w w') (hS : ∀ k, WB g v k → ¬ S k) : Wtr w' base g v l :=
 ⟨h.blk.chg hc (hS g (.inl rfl)), h.own.chg hc fun k hk => hS k (.inr hk), h.ne, h.le⟩
theorem Wtr.c0 (h : Wtr w base g v l) (hc : Chg Non w w') : Wtr w' base g v l := h.chg hc fun _ _ h => h
theorem Wtr.al (h : Wtr w base g v l) (o : Obj) : Wtr (w.alloc o) base g v l := h.c0 ((Chg.refl Non w).alloc o)
/-- behind an append and the store of what it gave -/
theorem Wtr.put {w2 : World} (h : Wtr w base g v l) (hg : w.grownBy w2 v.ownBlock) (hat : v'.ownBlock = v.ownBlock ∨ v'.ownBlock = some w.heap.size) (hown : OwnB w2 base v' m) :
  Wtr (w2.setCell ⟨g, 0, none⟩ v') base g v' m ∧ Chg (WB g v) w (w2.setCell ⟨g, 0, none⟩ v') := by
 have hb := h.blk.chg (Chg.of_grown hg) (fun e => h.ne e.symm)
 have hne : v'.ownBlock ≠ some g := by
  rcases hat with e | e
  ·rw [e]; exact h.ne
  ·rw [e]; intro e2; injection e2 with e2; have := h.blk.lt; omega
 refine ⟨⟨hb.set_ 0 v', hown.chg (Chg.setCell (S := fun k => k = g) (Chg.refl _ w2) (p := ⟨g, 0, none⟩) (fun _ => rfl) v') (fun k hk e => hne (e ▸ hk)), hne, h.le⟩, ?_⟩
 refine Chg.setCell (S := WB g v) ?_ (p := ⟨g, 0, none⟩) (fun _ => .inl rfl) v'
 exact (Chg.of_grown hg).mono fun k _ hk => .inr hk.symm
end
theorem Wtr.cellx {w wc wx : World} {base g : Nat} {v : Value} {l : List UInt8} (h : Wtr w base g v l) (hcg : Chg Non w wc) (hgr : wc.grownBy wx v.ownBlock) : wx.cell? ⟨g, 0, none⟩ = some v ∧ wx.frozen? ⟨g, 0, none⟩ = false := by
 have hb := (h.blk.c0 hcg).chg (Chg.of_grown hgr) (fun e => h.ne e.symm)
 exact ⟨by rw [hb.cell]; rfl, hb.frozen 0⟩
theorem OwnB.shapeH {w : World} {base : Nat} {v : Value} {l : List UInt8} (h : OwnB w base v l) : ∃ A n c, v = .slice A n c := by
 obtain ⟨A, c, e, _⟩ := h.shape
 exact ⟨A, _, c, e⟩
theorem cell_c0 {w w' : World} {p : Addr} {u : Value} (h : w.cell? p = some u) (hc : Chg Non w w') : w'.cell? p = some u := hc.cell h id

theorem wtr_fin {w wc wx : World} {base g : Nat} {v v2 : Value} {l m : List UInt8} (h : Wtr w.drew base g v l) (hcg : Chg Non w.drew wc) (hgr : wc.grownBy wx v.ownBlock)
  (hat : v2.ownBlock = v.ownBlock ∨ v2.ownBlock = some wc.heap.size) (hown : OwnB wx base v2 m) :
  ∃ v', Wtr (wx.setCell ⟨g, 0, none⟩ v2) base g v' m ∧ Chg (WB g v) w (wx.setCell ⟨g, 0, none⟩ v2) ∧ Grew w v v' := by
 obtain ⟨h1, h2⟩ := (h.c0 hcg).put hgr hat hown
 refine ⟨v2, h1, (((Chg.refl (WB g v) w).drew).trans0 hcg).trans h2 fun _ _ h => h, ?_⟩
 rcases hat with e | e
 ·exact .inl e
 ·exact .inr ⟨_, e, hcg.size⟩
theorem Grew.refl (w : World) (v : Value) : Grew w v v := .inl rfl
theorem Grew.trans {w w1 : World} {v v1 v2 : Value} (h : Grew w v v1) (hs : w.heap.size ≤ w1.heap.size) (h' : Grew w1 v1 v2) : Grew w v v2 := by
 rcases h' with e | ⟨k, e, hk⟩
 ·rcases h with e' | ⟨k, e', hk⟩
  ·exact .inl (e.trans e')
  ·exact .inr ⟨k, e.trans e', hk⟩
 ·exact .inr ⟨k, e, Nat.le_trans hs hk⟩
theorem Grew.wb {w : World} {v v2 : Value} {g k : Nat} (h : Grew w v v2) (hk : k < w.heap.size) (hb : WB g v2 k) : WB g v k := by
 rcases hb with rfl | hb
 ·exact .inl rfl
 ·rcases h with e | ⟨j, e, hj⟩
  ·exact .inr (e ▸ hb)
  ·rw [e] at hb; injection hb with hb; omega
theorem Grew.low {w w1 : World} {v v2 : Value} (h : Grew w1 v v2) (hs : w.heap.size ≤ w1.heap.size) : Grew w v v2 := (Grew.refl w v).trans hs h
theorem Grew.of_at {w : World} {v v2 : Value} (h : v2.ownBlock = v.ownBlock ∨ v2.ownBlock = some w.heap.size) : Grew w v v2 := by
 rcases h with e | e
 ·exact .inl e
 ·exact .inr ⟨_, e, Nat.le_refl _⟩
theorem Chg.wtr {w w1 w2 : World} {g : Nat} {v v1 : Value} (h : Chg (WB g v) w w1) (hG : Grew w v v1) (h' : Chg (WB g v1) w1 w2) : Chg (WB g v) w w2 :=
 h.trans h' fun _ hk hb => hG.wb hk hb

set_option maxHeartbeats 400000 in
theorem wtrNum {base g : Nat} {v x : Value} {l : List UInt8} {ns : List Nat} {F : Nat → Prop} {w : World} (h : Wtr w base g v l) (hr : RdU w F x ns) (hl : l.length + 9 * ns.length ≤ 140737488355328) :
  Calls Tryz.prog 64 #[.pointer (some ⟨g, 0, none⟩), x] w fun e w' =>
   e = .returned (.tuple #[]) ∧ ∃ v', Wtr w' base g v' (l ++ numsB ns) ∧ Chg (WB g v) w w' ∧ Grew w v v' := by
 have k0 := h.blk.cell 0
 have f0 := h.blk.frozen 0
 simp at k0
 have hown : OwnB w.drew base v l := h.own
 have hnl := numsB_length ns
 have hsum : l.length + (numsB ns).length ≤ 140737488355328 := by omega
 have hbs : base ≤ w.drew.heap.size := by have h1 := h.blk.lt; have h2 := h.le; exact Nat.le_trans h2 (Nat.le_of_lt h1)
 have h9 : 9 * ns.length ≤ 140737488355328 := by omega
 have hd : Wtr w.drew base g v l := h.c0 ((Chg.refl Non w).drew)
 have kd : w.drew.cell? ⟨g, 0, none⟩ = some v := k0
 go_enter Tryz.func64, Tryz.ntmps64
 go_region_law (first
  | (refine step_B rfl _ _ rfl (OwnB.chg hown hcg (fun _ _ h => h)) rfl hu.rd rfl hsum (Nat.le_trans hbs hcg.size) ?_; intro v' wx hown2 hgr hat; obtain ⟨kx, fx⟩ := Wtr.cellx hd hcg hgr; obtain ⟨A2, c2, rfl, hc2, hm2⟩ := OwnB.shape hown2)
  | (go_simp; go_at_call 96; refine (packNumber (RdU.c0 hr (Chg.drew (Chg.refl Non w))) h9).mono ?_; rintro e wc ⟨u, rfl, hu, hcg⟩; have kc := cell_c0 kd hcg))
 all_goals
  rw [List.length_append] at hown2 hat
  exact bodyPost_end (results_none rfl _ _ _) rfl ⟨rfl, wtr_fin hd hcg hgr hat hown2⟩

theorem flatB_take_le (ll : List (List UInt8)) (k : Nat) : (flatB (ll.take k)).length ≤ (flatB ll).length := by
 have h : flatB ll = flatB (ll.take k) ++ flatB (ll.drop k) := by
  unfold flatB
  rw [← List.flatMap_append, List.take_append_drop]
 rw [h, List.length_append]; omega

set_option maxHeartbeats 1000000 in
theorem wtrText {base g : Nat} {v x : Value} {l : List UInt8} {ll : List (List UInt8)} {F : Nat → Prop} {w : World} (h : Wtr w base g v l) (hr : RdBB w F x ll) (hF : ∀ k, F k → ¬ WB g v k)
  (hl : l.length + (flatB ll).length + 9 ≤ 140737488355328) :
  Calls Tryz.prog 22 #[.pointer (some ⟨g, 0, none⟩), x] w fun e w' =>
   e = .returned (.tuple #[]) ∧ ∃ v', Wtr w' base g v' (l ++ flatB ll) ∧ Chg (WB g v) w w' ∧ Grew w v v' := by
 obtain ⟨A, c, rfl, hc, hm⟩ := hr.shape
 unfold maxLen at hm
 have hr0 := hr.lt
 have hF0 : ∀ k, F k ∧ k < w.heap.size → ∀ v', Grew w v v' → ¬ WB g v' k := fun k hk v' hG hb => hF k hk.1 (hG.wb hk.2 hb)
 clear hr hF
 go_enter Tryz.func22, Tryz.ntmps22
 go_wp2_with fail
 go_loopw [8] (fun iv wr => ∃ (k : Nat) (v' : Value), k ≤ ll.length ∧ iv = .int .i64 k ∧ Wtr wr base g v' (l ++ flatB (ll.take k)) ∧ RdBB wr (fun k => F k ∧ k < w.heap.size) (.slice A ll.length c) ll ∧ Chg (WB g v) w wr ∧ Grew w v v') (fun iv _ => ll.length - (intOf iv).toNat)
 case atStart => exact ⟨0, v, Nat.zero_le _, rfl, by simpa [flatB] using h, hr0, Chg.refl _ _, Grew.refl _ _⟩
 case round =>
  clear h hr0
  obtain ⟨k, v', hk, rfl, hW, hr, hcw, hG⟩ := hrel
  by_cases h1 : k < ll.length
  ·obtain ⟨ad, p, rfl, _, hp, hrp⟩ := hr.at_ h1
   obtain ⟨P, cp, rfl, hcp, hmp⟩ := hrp.shape
   unfold maxLen at hmp
   have htk := flatB_take ll k h1
   have hle := flatB_take_le ll (k + 1)
   rw [htk] at hle
   obtain ⟨q, hq⟩ : ∃ q, q = ll[k] := ⟨_, rfl⟩
   rw [← hq] at hp hrp hcp htk hle
   have HTK := hide htk
   clear hq htk
   obtain ⟨cur, hcur⟩ : ∃ cur, cur = l ++ flatB (ll.take k) := ⟨_, rfl⟩
   have hcl : cur.length = l.length + (flatB (ll.take k)).length := by rw [hcur, List.length_append]
   have HC := hide hcur
   rw [← hcur] at hW
   clear hcur
   simp only [partB, List.length_append] at hle
   have hwr : IntKind.u64.wrap (q.length : Int) = (q.length : Int) := wrap_u64n (by unfold U64; omega)
   have hu := RdU.lit wr 25 (0, 0) #[.int .u64 (q.length : Int)] [q.length] 1 rfl rfl (by simp [maxLen]) (by intro y hy; simp at hy; subst hy; unfold U64; omega)
   have hnum := wtrNum (hW.al (.cells #[.int .u64 (q.length : Int)] 25)) hu (by simp only [List.length_cons, List.length_nil]; omega)
   have hnb : numsB [q.length] = numB q.length := by simp [numsB]
   rw [hnb] at hnum
   go_wp2_with fail
   refine hnum.mono ?_
   rintro e w2 ⟨rfl, v2, hW2, hc2, hG2⟩
   have hcx := ((Chg.refl (WB g v') wr).alloc (.cells #[.int .u64 (q.length : Int)] 25)).trans hc2 fun _ _ h => h
   have hrp2 := hrp.chg hcx fun b hb => hF0 b hb v' hG
   have hr2 := hr.chg hcx fun b hb => hF0 b hb v' hG
   have hGw := hG.trans hcw.size (hG2.low (by simp))
   have hcw2 := hcw.wtr hG hcx
   have k0 := hW2.blk.cell 0
   simp at k0
   have hown := hW2.own
   have hlen : (cur ++ numB q.length).length + q.length ≤ 140737488355328 := by rw [List.length_append]; omega
   have hbase : base ≤ w2.heap.size := by have h1 := hW2.blk.lt; have h2 := hW2.le; omega
   clear hu hnum hnb hc2 hG2 hrp hr hW hcx hcw hG
   go_wp2_with (at_builtin; refine append_B rfl _ _ rfl hown rfl hrp2 rfl hlen hbase ?_; intro v3 w3 hown3 hg3 hat3; obtain ⟨kx, fx⟩ := Wtr.cellx hW2 (Chg.refl _ _) hg3; obtain ⟨A3, n3, c3, rfl⟩ := OwnB.shapeH hown3)
   obtain ⟨hW3, hc3⟩ := hW2.put hg3 hat3 hown3
   have hr3 := (hr2.chg hc3 fun b hb => hF0 b hb v2 hGw)
   have hG3 : Grew w v _ := hGw.trans hcw2.size (Grew.of_at hat3)
   have hcw3 := hcw2.wtr hGw hc3
   go_round
   case rel => exact ⟨k + 1, _, by omega, by go_num, by rw [HTK.out, partB, ← List.append_assoc, ← List.append_assoc, ← HC.out]; exact hW3, hr3, hcw3, hG3⟩
   case measure => simp [intOf]; omega
  ·have HK := hide (show ll.take k = ll from List.take_of_length_le (by omega))
   go_wp2_with fail
   rw [HK.out] at hW
   exact bodyPost_end (results_none rfl _ _ _) rfl ⟨rfl, v', hW, hcw, hG⟩

set_option maxHeartbeats 400000 in
theorem wtrBytes {base g : Nat} {v : Value} {l : List UInt8} {w : World} (h : Wtr w base g v l) (hl : l.length ≤ 140737488355328) :
  Calls Tryz.prog 25 #[.pointer (some ⟨g, 0, none⟩)] w fun e w' => ∃ u, e = .returned u ∧ OwnB w' w.heap.size u l ∧ Chg Non w w' := by
 have k0 := h.blk.cell 0
 simp at k0
 go_enter Tryz.func25, Tryz.ntmps25
 go_wp2_with fail
 refine (bytesClone h.own.rd hl).mono ?_
 rintro e w1 ⟨u, rfl, hu, hc⟩
 go_wp2_with fail
 go_ret
 exact ⟨_, rfl, hu, hc⟩


theorem Wtr.new (w : World) : Wtr (w.alloc (.cells #[.slice none 0 0] 69)) w.heap.size w.heap.size (.slice none 0 0) [] :=
 ⟨Blk.new w _ _, OwnB.nil_ _ _, by simp [Value.ownBlock], Nat.le_refl _⟩

end Go.Proofs.YtliimeoblffigaaGreat

set_option maxRecDepth 100000
namespace Go.Proofs.YtliimeoblffigaaGreat
open Go.RowKit
set_option linter.unusedVariables false
set_option linter.unusedSimpArgs false

def sK (ks : List (List UInt8)) : Nat := (ks.map fun k => 1 + k.length).sum
def sV (vs : List (List UInt8)) : Nat := (vs.map fun v => 2 + v.length).sum
theorem sK_step {ks : List (List UInt8)} {i : Nat} (h : i < ks.length) : sK (ks.take (i + 1)) = sK (ks.take i) + (1 + ks[i].length) := by
 rw [List.take_succ_eq_append_getElem h, sK, List.map_append, List.sum_append]; simp [sK]
theorem sV_step {vs : List (List UInt8)} {i : Nat} (h : i < vs.length) : sV (vs.take (i + 1)) = sV (vs.take i) + (2 + vs[i].length) := by
 rw [List.take_succ_eq_append_getElem h, sV, List.map_append, List.sum_append]; simp [sV]
theorem sK_le (ks : List (List UInt8)) (i : Nat) : sK (ks.take i) ≤ sK ks := by
 conv => rhs; rw [← List.take_append_drop i ks]
 rw [sK, sK, List.map_append, List.sum_append]; omega
theorem sV_le (vs : List (List UInt8)) (i : Nat) : sV (vs.take i) ≤ sV vs := by
 conv => rhs; rw [← List.take_append_drop i vs]
 rw [sV, sV, List.map_append, List.sum_append]; omega
theorem size_split (l : List KV) : sizeKV l = 3 + sK (ksL l) + sV (vsL l) := by
 unfold sizeKV sK sV ksL vsL
 induction l with
 | nil => rfl
 | cons p l ih =>
  simp only [List.map_cons, List.sum_cons, sizeP] at ih ⊢
  omega
theorem hmfL : ∀ (fn : Fn) (first cap : Array Value) (w : World), (Instr.makeFunc fn first cap).run Tryz.prog w = .ok (.func fn first cap) w := fun _ _ _ _ => rfl

set_option maxHeartbeats 4000000 in
theorem lfSize {w : World} {F G : Nat → Prop} {KA VA NA : Option Addr} {kn kc vn vc nc : Nat} {ks vs : List (List UInt8)} (hk : RdBB w F (.slice KA kn kc) ks) (hv : RdBB w G (.slice VA vn vc) vs) (hsz : 3 + sK ks + sV vs ≤ 1000000000000) :
  Calls Tryz.prog 152 #[.agg #[.bool true, .slice KA kn kc, .slice VA vn vc, .slice NA 0 nc]] w fun e w' => e = .returned (.int .i64 ((3 + sK ks + sV vs : Nat) : Int)) ∧ Chg Non w w' := by
 obtain ⟨_, _, ek, hkc, hkm⟩ := hk.shape
 injection ek with e1 e2 e3
 subst e1; subst e2; subst e3
 obtain ⟨_, _, ev, hvc, hvm⟩ := hv.shape
 injection ev with e1 e2 e3
 subst e1; subst e2; subst e3
 unfold maxLen at hkm hvm
 have hb := Blk.new w 125 #[.bool true, .slice KA ks.length kc, .slice VA vs.length vc, .slice NA 0 nc]
 have hcb := (Chg.refl Non w).alloc (.cells #[.bool true, .slice KA ks.length kc, .slice VA vs.length vc, .slice NA 0 nc] 125)
 go_enter Tryz.func152, Tryz.ntmps152
 go_upto_region 1 with fail
 obtain ⟨b, hbe⟩ : ∃ b, b = w.heap.size := ⟨_, rfl⟩
 rw [← hbe] at hb ⊢
 generalize World.alloc _ _ = w1 at hb hcb ⊢
 clear hbe
 have b0 : w1.cell? ⟨b, 0, none⟩ = some (.bool true) := hb.cell 0
 have b1 : w1.cell? ⟨b, 1, none⟩ = some (.slice KA ks.length kc) := hb.cell 1
 have b2 : w1.cell? ⟨b, 2, none⟩ = some (.slice VA vs.length vc) := hb.cell 2
 have HK := hide (hk.c0 hcb)
 have HV := hide (hv.c0 hcb)
 have HC := hide hcb
 clear hb hcb hk hv
 go_wp2_with fail
 go_loopw [3, 11] (fun sv iv wr => ∃ i : Nat, i ≤ ks.length ∧ iv = .int .i64 (i : Int) ∧ sv = .int .i64 ((3 + sK (ks.take i) : Nat) : Int) ∧ wr = w1) (fun _ iv _ => ks.length - (intOf iv).toNat)
 case atStart => exact ⟨0, Nat.zero_le _, rfl, rfl, rfl⟩
 case round =>
  obtain ⟨i, hi, rfl, rfl, hw⟩ := hrel
  subst wr
  by_cases hil : i < ks.length
  ·obtain ⟨ad, x, rfl, _, hx, hrx⟩ := HK.out.at_ hil
   have hlen := fun w' ty => run_len8 hrx w' ty
   have hst := sK_step hil
   have hle := sK_le ks (i + 1)
   obtain ⟨s0, hs0⟩ : ∃ s0, s0 = 3 + sK (ks.take i) := ⟨_, rfl⟩
   obtain ⟨L, hL⟩ : ∃ L, L = ks[i].length := ⟨_, rfl⟩
   obtain ⟨s1, hs1⟩ : ∃ s1, s1 = 3 + sK (ks.take (i + 1)) := ⟨_, rfl⟩
   rw [← hL] at hlen hst
   rw [← hs0]
   have hw1 : IntKind.i64.wrap ((1 : Int) + (L : Int)) = ((1 + L : Nat) : Int) := by rw [IntWalk.i64_in _ (by omega)]; omega
   have hw2 : IntKind.i64.wrap ((s0 : Int) + ((1 + L : Nat) : Int)) = (s1 : Int) := by rw [IntWalk.i64_in _ (by omega)]; omega
   obtain ⟨L1, hL1⟩ : ∃ L1, L1 = 1 + L := ⟨_, rfl⟩
   rw [← hL1] at hw1 hw2
   have HS := hide hs1
   have HIL := hide hil
   obtain ⟨xA, xc, rfl, _, _⟩ := hrx.shape
   clear hst hle hs0 hL hs1 hL1 hrx
   go_wp2_with fail
   go_roundw
   case rel => exact ⟨i + 1, HIL.out, by go_num, by rw [HS.out]; exact ⟨rfl, trivial⟩⟩
   case measure => (have := HIL.out; simp [intOf]; omega)
  ·have hik : i = ks.length := by omega
   subst hik
   rw [List.take_length]
   obtain ⟨s0, hs0⟩ : ∃ s0, s0 = 3 + sK ks := ⟨_, rfl⟩
   rw [← hs0]
   have HS0 := hide hs0
   clear hs0 hi
   go_wp2_with fail
   go_loopw [3, 33] (fun sv iv wr => ∃ i : Nat, i ≤ vs.length ∧ iv = .int .i64 (i : Int) ∧ sv = .int .i64 ((s0 + sV (vs.take i) : Nat) : Int) ∧ wr = w1) (fun _ iv _ => vs.length - (intOf iv).toNat)
   case atStart => exact ⟨0, Nat.zero_le _, rfl, rfl, rfl⟩
   case round =>
    obtain ⟨i, hi, rfl, rfl, hw⟩ := hrel
    subst wr
    by_cases hil : i < vs.length
    ·obtain ⟨ad, x, rfl, _, hx, hrx⟩ := HV.out.at_ hil
     have hlen := fun w' ty => run_len8 hrx w' ty
     have hst := sV_step hil
     have hle := sV_le vs (i + 1)
     have hs00 := HS0.out
     obtain ⟨s2, hs2⟩ : ∃ s2, s2 = s0 + sV (vs.take i) := ⟨_, rfl⟩
     obtain ⟨L, hL⟩ : ∃ L, L = vs[i].length := ⟨_, rfl⟩
     obtain ⟨s1, hs1⟩ : ∃ s1, s1 = s0 + sV (vs.take (i + 1)) := ⟨_, rfl⟩
     rw [← hL] at hlen hst
     rw [← hs2]
     have hw1 : IntKind.i64.wrap ((2 : Int) + (L : Int)) = ((2 + L : Nat) : Int) := by rw [IntWalk.i64_in _ (by omega)]; omega
     have hw2 : IntKind.i64.wrap ((s2 : Int) + ((2 + L : Nat) : Int)) = (s1 : Int) := by rw [IntWalk.i64_in _ (by omega)]; omega
     obtain ⟨L1, hL1⟩ : ∃ L1, L1 = 2 + L := ⟨_, rfl⟩
     rw [← hL1] at hw1 hw2
     have HS := hide hs1
     have HIL := hide hil
     obtain ⟨xA, xc, rfl, _, _⟩ := hrx.shape
     clear hst hle hs2 hL hs1 hL1 hrx hs00
     go_wp2_with fail
     go_roundw
     case rel => exact ⟨i + 1, HIL.out, by go_num, by rw [HS.out]; exact ⟨rfl, trivial⟩⟩
     case measure => (have := HIL.out; simp [intOf]; omega)
    ·have hik : i = vs.length := by omega
     subst hik
     rw [List.take_length]
     obtain ⟨s2, hs2⟩ : ∃ s2, s2 = s0 + sV vs := ⟨_, rfl⟩
     rw [← hs2]
     have HS2 := hide (show s2 = 3 + sK ks + sV vs by rw [hs2, HS0.out])
     clear hs2 hi
     go_wp2_with fail
     go_ret
     exact ⟨by rw [HS2.out]; rfl, HC.out⟩

theorem lfTwo {w : World} {n : Nat} (hn : n < 65536) :
  Calls Tryz.prog 153 #[.int .i64 (n : Int)] w fun e w' => ∃ u, e = .returned u ∧ OwnB w' w.heap.size u [hi8 n, lo8 n] ∧ Chg Non w w' := by
 have h1 : ((hi8 n).toNat : Int) = (n : Int) / 256 := by simp only [hi8, UInt8.toNat_ofNat']; omega
 have h2 : ((lo8 n).toNat : Int) = (n : Int) % 256 := by simp only [lo8, UInt8.toNat_ofNat']; omega
 have hw1 : IntKind.u8.wrap ((n : Int) / 256) = (n : Int) / 256 := by
  show ((n : Int) / 256) % 256 = _
  omega
 have hw2 : IntKind.u8.wrap (n : Int) = (n : Int) % 256 := rfl
 go_enter Tryz.func153, Tryz.ntmps153
 go_wp2_with fail
 go_ret
 refine ⟨_, rfl, ?_, (Chg.refl Non w).alloc _⟩
 have h := World.ownsRow_lit (size := 1) w #[.int .u8 ((n : Int) / 256), .int .u8 ((n : Int) % 256)] 2 (e := 5) (Nat.le_refl _) (by simp [maxLen]) rfl
 have e : (#[Value.int .u8 ((n : Int) / 256), .int .u8 ((n : Int) % 256)] : Array Value).toList = bvs [hi8 n, lo8 n] := by
  rw [← h1, ← h2]; rfl
 rw [e] at h
 exact h
/-- no element is longer than m: slices.IndexFunc finds none -/
theorem idxLong {w : World} {F : Nat → Prop} {v : Value} {ll : List (List UInt8)} {gb m : Nat} (hr : RdBB w F v ll) (hc : w.cell? ⟨gb, 0, none⟩ = some (.int .i64 (m : Int))) (hm : ∀ x ∈ ll, x.length ≤ m) :
  Calls Tryz.prog 221 #[v, .func (.func 181) #[] #[.pointer (some ⟨gb, 0, none⟩)]] w fun e w' => e = .returned (.int .i64 (-1)) ∧ w' = w := by
 obtain ⟨A, c, rfl, hcc, hcm⟩ := hr.shape
 unfold maxLen at hcm
 have HR := hide hr
 have HM := hide hm
 clear hr hm
 go_enter Tryz.func221, Tryz.ntmps221
 go_wp2_with fail
 go_loopw [8] (fun iv wr => ∃ i : Nat, i ≤ ll.length ∧ iv = .int .i64 (i : Int) ∧ wr = w) (fun iv _ => ll.length - (intOf iv).toNat)
 case atStart => exact ⟨0, Nat.zero_le _, rfl, rfl⟩
 case round =>
  obtain ⟨i, hi, rfl, hw⟩ := hrel
  subst wr
  by_cases hil : i < ll.length
  ·obtain ⟨ad, x, rfl, _, hx, hrx⟩ := HR.out.at_ hil
   have hxm := HM.out _ (List.getElem_mem hil)
   have hlen := fun w' ty => run_len8 hrx w' ty
   obtain ⟨L, hL⟩ : ∃ L, L = ll[i].length := ⟨_, rfl⟩
   rw [← hL] at hlen hxm
   have hd : decide ((m : Int) < (L : Int)) = false := decide_eq_false (by omega)
   have hd2 : ¬ m < L := by omega
   have hcall : Calls Tryz.prog 181 #[x, .pointer (some ⟨gb, 0, none⟩)] w fun e w' => e = .returned (.bool false) ∧ w' = w := by
    obtain ⟨xA, xc, rfl, _, _⟩ := hrx.shape
    clear hL hrx hx
    go_enter Tryz.func181, Tryz.ntmps181
    go_wp2_with fail
    go_ret
    exact ⟨rfl, rfl⟩
   have HIL := hide hil
   clear hlen hL hrx hd hd2 hxm
   go_wp2_with fail
   refine hcall.mono ?_
   rintro e w1 ⟨rfl, hw1⟩
   subst w1
   clear hcall
   go_wp2_with fail
   go_roundw
   case rel => exact ⟨i + 1, HIL.out, by go_num, trivial⟩
   case measure => (have := HIL.out; simp [intOf]; omega)
  ·have hik : i = ll.length := by omega
   subst hik
   clear hi
   go_wp2_with fail
   go_ret
   exact ⟨rfl, rfl⟩
theorem conLong {w : World} {F : Nat → Prop} {v : Value} {ll : List (List UInt8)} {gb m : Nat} (hr : RdBB w F v ll) (hc : w.cell? ⟨gb, 0, none⟩ = some (.int .i64 (m : Int))) (hm : ∀ x ∈ ll, x.length ≤ m) :
  Calls Tryz.prog 182 #[v, .func (.func 181) #[] #[.pointer (some ⟨gb, 0, none⟩)]] w fun e w' => e = .returned (.bool false) ∧ ∃ k, w' = w.drewN k := by
 have hi := idxLong hr hc hm
 obtain ⟨A, c, rfl, _, _⟩ := hr.shape
 clear hr hc hm
 go_enter Tryz.func182, Tryz.ntmps182
 go_wp2_with fail
 refine hi.mono ?_
 rintro e w1 ⟨rfl, hw⟩
 subst w1
 clear hi
 go_wp2_with fail
 go_ret
 exact ⟨rfl, 0, rfl⟩
/-- noughts alone: slices.IndexFunc finds none -/
theorem idxZero {w : World} {F : Nat → Prop} {v : Value} {l : List UInt8} (hr : RdB w F v l) (hz : ∀ x ∈ l, x = 0) :
  Calls Tryz.prog 194 #[v, .func (.func 195) #[] #[]] w fun e w' => e = .returned (.bool false) ∧ w' = w := by
 have hi : Calls Tryz.prog 227 #[v, .func (.func 195) #[] #[]] w fun e w' => e = .returned (.int .i64 (-1)) ∧ w' = w := by
  obtain ⟨A, c, rfl, hcc, hcm⟩ := hr.shape
  unfold maxLen at hcm
  have HR := hide hr
  have HZ := hide hz
  have hcall : Calls Tryz.prog 195 #[.int .u8 0] w fun e w' => e = .returned (.bool false) ∧ w' = w := by
   go_enter Tryz.func195, Tryz.ntmps195
   go_wp2_with fail
   go_ret
   exact ⟨rfl, rfl⟩
  clear hr hz
  go_enter Tryz.func227, Tryz.ntmps227
  go_wp2_with fail
  go_loopw [8] (fun iv wr => ∃ i : Nat, i ≤ l.length ∧ iv = .int .i64 (i : Int) ∧ wr = w) (fun iv _ => l.length - (intOf iv).toNat)
  case atStart => exact ⟨0, Nat.zero_le _, rfl, rfl⟩
  case round =>
   obtain ⟨i, hi, rfl, hw⟩ := hrel
   subst wr
   by_cases hil : i < l.length
   ·obtain ⟨ad, rfl, _, hx⟩ := HR.out.at_ hil
    have hx0 : w.cell? (ad.add i) = some (.int .u8 0) := by rw [hx, HZ.out _ (List.getElem_mem hil)]; rfl
    have HIL := hide hil
    clear hx
    go_wp2_with fail
    refine hcall.mono ?_
    rintro e w1 ⟨rfl, hw1⟩
    subst w1
    clear hcall
    go_wp2_with fail
    go_roundw
    case rel => exact ⟨i + 1, HIL.out, by go_num, trivial⟩
    case measure => (have := HIL.out; simp [intOf]; omega)
   ·have hik : i = l.length := by omega
    subst hik
    clear hi
    go_wp2_with fail
    go_ret
    exact ⟨rfl, rfl⟩
 obtain ⟨A, c, rfl, _, _⟩ := hr.shape
 clear hr hz
 go_enter Tryz.func194, Tryz.ntmps194
 go_wp2_with fail
 refine hi.mono ?_
 rintro e w1 ⟨rfl, hw⟩
 subst w1
 clear hi
 go_wp2_with fail
 go_ret
 exact ⟨rfl, rfl⟩
end Go.Proofs.YtliimeoblffigaaGreat

