/- The walks of drive's Write, Append, Rename and Flush. -/
import Derived.Test.YtfgecgmgbngeaaaGreatDgE
set_option linter.unusedSimpArgs false
set_option maxRecDepth 100000
namespace Go.Proofs.YtfgecgmgbngeaaaGreat
open Go.RowKit Go.Maps
set_option linter.unusedVariables false

theorem DrvM.addF {w : World} {sup : List Nm} {T F G : Nat → Prop} {g : Nat} {S : DSt} {sv nv qv : Value} {lv : Int} (h : DrvM w sup T g S sv nv qv lv F) (hG : ∀ b, G b → T b ∧ b ≠ g ∧ sv ≠ .map (some b) ∧ nv ≠ .map (some b)) : DrvM w sup T g S sv nv qv lv (fun b => F b ∨ G b) :=
  ⟨h.blk, h.arm, h.s.mono fun b hb => .inl hb, h.n.mono fun b hb => .inl hb, h.qu.mono fun b hb => .inl hb, h.tg, h.ts, h.tn, h.sep, fun b hb => by
    rcases hb with hb | hb
    · exact h.f b hb
    · exact hG b hb, h.lt⟩
/-- what is new is none of the drive's blocks -/
theorem DrvM.fresh {w w' : World} {sup : List Nm} {T F : Nat → Prop} {g : Nat} {S : DSt} {sv nv qv : Value} {lv : Int} (h : DrvM w sup T g S sv nv qv lv F) {b : Nat} (h1 : w.heap.size ≤ b) (h2 : b < w'.heap.size) : Ext T w w' b ∧ b ≠ g ∧ sv ≠ .map (some b) ∧ nv ≠ .map (some b) := by
  refine ⟨.inr ⟨h1, h2⟩, fun e => ?_, fun e => ?_, fun e => ?_⟩
  · have := h.lt g h.tg; omega
  · have := h.lt b (h.ts b e); omega
  · have := h.lt b (h.tn b e); omega

set_option maxHeartbeats 4000000 in
theorem dgWrite {w : World} {sup : List Nm} {T G : Nat → Prop} {g : Nat} {S : DSt} {s : ByteArray} {a : Nat} {bv : Value} {dt : List UInt8} (h : DrvAt w sup T g S) (hd : S.dead = false) (hsup : sup.Pairwise (· ≠ ·)) (hsl : sup.length ≤ 1000000) (hs : s.size ≤ 1000) (hin : s.data.toList ∈ sup) (ha : a ≤ ((S.seen s.data.toList).getD []).length)
    (hb : RdB w G bv dt) (hsz : totF sup S.seen + dt.length ≤ 500000000) (hL1 : ((S.seen s.data.toList).getD []).length ≤ 500000000) (hq : S.queue.length ≤ 1000000) :
    Calls Tryz.prog 56 #[.pointer (some ⟨g, 0, none⟩), .string s, .int .i64 (a : Int), bv] w fun e w' => e = .returned (.int .i64 S.er) ∧ DrvAt w' sup (Ext T w w') g (S.did (.wr s.data.toList a dt)) ∧ Chg T w w' := by
  obtain ⟨sv, nv, qv, lv, F, h⟩ := h
  have k1 : w.cell? ⟨g, 1, none⟩ = some nv := h.blk.cell 1
  have k3 : w.cell? ⟨g, 3, none⟩ = some (.int .i64 1073741824) := h.blk.cell 3
  obtain ⟨x, hx, hlk⟩ := h.n.look s (by unfold maxLen; omega)
  have hl := (hlk w (Chg.refl _ _)).1
  obtain ⟨L, hL⟩ : ∃ L, L = ((S.seen s.data.toList).getD []).length := ⟨_, rfl⟩
  have hlen := fun w' ty => run_len8 hx w' ty
  rw [← hL] at hlen ha hL1
  have HL := hide hL
  obtain ⟨U, hU⟩ : ∃ U, U = totF sup S.seen := ⟨_, rfl⟩
  have hused := dgUsed (h.c0 ((Chg.refl Non w).drew)) hsup (by omega)
  rw [← hU] at hsz hused
  obtain ⟨B1, c, rfl, hc, hm⟩ := hb.shape
  unfold maxLen at hm
  have hd0 : decide ((a : Int) < 0) = false := decide_eq_false (by omega)
  have hd1 : decide ((L : Int) < (a : Int)) = false := decide_eq_false (by omega)
  have hd2 : decide (L < a) = false := decide_eq_false (by omega)
  have HU := hide hU
  have HD := hide hd
  have HQ := hide hq
  have HIN := hide hin
  have HSL := hide hsl
  have HH := hide h
  have HTL := hide h.lt
  clear hL hlk hU hd hq hin hsl h hsup
  go_enter Tryz.func56, Tryz.ntmps56
  go_upto_region 5 with fail
  have hw0 : IntKind.i64.wrap ((L : Int) - (a : Int)) = (L : Int) - (a : Int) := IntWalk.i64_in _ (by omega)
  have hw1 : IntKind.i64.wrap ((dt.length : Int) - ((L : Int) - (a : Int))) = (dt.length : Int) - ((L : Int) - (a : Int)) := IntWalk.i64_in _ (by omega)
  have hw2 : IntKind.i64.wrap ((1073741824 : Int) - (U : Int)) = (1073741824 : Int) - (U : Int) := IntWalk.i64_in _ (by omega)
  have hfl : decide ((1073741824 : Int) - (U : Int) < (dt.length : Int) - ((L : Int) - (a : Int))) = false := decide_eq_false (by omega)
  go_cut [38] from 18 (fun v38 wx => v38 = .bool false ∧ Chg Non w wx)
  case first =>
    go_region_law (first
      | (go_simp; go_at_call 93; refine hused.mono ?_; rintro e w1 ⟨rfl, hc1⟩; have k4 := hc1.cell k3 (fun h => h)))
    all_goals
      try simp only [List.getElem_toArray, List.getElem_cons_succ, List.getElem_cons_zero, Act.put, List.setIfInBounds_toArray, List.set_cons_zero, List.set_cons_succ]
      go_wp2_with fail
      go_meet
      exact ⟨rfl, ((Chg.refl Non w).drew).trans0 hc1⟩
  case rest =>
    obtain ⟨rfl, hc1⟩ := hcut
    obtain ⟨w1, rfl⟩ : ∃ w', w' = wc := ⟨_, rfl⟩
    have hcl := bytesClone (hb.c0 hc1) (by omega)
    clear hused hlen hl hx k1 k3 hw0 hw1 hw2 hfl hd0 hd1 hd2 hb
    go_wp2_with fail
    refine hcl.mono ?_
    rintro e w2 ⟨u, rfl, hu, hc2⟩
    clear hcl
    obtain ⟨U1, nu, cu, rfl⟩ : ∃ A n c, u = .slice A n c := by obtain ⟨A, c, e, _⟩ := hu.shape; exact ⟨A, _, c, e⟩
    have hc12 := hc1.trans0 hc2
    have n1 := hc1.size
    have n2 := hc2.size
    have hD2 : DrvM w2 sup (Ext T w w2) g S sv nv qv lv (fun b => F b ∨ (Value.slice U1 nu cu).ownBlock = some b) := ((HH.out.c0 hc12).up (T' := Ext T w w2) (fun b hb => .inl hb) (Ext.lt HTL.out (by omega))).addF fun b hb => by
      have h1 := hu.lt b hb
      exact HH.out.fresh (by omega) h1.2
    have hraw := dgRawWr (a := a) (dv := .slice U1 nu cu) (dt := dt) hD2 HD.out HSL.out hs HIN.out (hu.rd.mono fun b hb => .inr hb) (by omega) (by rw [← HL.out]; omega) HQ.out ⟨s, _, rfl, rfl, hs, hu.rd.mono fun b hb => .inr hb⟩
    unfold wrV at hraw
    clear hu hD2
    go_wp2_with fail
    refine hraw.mono ?_
    rintro e w3 ⟨rfl, hD3, hc3⟩
    clear hraw
    go_wp2_with fail
    go_ret
    have n3 := hc3.size
    refine ⟨rfl, hD3.up (fun b hb => hb.trans (by omega) (by omega)) (Ext.lt HTL.out (by omega)), (hc12.mono fun _ _ h => h.elim).trans hc3 fun k hk e => ?_⟩
    rcases e with e | e
    · exact e
    · omega

set_option maxHeartbeats 2000000 in
theorem dgAppend {w : World} {sup : List Nm} {T G : Nat → Prop} {g : Nat} {S : DSt} {s : ByteArray} {bv : Value} {dt : List UInt8} (h : DrvAt w sup T g S) (hd : S.dead = false) (hsup : sup.Pairwise (· ≠ ·)) (hsl : sup.length ≤ 1000000) (hs : s.size ≤ 1000) (hin : s.data.toList ∈ sup)
    (hb : RdB w G bv dt) (hsz : totF sup S.seen + dt.length ≤ 500000000) (hL1 : ((S.seen s.data.toList).getD []).length ≤ 500000000) (hq : S.queue.length ≤ 1000000) :
    Calls Tryz.prog 64 #[.pointer (some ⟨g, 0, none⟩), .string s, bv] w fun e w' => e = .returned (.int .i64 S.er) ∧ DrvAt w' sup (Ext T w w') g (S.did (.wr s.data.toList ((S.seen s.data.toList).getD []).length dt)) ∧ Chg T w w' := by
  have hwr := dgWrite (a := ((S.seen s.data.toList).getD []).length) h hd hsup hsl hs hin (Nat.le_refl _) hb hsz hL1 hq
  obtain ⟨sv, nv, qv, lv, F, h⟩ := h
  have k1 : w.cell? ⟨g, 1, none⟩ = some nv := h.blk.cell 1
  obtain ⟨x, hx, hlk⟩ := h.n.look s (by unfold maxLen; omega)
  have hl := (hlk w (Chg.refl _ _)).1
  have hlen := fun w' ty => run_len8 hx w' ty
  obtain ⟨B1, c, rfl, hc, hm⟩ := hb.shape
  obtain ⟨L, hL⟩ : ∃ L, L = ((S.seen s.data.toList).getD []).length := ⟨_, rfl⟩
  rw [← hL] at hlen hwr ⊢
  clear hlk h hb hx hL
  go_enter Tryz.func64, Tryz.ntmps64
  go_wp2_with fail
  refine hwr.mono ?_
  rintro e w1 ⟨rfl, hrest⟩
  clear hwr
  go_wp2_with fail
  go_ret
  exact ⟨rfl, hrest⟩

theorem dgRename {w : World} {sup : List Nm} {T : Nat → Prop} {g : Nat} {S : DSt} {s t : ByteArray} (h : DrvAt w sup T g S) (hd : S.dead = false) (hsl : sup.length ≤ 1000000) (hs : s.size ≤ 1000) (ht : t.size ≤ 1000) (hin : t.data.toList ∈ sup) (hth : (S.seen s.data.toList).isSome = true) (hq : S.queue.length ≤ 1000000) :
    Calls Tryz.prog 65 #[.pointer (some ⟨g, 0, none⟩), .string s, .string t] w fun e w' => e = .returned (.int .i64 S.er) ∧ DrvAt w' sup (Ext T w w') g (S.did (.mv s.data.toList t.data.toList)) ∧ Chg T w w' := by
  obtain ⟨sv, nv, qv, lv, F, h⟩ := h
  have hthere := dgThere h s (by unfold maxLen; omega)
  rw [hth, if_pos rfl] at hthere
  have hraw := dgRawMv h hd hsl hs ht hin hq ⟨s, t, rfl, rfl, rfl, hs, ht⟩
  unfold mvV at hraw
  clear h hd hth
  go_enter Tryz.func65, Tryz.ntmps65
  go_wp2_with fail
  refine hthere.mono ?_
  rintro e w1 ⟨rfl, hw⟩
  subst w1
  clear hthere
  go_wp2_with fail
  refine hraw.mono ?_
  rintro e w1 ⟨rfl, hrest⟩
  clear hraw
  go_wp2_with fail
  go_ret
  exact ⟨rfl, hrest⟩

/-- all is safe, or the drive is dead -/
def DSt.flushed (S : DSt) : DSt := if S.kl = true then S.tick else ⟨S.seen, S.seen, [], S.arm.map (· - 1), false⟩
set_option maxHeartbeats 2000000 in
theorem dgFlush {w : World} {sup : List Nm} {T : Nat → Prop} {g : Nat} {S : DSt} (h : DrvAt w sup T g S) (hd : S.dead = false) :
    Calls Tryz.prog 66 #[.pointer (some ⟨g, 0, none⟩)] w fun e w' => e = .returned (.int .i64 S.er) ∧ DrvAt w' sup (Ext T w w') g S.flushed ∧ Chg T w w' := by
  obtain ⟨sv, nv, qv, lv, F, h⟩ := h
  have hmay := dgMay2 h hd
  have hT0 := h.lt
  have hTg := h.tg
  clear h hd
  cases hk : S.kl with
  | true =>
    have he : S.er = 9 := by unfold DSt.er; rw [if_pos hk]
    have hf : S.flushed = S.tick := by unfold DSt.flushed; rw [if_pos hk]
    rw [he, hf]
    rw [hk, he] at hmay
    clear hk he hf
    go_enter Tryz.func66, Tryz.ntmps66
    go_wp2_with fail
    refine hmay.mono ?_
    rintro e w1 ⟨rfl, hc1, lv1, hD1⟩
    clear hmay
    have n1 := hc1.size
    have hcT : Chg T w w1 := hc1.mono fun k _ e => (show k = g from e) ▸ hTg
    go_wp2_with fail
    go_ret
    exact ⟨rfl, ⟨_, _, _, _, _, hD1.up (fun b hb => .inl hb) (Ext.lt hT0 n1)⟩, hcT⟩
  | false =>
    have he : S.er = 0 := by unfold DSt.er; rw [hk]; rfl
    have hf : S.flushed = ⟨S.seen, S.seen, [], S.arm.map (· - 1), false⟩ := by unfold DSt.flushed; rw [hk]; rfl
    have hti : S.tick = ⟨S.safe, S.seen, S.queue, S.arm.map (· - 1), false⟩ := by unfold DSt.tick; rw [hk]
    rw [he, hf]
    rw [hk, he, hti] at hmay
    clear hk he hf hti
    go_enter Tryz.func66, Tryz.ntmps66
    go_wp2_with fail
    refine hmay.mono ?_
    rintro e w1 ⟨rfl, hc1, lv1, hD1⟩
    clear hmay
    have n1 := hc1.size
    have hcT : Chg T w w1 := hc1.mono fun k _ e => (show k = g from e) ▸ hTg
    have k1 : w1.cell? ⟨g, 1, none⟩ = some nv := hD1.blk.cell 1
    have hcl := hD1.n.clone
    go_wp2_with fail
    refine hcl.mono ?_
    rintro e w2 ⟨v', rfl, hs2, hc2, hv⟩
    clear hcl
    have n2 := hc2.size
    have hD2 := hD1.c0 hc2
    have k0 : w2.cell? ⟨g, 0, none⟩ = some sv := hD2.blk.cell 0
    have k2 : w2.cell? ⟨g, 2, none⟩ = some qv := hD2.blk.cell 2
    have f0 := hD2.blk.frozen 0
    have f2 := hD2.blk.frozen 2
    obtain ⟨r', hr'⟩ : ∃ r', v' = .map r' := by
      obtain ⟨l, hl, _⟩ := hs2
      exact hl.form
    subst hr'
    have hg : g < w2.heap.size := hD2.blk.lt
    have hb := (hD2.blk.set_ 0 (.map r')).set_ 2 nilS
    simp at hb
    have hcs : Chg (fun k => k = g) w2 ((w2.setCell ⟨g, 0, none⟩ (.map r')).setCell ⟨g, 2, none⟩ nilS) := Chg.setCell (p := ⟨g, 2, none⟩) (Chg.setCell (p := ⟨g, 0, none⟩) (Chg.refl (fun k => k = g) w2) (fun _ => rfl) _) (fun _ => rfl) _
    have hgB : ∀ v f, FsAt w2 sup F v f → ∀ B, v = .map (some B) → ¬ B = g := fun v f hf B e e2 => by
      obtain ⟨l, hl, _⟩ := hf
      exact hl.noBlk e (e2 ▸ hD2.blk)
    have hF : ∀ b, F b → ¬ b = g := fun b hb => (hD2.f b hb).2.1
    have hnew : ∀ B, Value.map r' = .map (some B) → w1.heap.size ≤ B ∧ B < w2.heap.size := fun B e => by
      rcases hv with ⟨_, h2⟩ | ⟨h2, h3⟩
      · rw [h2] at e; cases e
      · rw [h2] at e; injection e with e; injection e with e; subst e; exact ⟨Nat.le_refl _, h3⟩
    have hfin : DrvM ((w2.setCell ⟨g, 0, none⟩ (.map r')).setCell ⟨g, 2, none⟩ nilS) sup (Ext T w ((w2.setCell ⟨g, 0, none⟩ (.map r')).setCell ⟨g, 2, none⟩ nilS)) g ⟨S.seen, S.seen, [], S.arm.map (· - 1), false⟩ (.map r') nv nilS lv1 F := by
      have n3 := hcs.size
      refine ⟨by simpa using hb, hD2.arm, hs2.chg hcs hF (hgB _ _ hs2), hD2.n.chg hcs hF (hgB _ _ hD2.n), QAt.nil_ _ _, .inl hTg, fun B e => .inr ⟨by have := hnew B e; omega, by have := hnew B e; omega⟩, fun B e => .inl (hD2.tn B e), fun B e e2 => ?_, fun b hb => ⟨.inl (hD2.f b hb).1, (hD2.f b hb).2.1, fun e => ?_, (hD2.f b hb).2.2.2⟩, Ext.lt hT0 (by omega)⟩
      · have h1 := hnew B e
        have h2 := hD1.lt B (hD1.tn B e2)
        omega
      · have h1 := hnew b e
        have h2 := hD1.lt b (hD1.f b hb).1
        omega
    have HF := hide hfin
    have HC := hide hcs
    clear hfin hcs hb hs2 hv hD2 hD1
    go_wp2_with fail
    go_ret
    exact ⟨rfl, ⟨_, _, _, _, _, HF.out⟩, (hcT.trans0 hc2).trans HC.out fun k _ e => (show k = g from e) ▸ hTg⟩
end Go.Proofs.YtfgecgmgbngeaaaGreat
