/- The walk of the pool's hold. -/
import Derived.Test.YtliimeoblffigaaGreatPlEG
import Derived.LoopN
import Derived.Deep.CutBlock
set_option linter.unusedVariables false
set_option linter.unusedSimpArgs false
set_option maxRecDepth 100000
namespace Go.Proofs.YtliimeoblffigaaGreat
open Go.RowKit Go.Maps
set_option linter.unusedVariables false

theorem del_ins {κ α : Type} {kl : κ → Lit} (K : KeyK kl) {k : κ} {v : α} : ∀ l : List (κ × α), aDel kl k (aIns kl (k, v) l) = aDel kl k l
  | [] => by unfold aIns aDel; rw [List.filter_cons, if_neg (by rw [(K.same k k).2 rfl]; simp)]
  | y :: r => by
    have e : ∀ m : List (κ × α), aDel kl k ((k, v) :: m) = aDel kl k m := fun m => by
      unfold aDel; rw [List.filter_cons, if_neg (by rw [(K.same k k).2 rfl]; simp)]
    unfold aIns
    split
    · exact e _
    · have ih := del_ins K (k := k) (v := v) r
      unfold aDel at ih ⊢
      rw [List.filter_cons, List.filter_cons, ih]
theorem put_put {κ α : Type} {kl : κ → Lit} (K : KeyK kl) {k : κ} {u v : α} {l : List (κ × α)} : aPut kl k v (aPut kl k u l) = aPut kl k v l := by
  have e : aDel kl k (aPut kl k u l) = aDel kl k l := by
    unfold aPut
    rw [del_ins K, del_none K fun p hp => ((mem_del K).1 hp).2]
  show aIns kl (k, v) (aDel kl k (aPut kl k u l)) = _
  rw [e]; rfl
/-- a page more is at hand, as yet without bytes -/
theorem PoolM.born {w w' : World} {TD TP G : Nat → Prop} {gd g hand bs bf ba : Nat} {pre : ByteArray} {S : DSt} {sl : Slots} {sf : List (Int × Int)} {at_ : Ats} {cl h1 h2 h3 : Int} (h : PoolM w TD TP G gd g pre hand S sl sf at_ bs bf ba cl h1 h2 h3) {fb i : Nat} (hP : ¬ TP fb) (hD : ¬ TD fb)
    (hbk : Blk w fb 281 #[.slice none 0 0, .bool false, .int .i64 0]) (hc : Chg (fun k => k = ba) w w') (hm : w'.ownsMap Tryz.prog 3 heldR ba (aPut klI i ⟨fb, [], false⟩ at_).length (dat klI eF (aPut klI i ⟨fb, [], false⟩ at_))) :
    PoolM w' TD (fun b => TP b ∨ b = fb) G gd g pre hand S sl sf (aPut klI i ⟨fb, [], false⟩ at_) bs bf ba cl h1 h2 h3 := by
  obtain ⟨n1, n2, n3, n4⟩ := h.neS
  have hmem : ∀ p, p ∈ aPut klI i ⟨fb, [], false⟩ at_ → p = (i, ⟨fb, [], false⟩) ∨ (p ∈ at_ ∧ p.1 ≠ i) := fun p hp => (mem_put keyI).1 hp
  have hba : fb ≠ ba := fun e => hP (e ▸ h.tg.2.2.2)
  refine ⟨h.drv.chg hc (fun b hb e => h.off ba h.tg.2.2.2 ((show b = ba from e) ▸ hb)), h.blk.chg hc n3, ownsMap_chg h.ms hc h.dist.2.1, ownsMap_chg h.mf hc h.dist.2.2, hm, fun p hp => ?_, ⟨.inl h.tg.1, .inl h.tg.2.1, .inl h.tg.2.2.1, .inl h.tg.2.2.2⟩, fun p hp => ?_, fun p hp q hq e => ?_, h.dist, fun b hb => ?_, fun b hb => ?_, fun b hb => ?_, h.pre⟩
  · rcases hmem p hp with rfl | ⟨hp, _⟩
    · exact ⟨_, _, hbk.chg hc hba, RdB.nil_ _ _⟩
    · obtain ⟨dv, u, h4, h5⟩ := h.fr p hp
      exact ⟨dv, u, h4.chg hc (n4 p hp).2.2, h5.chg hc fun b hb => (h.gG b hb).2.2.2.2.1⟩
  · rcases hmem p hp with rfl | ⟨hp, _⟩
    · exact ⟨.inr rfl, fun e => hP ((show fb = g from e) ▸ h.tg.1)⟩
    · exact ⟨.inl (h.tf p hp).1, (h.tf p hp).2⟩
  · rcases hmem p hp with rfl | ⟨hp, _⟩
    · rcases hmem q hq with rfl | ⟨hq, _⟩
      · rfl
      · exact absurd ((show fb = q.2.blk from e) ▸ (h.tf q hq).1) hP
    · rcases hmem q hq with rfl | ⟨hq, _⟩
      · exact absurd ((show p.2.blk = fb from e) ▸ (h.tf p hp).1) hP
      · exact h.apart p hp q hq e
  · obtain ⟨a1, a2, a3, a4, a5, a6⟩ := h.gG b hb
    refine ⟨.inl a1, a2, a3, a4, a5, fun p hp => ?_⟩
    rcases hmem p hp with rfl | ⟨hp, _⟩
    · exact fun e => hP ((show b = fb from e) ▸ a1)
    · exact a6 p hp
  · rcases hb with hb | rfl
    · exact Nat.lt_of_lt_of_le (h.lt b hb) hc.size
    · exact Nat.lt_of_lt_of_le hbk.lt hc.size
  · rcases hb with hb | rfl
    · exact h.off b hb
    · exact hD
theorem PG.held {pre : ByteArray} {S : DSt} {sl tab : Slots} {sf : List (Int × Int)} {at_ : Ats} {sv : Option (List UInt8 × (Nat → List UInt8))} (h : PG pre S sl sf at_ tab sv) {i : Nat} {s : Int} (hs : (i, s) ∈ sl) {f : Fr} (hl : f.data.length = 512) (hc : f.dirty = false → slotY ((S.seen (nf pre)).getD []) s = f.data) :
    PG pre S sl sf (aPut klI i f at_) tab sv ∧ ∀ j, cont ((S.seen (nf pre)).getD []) sl (aPut klI i f at_) j = if j = i then f.data else cont ((S.seen (nf pre)).getD []) sl at_ j := by
  obtain ⟨h1, h2⟩ := h.inv.hold hs hl hc
  exact ⟨⟨h1, h.sf, h.dead, h.out, h.seen, h.nt, h.mt, h.bs, h.hold⟩, h2⟩

set_option maxHeartbeats 8000000 in
theorem plHold {w : World} {TD TP G : Nat → Prop} {gd g hand bs bf ba : Nat} {pre : ByteArray} {S : DSt} {sl tab : Slots} {sf : List (Int × Int)} {at_ : Ats} {cl h1 h2 h3 : Int} {sv : Option (List UInt8 × (Nat → List UInt8))}
    (h : PoolM w TD TP G gd g pre hand S sl sf at_ bs bf ba cl h1 h2 h3) (hG : PG pre S sl sf at_ tab sv) {i : Nat} {s : Int} (hs : (i, s) ∈ sl) (h1h : 1 ≤ hand) (hle : at_.length ≤ hand) (hhb : hand ≤ 1000000) (hq : S.queue.length ≤ 900000)
    {dv : Value} {Gd : Nat → Prop} {dt : List UInt8} {dirty : Bool} (hd : RdB w Gd dv dt) (hl : dt.length = 512) (hGd : ∀ b, Gd b → ¬ TD b ∧ ¬ TP b ∧ b < w.heap.size) (hcl : dirty = false → slotY ((S.seen (nf pre)).getD []) s = dt) :
    Calls Tryz.prog 154 #[.pointer (some ⟨g, 0, none⟩), .int .i64 (i : Int), dv, .bool dirty] w fun e w' => Chg (fun b => TD b ∨ TP b) w w' ∧
      ((e = .returned (.int .i64 9) ∧ S.arm ≠ none ∧ ∃ S', DrvAt w' (supP pre) (Ext TD w w') gd S' ∧ PDead pre S' (Last pre tab sv)) ∨
       (e = .returned (.int .i64 0) ∧ ∃ S' sl' at' TD' TP' G' cl' a3, PoolM w' TD' TP' G' gd g pre hand S' sl' sf at' bs bf ba cl' h1 h2 a3 ∧ PG pre S' sl' sf at' tab sv ∧ sl'.map (·.1) = sl.map (·.1) ∧ (∀ j, cont ((S'.seen (nf pre)).getD []) sl' at' j = if j = i then dt else cont ((S.seen (nf pre)).getD []) sl at_ j) ∧ (S.arm = none → S'.arm = none) ∧
         S'.queue.length ≤ S.queue.length + 1 ∧ at'.length ≤ hand ∧ (∀ b, TD' b → Ext TD w w' b) ∧ ∀ b, TP' b → Ext TP w w' b ∨ Gd b)) := by
  have hi : i ≤ 1000000000 := by
    have := hG.inv.ids _ hs
    omega
  have k5 : w.cell? ⟨g, 5, none⟩ = some (.map (some ba)) := h.blk.cell 5
  have hlf := lookF h.ma hi
  obtain ⟨A, c, rfl⟩ : ∃ A c, dv = .slice A 512 c := by
    obtain ⟨A, c, e, _⟩ := hd.shape
    rw [hl] at e
    exact ⟨A, c, e⟩
  have HL := hide hl
  have HP := hide h
  have HG := hide hG
  have HS := hide hs
  have HD := hide hd
  have HGD := hide hGd
  have HCL := hide hcl
  clear h hG hs hd hGd hcl hl
  go_enter Tryz.func154, Tryz.ntmps154
  go_upto_if 18 with fail
  go_cut [9, 16, 17] from 18 (fun v9 v16 v17 wx => ∃ (f : Fr) (S' : DSt) (sl' : Slots) (at' : Ats) (TD' TP' G' : Nat → Prop) (a3 : Int), v9 = .pointer (some ⟨f.blk, 0, none⟩) ∧ PoolM wx TD' TP' G' gd g pre hand S' sl' sf at' bs bf ba cl h1 h2 a3 ∧ Hid (Rise at' ∧ (i, f) ∈ at' ∧ at'.length ≤ hand) ∧ Hid (PG pre S' sl' sf (aPut klI i ⟨f.blk, dt, f.dirty || dirty⟩ at') tab sv ∧ sl'.map (·.1) = sl.map (·.1) ∧ (∀ j, cont ((S'.seen (nf pre)).getD []) sl' (aPut klI i ⟨f.blk, dt, f.dirty || dirty⟩ at') j = if j = i then dt else cont ((S.seen (nf pre)).getD []) sl at_ j) ∧ (S.arm = none → S'.arm = none) ∧ S'.queue.length ≤ S.queue.length + 1) ∧ Hid ((∀ b, TD' b → Ext TD w wx b) ∧ ∀ b, TP' b → Ext TP w wx b) ∧ Chg (fun b => TD b ∨ TP b) w wx)
  case first =>
    cases hg : aGet klI at_ i with
    | some f =>
      rw [hg] at hlf
      have hf := hide (get_mem keyI hg)
      clear hg
      go_wp2_with fail
      go_meet
      obtain ⟨hp1, hp2⟩ := HG.out.held (f := ⟨f.blk, dt, f.dirty || dirty⟩) HS.out HL.out fun e => by
        obtain ⟨e1, e2⟩ := Bool.or_eq_false_iff.1 (show (f.dirty || dirty) = false from e)
        exact HCL.out e2
      exact ⟨f, S, sl, at_, TD, TP, G, h3, rfl, HP.out, hide ⟨HG.out.inv.ra, hf.out, hle⟩, hide ⟨hp1, rfl, hp2, fun e => e, by omega⟩, hide ⟨fun b hb => .inl hb, fun b hb => .inl hb⟩, Chg.refl _ _⟩
    | none =>
      rw [hg] at hlf
      have hno := hide ((get_none_iff keyI HG.out.inv.ra.once).1 hg)
      clear hg
      have hext : Ext TD w w = TD := by
        funext b
        unfold Ext
        refine propext ⟨fun h => ?_, .inl⟩
        rcases h with h | h
        · exact h
        · omega
      have HEX := hide hext
      clear hext
      go_upto_block 0 with fail
      go_cut [10] from 19 to 36 (fun v10 wx => ∃ (S' : DSt) (sl' : Slots) (at' : Ats) (TD' G' : Nat → Prop) (a3 : Int), PoolM wx TD' TP G' gd g pre hand S' sl' sf at' bs bf ba cl h1 h2 a3 ∧ Hid (PG pre S' sl' sf at' tab sv ∧ PKeep S S' pre sl sl' at_ at' ∧ S'.queue.length ≤ S.queue.length + 1 ∧ at'.length < hand ∧ (∀ p ∈ at', p.1 ≠ i) ∧ ∀ b, TD' b → Ext TD w wx b) ∧ Chg (fun b => TD b ∨ TP b) w wx)
      case first =>
        have k2 : w.cell? ⟨g, 2, none⟩ = some (.int .i64 (hand : Int)) := HP.out.blk.cell 2
        have hdn : ∀ n, Chg Non w (w.drewN n) := fun n => (Chg.refl Non w).drewN n
        have hl0 := fun (n : Nat) => World.ownsMap.len (ownsMap_chg HP.out.ma (hdn n) (fun h => h)) Tryz.underlying165 3
        simp only [dat_size] at hl0
        by_cases hlt : at_.length < hand
        · have hd0 : decide ((hand : Int) ≤ (at_.length : Int)) = false := decide_eq_false (by omega)
          have hd1 : ¬ hand ≤ at_.length := by omega
          clear hlf
          go_wp2_with fail
          refine wp_loop_rounds 1 ?_
          rw [rounds_succ]
          go_upto_region 3 with fail
          go_quiet (fail)
          go_wp2_with fail
          go_meet
          exact ⟨S, sl, at_, TD, G, h3, HP.out.c0 (hdn _), hide ⟨HG.out, ⟨rfl, fun _ => rfl, fun e => e⟩, by omega, hlt, hno.out, fun b hb => .inl hb⟩, (hdn _).mono fun _ _ h => h.elim⟩
        · have hd0 : decide ((hand : Int) ≤ (at_.length : Int)) = true := decide_eq_true (by omega)
          have hd1 : hand ≤ at_.length := by omega
          have hev := fun {wx : World} (hc : Chg Non w wx) => plEvict (HP.out.c0 hc) HG.out (List.ne_nil_of_length_pos (by omega)) hq
          clear hlf
          go_wp2_with fail
          refine wp_loop_rounds 2 ?_
          rw [rounds_succ]
          go_upto_region 3 with fail
          go_quiet (fail)
          have hcq := hdn nq
          generalize w.drewN nq = w1 at hcq ⊢
          have hev1 := hev hcq
          have nq1 := hcq.size
          clear hev hl0 hd0 hdn k2 k5
          go_wp2_with fail
          refine hev1.mono ?_
          rintro e w2 ⟨hc2, ⟨rfl, harm, hdead⟩ | ⟨rfl, S', sl', at', G', a3, hP2, hG2, hK2, hq2, hln, hsub⟩⟩
          · have HA := hide harm
            have HDD := hide hdead
            clear hev1 harm hdead
            go_wp2_with fail
            go_ret
            obtain ⟨S', hd1, hd2⟩ := HDD.out
            have n2 := hc2.size
            exact ⟨(hcq.mono fun _ _ h => h.elim).trans hc2 fun _ _ h => h, .inl ⟨rfl, HA.out, S', hd1.up (fun b hb => hb.back nq1) (Ext.lt HP.out.drv.lt' (by omega)), hd2⟩⟩
          · have n2 := hc2.size
            have k52 : w2.cell? ⟨g, 5, none⟩ = some (.map (some ba)) := hP2.blk.cell 5
            have k22 : w2.cell? ⟨g, 2, none⟩ = some (.int .i64 (hand : Int)) := hP2.blk.cell 2
            have hdn2 : ∀ n, Chg Non w2 (w2.drewN n) := fun n => (Chg.refl Non w2).drewN n
            have hl2 := fun (n : Nat) => World.ownsMap.len (ownsMap_chg hP2.ma (hdn2 n) (fun h => h)) Tryz.underlying165 3
            simp only [dat_size] at hl2
            have hd2 : decide ((hand : Int) ≤ (at'.length : Int)) = false := decide_eq_false (by omega)
            have hd3 : ¬ hand ≤ at'.length := by omega
            have hlt2 : at'.length < hand := by omega
            have HP2 := hide hP2
            have HG2 := hide hG2
            have HK2 := hide hK2
            have HQ2 := hide hq2
            have HSUB := hide hsub
            clear hev1 hP2 hG2 hK2 hq2 hln hsub
            go_wp2_with fail
            rw [rounds_succ]
            go_upto_region 3 with fail
            go_quiet (fail)
            go_wp2_with fail
            go_meet
            refine ⟨S', sl', at', Ext TD w1 w2, G', a3, HP2.out.c0 (hdn2 _), hide ⟨HG2.out, HK2.out, HQ2.out, hlt2, fun p hp => ?_, fun b hb => hb.back nq1⟩, ((hcq.mono fun _ _ h => h.elim).trans hc2 fun _ _ h => h).trans (hdn2 _) fun _ _ h => h.elim⟩
            obtain ⟨q, hq1, hq2⟩ := HSUB.out p hp
            exact hq2 ▸ hno.out q hq1
      case rest =>
        obtain ⟨S', sl', at', TD', G', a3, hP, hA, hc⟩ := hcut
        obtain ⟨w1, rfl⟩ : ∃ w', w' = wc := ⟨_, rfl⟩
        have hn1 := hc.size
        obtain ⟨A1, A2, A3, A4, A5, A6⟩ := hA.out
        have HA1 := hide A1
        have HA2 := hide A2
        have HA5 := hide A5
        have HA6 := hide A6
        have hca := (Chg.refl Non w1).alloc (.cells #[.slice none 0 0, .bool false, .int .i64 0] 281)
        have hbn := Blk.new w1 281 #[.slice none 0 0, .bool false, .int .i64 0]
        obtain ⟨fb, hfb⟩ : ∃ fb, fb = w1.heap.size := ⟨_, rfl⟩
        have hnP : ¬ TP fb := fun e => by have := hP.lt _ e; omega
        have hnD : ¬ TD' fb := fun e => by have := hP.drv.lt e; omega
        have hfl : w.heap.size ≤ fb := by omega
        have hPa := hP.c0 hca
        rw [← hfb] at hbn
        have HFB := hide hfb
        have HBN := hide hbn
        have HPA := hide hPa
        have HCA := hide hca
        have ka : (w1.alloc (.cells #[.slice none 0 0, .bool false, .int .i64 0] 281)).cell? ⟨g, 5, none⟩ = some (.map (some ba)) := hPa.blk.cell 5
        have hma := hPa.ma
        have hmx : at'.length < maxLen := by unfold maxLen; omega
        have hkey := keyOf_i hi
        obtain ⟨s', hs'⟩ : ∃ s', (i, s') ∈ sl' := by
          have h1 : i ∈ sl.map (·.1) := List.mem_map.2 ⟨_, HS.out, rfl⟩
          rw [← A2.keys] at h1
          obtain ⟨q, hq1, hq2⟩ := List.mem_map.1 h1
          exact ⟨q.2, by rw [← hq2]; exact hq1⟩
        have HS2 := hide hs'
        clear hA A1 A2 A5 A6 hs' hP hfb hbn hPa hca k5 hlf
        go_upto_region 9 with fail
        rw [← HFB.out]
        generalize hwn : w1.alloc (.cells #[.slice none 0 0, .bool false, .int .i64 0] 281) = wn at ka hma HBN HPA HCA ⊢
        clear hwn
        go_wp2_with (at_mapUpdate; refine wpList_mapUpdate_own _ rfl _ _ _ 165 rfl 3 279 keyN Tryz.underlying165 heldR ba at'.length _ rfl hma hmx _ _ (klI i) rfl rfl hkey (.held (.pointer (some ⟨fb, 0, none⟩))) [] rfl ?_; intro w5 hm5 hg5)
        go_wp2_with fail
        go_meet
        have hc5 : Chg (fun k => k = ba) wn w5 := (Chg.of_grown hg5).mono fun b _ e => by injection e
        have n5 := hc5.size
        have na := HCA.out.size
        obtain ⟨hp1, hp2⟩ := HA1.out.held (f := ⟨fb, dt, false || dirty⟩) HS2.out HL.out fun e => by
          rw [← HCL.out (by simpa using e)]
          have e1 := HA2.out.cont i
          unfold cont at e1
          rw [get_none keyI HA5.out, HA1.out.inv.slot HS2.out, get_none keyI hno.out, HG.out.inv.slot HS.out] at e1
          exact e1
        refine ⟨⟨fb, [], false⟩, S', sl', aPut klI i ⟨fb, [], false⟩ at', TD', fun b => TP b ∨ b = fb, G', a3, rfl, HPA.out.born hnP hnD HBN.out hc5 (putZ hm5), hide ⟨HA1.out.inv.ra.put _ _, (mem_put keyI).2 (.inl rfl), ?_⟩, hide ⟨?_, HA2.out.keys, fun j => ?_, HA2.out.arm, A3⟩, hide ⟨fun b hb => (HA6.out b hb).up (by omega), fun b hb => ?_⟩, (hc.trans HCA.out fun _ _ h => h.elim).trans hc5 fun k _ e => .inr ((show k = ba from e) ▸ HP.out.tg.2.2.2)⟩
        · rw [length_put_new keyI HA5.out]; omega
        · rw [put_put keyI]; exact hp1
        · rw [put_put keyI, hp2 j]
          by_cases hj : j = i
          · rw [if_pos hj, if_pos hj]
          · rw [if_neg hj, if_neg hj, HA2.out.cont j]
        · rcases hb with hb | hb
          · exact .inl hb
          · have := HBN.out.lt
            exact .inr ⟨by omega, by omega⟩
  case rest =>
    obtain ⟨f, S', sl', at', TD', TP', G', a3, rfl, hP, hA, hB, hT, hc⟩ := hcut
    obtain ⟨w1, rfl⟩ : ∃ w', w' = wc := ⟨_, rfl⟩
    obtain ⟨hA1, hA2, hA3⟩ := hA.out
    obtain ⟨A0, n0, c0, u, hb⟩ : ∃ A0 n0 c0 u, Blk w1 f.blk 281 #[.slice A0 n0 c0, .bool f.dirty, .int .i64 u] := by
      obtain ⟨dv0, u, hb, hd0⟩ := hP.fr _ hA2
      obtain ⟨A0, c0, e, _⟩ := hd0.shape
      rw [e] at hb
      exact ⟨A0, _, c0, u, hb⟩
    have j0 : w1.cell? ⟨f.blk, 0, none⟩ = some (.slice A0 n0 c0) := hb.cell 0
    have j1 : w1.cell? ⟨f.blk, 1, none⟩ = some (.bool f.dirty) := hb.cell 1
    have z0 : w1.frozen? ⟨f.blk, 0, none⟩ = false := hb.frozen 0
    have z1 : w1.frozen? ⟨f.blk, 1, none⟩ = false := hb.frozen 1
    have hTP : ∀ b, Gd b → ¬ TP' b ∧ ¬ TD' b := fun b hb => by
      obtain ⟨g1, g2, g3⟩ := HGD.out b hb
      refine ⟨fun e => ?_, fun e => ?_⟩
      · rcases hT.out.2 b e with e | e
        · exact g2 e
        · omega
      · rcases hT.out.1 b e with e | e
        · exact g1 e
        · omega
    have hd1 : RdB w1 Gd (.slice A 512 c) dt := HD.out.chg hc fun b hb e => e.elim (HGD.out b hb).1 (HGD.out b hb).2.1
    have htf := hP.tf _ hA2
    have hc2 : Chg (fun k => k = f.blk) w1 (w1.setCell ⟨f.blk, 0, none⟩ (.slice A 512 c)) := Chg.setCell (p := ⟨f.blk, 0, none⟩) (Chg.refl (fun k => k = f.blk) w1) (fun _ => rfl) _
    have hb2 := hb.set_ 0 (.slice A 512 c)
    simp at hb2
    have hc3 : Chg (fun k => k = f.blk) w1 ((w1.setCell ⟨f.blk, 0, none⟩ (.slice A 512 c)).setCell ⟨f.blk, 1, none⟩ (.bool (f.dirty || dirty))) := Chg.setCell (p := ⟨f.blk, 1, none⟩) hc2 (fun _ => rfl) _
    have hb3 := hb2.set_ 1 (.bool (f.dirty || dirty))
    simp at hb3
    have j1b : (w1.setCell ⟨f.blk, 0, none⟩ (.slice A 512 c)).cell? ⟨f.blk, 1, none⟩ = some (.bool f.dirty) := hb2.cell 1
    have hz1 : (w1.setCell ⟨f.blk, 0, none⟩ (.slice A 512 c)).frozen? ⟨f.blk, 1, none⟩ = false := hb2.frozen 1
    have hT2 := hP.turnF (dt := dt) (dirty := f.dirty || dirty) (G' := Gd) (TP' := fun b => TP' b ∨ Gd b) hA1 hA2 hc3 hb3 (hd1.chg hc3 fun b hb e => (hTP b hb).1 (e ▸ htf.1))
      (fun b hb => ⟨.inr hb, fun e => (hTP b hb).1 (e ▸ hP.tg.1), fun e => (hTP b hb).1 (e ▸ hP.tg.2.1), fun e => (hTP b hb).1 (e ▸ hP.tg.2.2.1), fun e => (hTP b hb).1 (e ▸ hP.tg.2.2.2), fun p hp e => (hTP b hb).1 (e ▸ (hP.tf p hp).1)⟩) (fun b hb => .inl hb)
      (fun b hb => Nat.lt_of_lt_of_le (by
        rcases hb with hb | hb
        · exact hP.lt b hb
        · have := (HGD.out b hb).2.2; have := hc.size; omega) hc3.size) (fun b hb => by
        rcases hb with hb | hb
        · exact hP.off b hb
        · exact (hTP b hb).2)
    have hmem : (i, (⟨f.blk, dt, f.dirty || dirty⟩ : Fr)) ∈ aPut klI i ⟨f.blk, dt, f.dirty || dirty⟩ at' := (mem_put keyI).2 (.inl rfl)
    have htouch := plTouch hT2 (hA1.put _ _) hmem
    have HT := hide hT
    have HTF := hide (fun (b : Nat) (e : b = g ∨ b = f.blk) => show TP' b from e.elim (fun e => e ▸ hP.tg.1) fun e => e ▸ htf.1)
    have HA := hide (show at'.length ≤ hand ∧ (aPut klI i ⟨f.blk, dt, f.dirty || dirty⟩ at').length = at'.length from ⟨hA3, length_put_has keyI hA1.once hA2 _⟩)
    have HC := hide hc
    have HC3 := hide hc3
    have HFIN := hide (show ∀ k, k < w.heap.size → (k = g ∨ k = f.blk) → TD k ∨ TP k from fun k hk e => by
      rcases hT.out.2 k (e.elim (fun e => e ▸ hP.tg.1) fun e => e ▸ htf.1) with e | e
      · exact .inr e
      · omega)
    clear hP hA hA1 hA2 hA3 hb hc hd1 hTP hc2 hb2 hc3 hb3 hT2 hmem hT htf k5 hlf
    have HDR : ∀ b, (b = f.blk → b = f.blk) := fun _ e => e
    cases hfd : f.dirty with
    | true =>
      rw [hfd] at j1 j1b htouch HC3 hB HA
      simp only [Bool.true_or] at htouch HC3 hB HA
      go_wp2_with fail
      refine htouch.mono ?_
      rintro e w4 ⟨rfl, ⟨cl', G2, hM⟩, hc4⟩
      have HM := hide hM
      clear htouch hM
      go_wp2_with fail
      go_ret
      obtain ⟨b1, b2, b3, b4, b5⟩ := hB.out
      have n3 := HC3.out.size
      have n4 := hc4.size
      refine ⟨(HC.out.trans HC3.out fun k hk e => HFIN.out k hk (.inr e)).trans hc4 fun k hk e => HFIN.out k hk e, .inr ⟨rfl, S', sl', _, TD', _, G2, cl', a3, HM.out, b1, b2, b3, b4, b5, ?_, fun b hb => (HT.out.out.1 b hb).up (by omega), fun b hb => ?_⟩⟩
      · have := HA.out; omega
      · rcases hb with hb | hb
        · exact .inl ((HT.out.out.2 b hb).up (by omega))
        · exact .inr hb
    | false =>
      rw [hfd] at j1 j1b htouch HC3 hB HA
      simp only [Bool.false_or] at htouch HC3 hB HA
      go_wp2_with fail
      refine htouch.mono ?_
      rintro e w4 ⟨rfl, ⟨cl', G2, hM⟩, hc4⟩
      have HM := hide hM
      clear htouch hM
      go_wp2_with fail
      go_ret
      obtain ⟨b1, b2, b3, b4, b5⟩ := hB.out
      have n3 := HC3.out.size
      have n4 := hc4.size
      refine ⟨(HC.out.trans HC3.out fun k hk e => HFIN.out k hk (.inr e)).trans hc4 fun k hk e => HFIN.out k hk e, .inr ⟨rfl, S', sl', _, TD', _, G2, cl', a3, HM.out, b1, b2, b3, b4, b5, ?_, fun b hb => (HT.out.out.1 b hb).up (by omega), fun b hb => ?_⟩⟩
      · have := HA.out; omega
      · rcases hb with hb | hb
        · exact .inl ((HT.out.out.2 b hb).up (by omega))
        · exact .inr hb
end Go.Proofs.YtliimeoblffigaaGreat

set_option maxRecDepth 100000
namespace Go.Proofs.YtliimeoblffigaaGreat
open Go.RowKit Go.Maps
set_option linter.unusedVariables false

set_option maxHeartbeats 8000000 in
theorem plPut {w : World} {TD TP G : Nat → Prop} {gd g hand bs bf ba : Nat} {pre : ByteArray} {S : DSt} {sl tab : Slots} {sf : List (Int × Int)} {at_ : Ats} {cl h1 h2 h3 : Int} {sv : Option (List UInt8 × (Nat → List UInt8))}
    (h : PoolM w TD TP G gd g pre hand S sl sf at_ bs bf ba cl h1 h2 h3) (hG : PG pre S sl sf at_ tab sv) {i : Nat} {s : Int} (hs : (i, s) ∈ sl) (h1h : 1 ≤ hand) (hle : at_.length ≤ hand) (hhb : hand ≤ 1000000) (hq : S.queue.length ≤ 900000)
    {dv : Value} {Gd : Nat → Prop} {dt : List UInt8} (hd : RdB w Gd dv dt) (hl : dt.length = 512) :
    Calls Tryz.prog 125 #[.pointer (some ⟨g, 0, none⟩), .int .i64 (i : Int), dv] w fun e w' => Chg (fun b => TD b ∨ TP b) w w' ∧
      ((e = .returned (.int .i64 9) ∧ S.arm ≠ none ∧ ∃ S', DrvAt w' (supP pre) (Ext TD w w') gd S' ∧ PDead pre S' (Last pre tab sv)) ∨
       (e = .returned (.int .i64 0) ∧ ∃ S' sl' at' TD' TP' G' cl' a3, PoolM w' TD' TP' G' gd g pre hand S' sl' sf at' bs bf ba cl' h1 h2 a3 ∧ PG pre S' sl' sf at' tab sv ∧ sl'.map (·.1) = sl.map (·.1) ∧ (∀ j, cont ((S'.seen (nf pre)).getD []) sl' at' j = if j = i then dt else cont ((S.seen (nf pre)).getD []) sl at_ j) ∧ (S.arm = none → S'.arm = none) ∧
         S'.queue.length ≤ S.queue.length + 1 ∧ at'.length ≤ hand ∧ (∀ b, TD' b → Ext TD w w' b) ∧ ∀ b, TP' b → Ext TP w w' b)) := by
  have hi : i ≤ 1000000000 := by
    have := hG.inv.ids _ hs
    omega
  obtain ⟨A, c, rfl⟩ : ∃ A c, dv = .slice A 512 c := by
    obtain ⟨A, c, e, _⟩ := hd.shape
    rw [hl] at e
    exact ⟨A, c, e⟩
  have hh := plHas h hi
  have hsome : (aGet klI sl i).isSome = true := by
    rw [hG.inv.slot hs]; rfl
  rw [hsome] at hh
  have hcl := bytesClone (w := w) hd (by omega)
  have HP := hide h
  have HG := hide hG
  have HS := hide hs
  have HL := hide hl
  clear h hG hs hd hl hsome
  go_enter Tryz.func125, Tryz.ntmps125
  go_wp2_with fail
  refine hh.mono ?_
  rintro e w1 ⟨rfl, hw⟩
  subst w1
  clear hh
  go_wp2_with fail
  refine hcl.mono ?_
  rintro e w1 ⟨u, rfl, ho, hc1⟩
  have n1 := hc1.size
  have hTl := HP.out.drv.lt'
  have hPl := HP.out.lt
  have hold := plHold (i := i) (s := s) (dirty := true) (HP.out.c0 hc1) HG.out HS.out h1h hle hhb hq ho.rdB HL.out (fun b hb => ⟨fun e => by have := hTl b e; omega, fun e => by have := hPl b e; omega, hb.2⟩) (fun e => by cases e)
  clear hcl ho
  go_wp2_with fail
  refine hold.mono ?_
  rintro e w2 ⟨hc2, ⟨rfl, harm, hdead⟩ | ⟨rfl, hrest⟩⟩
  · have HA := hide harm
    have HDD := hide hdead
    have n2 := hc2.size
    clear hold harm hdead
    go_wp2_with fail
    go_ret
    obtain ⟨S', hd1, hd2⟩ := HDD.out
    exact ⟨(hc1.mono fun _ _ h => h.elim).trans hc2 fun _ _ h => h, .inl ⟨rfl, HA.out, S', hd1.up (fun b hb => hb.back n1) (Ext.lt hTl (by omega)), hd2⟩⟩
  · have HR := hide hrest
    have n2 := hc2.size
    clear hold hrest
    go_wp2_with fail
    go_ret
    obtain ⟨S', sl', at', TD', TP', G', cl', a3, hM, hG', e1, e2, e3, e4, e5, e6, e7⟩ := HR.out
    refine ⟨(hc1.mono fun _ _ h => h.elim).trans hc2 fun _ _ h => h, .inr ⟨rfl, S', sl', at', TD', TP', G', cl', a3, hM, hG', e1, e2, e3, e4, e5, fun b hb => (e6 b hb).back n1, fun b hb => ?_⟩⟩
    rcases e7 b hb with hb | hb
    · exact hb.back n1
    · exact .inr ⟨hb.1, by omega⟩
end Go.Proofs.YtliimeoblffigaaGreat

set_option maxRecDepth 100000
namespace Go.Proofs.YtliimeoblffigaaGreat
open Go.RowKit Go.Maps
set_option linter.unusedVariables false

set_option maxHeartbeats 8000000 in
theorem plGetA {w : World} {TD TP G : Nat → Prop} {gd g hand bs bf ba : Nat} {pre : ByteArray} {S : DSt} {sl tab : Slots} {sf : List (Int × Int)} {at_ : Ats} {cl h1 h2 h3 : Int} {sv : Option (List UInt8 × (Nat → List UInt8))}
    (h : PoolM w TD TP G gd g pre hand S sl sf at_ bs bf ba cl h1 h2 h3) (hG : PG pre S sl sf at_ tab sv) {i : Nat} {s : Int} (hs : (i, s) ∈ sl) {f : Fr} (hf : (i, f) ∈ at_) :
    Calls Tryz.prog 161 #[.pointer (some ⟨g, 0, none⟩), .int .i64 (i : Int)] w fun e w' => Chg (fun b => TD b ∨ TP b) w w' ∧
      ∃ u, e = .returned (.tuple #[u, .int .i64 0]) ∧ OwnB w' w.heap.size u f.data ∧ ∃ G' cl' a1, PoolM w' TD TP G' gd g pre hand S sl sf at_ bs bf ba cl' a1 h2 h3 := by
  have hi : i ≤ 1000000000 := by
    have := hG.inv.ids _ hs
    omega
  have hh := plHas h hi
  have hsome : (aGet klI sl i).isSome = true := by
    rw [hG.inv.slot hs]; rfl
  rw [hsome] at hh
  have k5 : w.cell? ⟨g, 5, none⟩ = some (.map (some ba)) := h.blk.cell 5
  have k7 : w.cell? ⟨g, 7, none⟩ = some (.int .i64 h1) := h.blk.cell 7
  have z7 := h.blk.frozen 7
  have hlf := lookF h.ma hi
  rw [hG.inv.at hf] at hlf
  obtain ⟨a1, ha1⟩ : ∃ a1, a1 = IntKind.i64.wrap (h1 + 1) := ⟨_, rfl⟩
  have hc1 : Chg (fun k => k = g) w (w.setCell ⟨g, 7, none⟩ (.int .i64 a1)) := Chg.setCell (p := ⟨g, 7, none⟩) (Chg.refl (fun k => k = g) w) (fun _ => rfl) _
  have hb1 := h.blk.set_ 7 (.int .i64 a1)
  simp at hb1
  have h1' := h.turnB hc1 hb1
  have ht := plTouch h1' hG.inv.ra hf
  have hl : f.data.length = 512 := hG.inv.len _ hf
  have HTG := hide (show ∀ k, k = g ∨ k = f.blk → TP k from fun k e => e.elim (fun e => e ▸ h.tg.1) fun e => e ▸ (h.tf _ hf).1)
  have HC1 := hide hc1
  have HF := hide hf
  have HL := hide hl
  have ha := ha1.symm
  clear h hG hs hsome hc1 hb1 h1' hl hf ha1
  go_enter Tryz.func161, Tryz.ntmps161
  go_wp2_with fail
  refine hh.mono ?_
  rintro e w1 ⟨rfl, hw⟩
  subst w1
  clear hh
  go_wp2_with fail
  refine ht.mono ?_
  rintro e w2 ⟨rfl, ⟨cl', G', hM⟩, hc2⟩
  obtain ⟨dv, u, hb, hd⟩ := hM.fr _ HF.out
  have j0 : w2.cell? ⟨f.blk, 0, none⟩ = some dv := hb.cell 0
  have hcl := bytesClone hd (by rw [HL.out]; decide)
  have HM := hide hM
  have n1 := HC1.out.size
  have n2 := hc2.size
  clear ht hM hb hd k5 k7 z7 hlf ha
  go_wp2_with fail
  refine hcl.mono ?_
  rintro e w3 ⟨x, rfl, ho, hc3⟩
  clear hcl
  go_wp2_with fail
  go_ret2
  exact ⟨((HC1.out.mono fun k hk e => .inr (HTG.out k (.inl e))).trans hc2 fun k _ e => .inr (HTG.out k e)).trans hc3 fun _ _ h => h.elim, x, rfl, ho.low (by omega), G', cl', a1, HM.out.c0 hc3⟩
end Go.Proofs.YtliimeoblffigaaGreat

set_option maxRecDepth 100000
namespace Go.Proofs.YtliimeoblffigaaGreat
open Go.RowKit Go.Maps
set_option linter.unusedVariables false

theorem sizeAl (w : World) (o : Obj) : w.heap.size < (w.alloc o).heap.size := by
  show _ < (w.heap.push o).size
  rw [Array.size_push]
  exact Nat.lt_succ_self _
theorem slotY_len {pf : List UInt8} {s : Int} (h : 0 ≤ s → (s.toNat + 1) * 512 ≤ pf.length) : (slotY pf s).length = 512 := by
  unfold slotY
  by_cases h0 : 0 ≤ s
  · rw [if_pos h0]; exact page_length (h h0)
  · rw [if_neg h0]; exact zeros_length
/-- copy out of a longer slice -/
theorem copy_C {w : World} {ops : Array Oper} {rest : List Oper} {o : Oper} {a : Act} {Q : Exit → Act → World → Prop} (hgd : o.guard = none) (d s : Operand)
    (ho : o.op = .call { callee := .builtin .copy, args := #[d, s], argTypes := #[30, 30] })
    {base g n c dCap N c2 : Nat} {A : Option Addr} {l m : List UInt8} {F : Nat → Prop} (hown : OwnB w base (.slice (some ⟨g, 0, none⟩) n c) l)
    (hd : a.eval d = .slice (some ⟨g, 0, none⟩) n dCap) (hy : a.eval s = .slice A N c2) (hr : RdB w F (.slice A N c2) m) (hle : n ≤ m.length) (hpos : 0 < n)
    (h : ∀ w', OwnB w' base (.slice (some ⟨g, 0, none⟩) n c) (m.take n) → Chg (fun b => b = g) w w' → w'.heap.size = w.heap.size → wpList Tryz.prog ops Q rest (a.put o.dst (goInt n)) w') : wpList Tryz.prog ops Q (o :: rest) a w := by
  obtain ⟨cur, h1, h2, h3, h4, h5, h6, h7⟩ := hown.row
  obtain ⟨A9, c9, e9, hc2, hm2⟩ := hr.shape
  injection e9 with eA eN ec
  subst eA; subst eN; subst ec
  have hml : (m.take n).length = n := by rw [List.length_take]; omega
  have hf : RdB w F (.slice A (m.take n).length c2) (m.take n) := by
    rw [hml]; exact hr.front hle
  obtain ⟨ad, rfl, _, hcs⟩ := RdV.cells hf (by omega)
  have hmb := bvs_length (m.take n)
  have hcl : cur.toList.length = c := by rw [Array.length_toList]; exact h6
  have hfit : 0 + (bvs (m.take n)).length ≤ cur.size := by omega
  refine wpList_copy_own hgd d s 30 30 ho 5 Tryz.underlying30 (by kernel_rfl) g 0 n dCap ad m.length c2 hd hy cur 5 h1 (bvs (m.take n)) (by rw [hmb, hml]; exact (Nat.min_eq_right hle).symm) hcs hfit (bvs_one _) ?_
  have hsl : (splice cur.toList 0 (bvs (m.take n))).length = c := by rw [length_splice _ _ _ (by rw [hmb, hcl]; omega), hcl]
  have hrow := setRow_heap w g cur (splice cur.toList 0 (bvs (m.take n))).toArray 5 (0, 0) h1
  have e : List.take 0 l ++ (m.take n ++ List.drop (0 + (m.take n).length) l) = m.take n := by
    rw [hml, List.drop_eq_nil_of_le (by omega)]; simp
  have hgo : goInt (bvs (m.take n)).length = goInt n := by rw [hmb, hml]
  rw [hgo]
  refine h (w.setRow g (splice cur.toList 0 (bvs (m.take n))).toArray) ⟨?_, .inr ⟨g, c, (splice cur.toList 0 (bvs (m.take n))).toArray, ?_, h2, hrow, by rw [hml]; omega, h5, by rw [List.size_toArray, hsl, Nat.mul_one], ?_⟩⟩ ⟨rfl, rfl, rfl, by simp [World.setRow], fun b _ hne => setRow_other w g b _ hne⟩ (by simp [World.setRow])
  · rw [bvs_length, Nat.mul_one]
  · rw [hml]
  · rw [List.toList_toArray, Nat.mul_one, hml]
    have h9 := splice_bytes h7 h3 (show 0 + (m.take n).length ≤ n by omega) (by omega)
    rw [e] at h9
    exact h9

set_option maxHeartbeats 8000000 in
theorem plGetB {w : World} {TD TP G : Nat → Prop} {gd g hand bs bf ba : Nat} {pre : ByteArray} {S : DSt} {sl tab : Slots} {sf : List (Int × Int)} {at_ : Ats} {cl h1 h2 h3 : Int} {sv : Option (List UInt8 × (Nat → List UInt8))}
    (h : PoolM w TD TP G gd g pre hand S sl sf at_ bs bf ba cl h1 h2 h3) (hG : PG pre S sl sf at_ tab sv) {i : Nat} {s : Int} (hs : (i, s) ∈ sl) (h1h : 1 ≤ hand) (hle : at_.length ≤ hand) (hhb : hand ≤ 1000000) (hq : S.queue.length ≤ 900000) (hno : ∀ p ∈ at_, p.1 ≠ i) :
    Calls Tryz.prog 161 #[.pointer (some ⟨g, 0, none⟩), .int .i64 (i : Int)] w fun e w' => Chg (fun b => TD b ∨ TP b) w w' ∧
      ((e = .returned (.tuple #[.slice none 0 0, .int .i64 9]) ∧ S.arm ≠ none ∧ ∃ S', DrvAt w' (supP pre) (Ext TD w w') gd S' ∧ PDead pre S' (Last pre tab sv)) ∨
       ((∃ u, e = .returned (.tuple #[u, .int .i64 0]) ∧ OwnB w' w.heap.size u (slotY ((S.seen (nf pre)).getD []) s)) ∧ ∃ S' sl' at' TD' TP' G' cl' a2 a3, PoolM w' TD' TP' G' gd g pre hand S' sl' sf at' bs bf ba cl' h1 a2 a3 ∧ PG pre S' sl' sf at' tab sv ∧ sl'.map (·.1) = sl.map (·.1) ∧ (∀ j, cont ((S'.seen (nf pre)).getD []) sl' at' j = cont ((S.seen (nf pre)).getD []) sl at_ j) ∧ (S.arm = none → S'.arm = none) ∧
         S'.queue.length ≤ S.queue.length + 1 ∧ at'.length ≤ hand ∧ (∀ b, TD' b → Ext TD w w' b) ∧ ∀ b, TP' b → Ext TP w w' b)) := by
  have hi : i ≤ 1000000000 := by
    have := hG.inv.ids _ hs
    omega
  have hh := plHas h hi
  have hsome : (aGet klI sl i).isSome = true := by
    rw [hG.inv.slot hs]; rfl
  rw [hsome] at hh
  have k5 : w.cell? ⟨g, 5, none⟩ = some (.map (some ba)) := h.blk.cell 5
  have hlf := lookF h.ma hi
  rw [get_none keyI hno] at hlf
  have hmk : (Instr.makeSlice 30 (.int .i64 512) (.int .i64 512)).run Tryz.prog w = .ok (.slice (some ⟨w.heap.size, 0, none⟩) 512 512) (w.alloc (.cells (madeCells #[.int .u8 0] 512) 5)) := mk_files w 512 (by decide)
  have hcB : Chg Non w (w.alloc (.cells (madeCells #[.int .u8 0] 512) 5)) := (Chg.refl Non w).alloc _
  have hoB : OwnB (w.alloc (.cells (madeCells #[.int .u8 0] 512) 5)) w.heap.size (.slice (some ⟨w.heap.size, 0, none⟩) 512 512) zeros := own_files w 512 (by decide)
  have hnB := sizeAl w (.cells (madeCells #[.int .u8 0] 512) 5)
  have HOB := hide hoB
  have HCB := hide hcB
  have HNB := hide hnB
  have HP := hide h
  have HG := hide hG
  have HS := hide hs
  have HNO := hide hno
  clear h hG hs hsome hno hoB hcB hnB
  go_enter Tryz.func161, Tryz.ntmps161
  go_wp2_with fail
  refine hh.mono ?_
  rintro e w1 ⟨rfl, hw⟩
  subst w1
  clear hh
  go_upto_region 9 with fail
  generalize w.alloc (.cells (madeCells #[.int .u8 0] 512) 5) = wB at HOB HCB HNB ⊢
  have nB := HNB.out
  have hPB := HP.out.c0 HCB.out
  have k3 : wB.cell? ⟨g, 3, none⟩ = some (.map (some bs)) := hPB.blk.cell 3
  have hls := (lookZ hPB.ms (keyOf_i hi)).1
  rw [HG.out.inv.slot HS.out] at hls
  have hls : (Instr.lookup 164 (.map (some bs)) (.int .i64 (i : Int)) false).run Tryz.prog wB = .ok (.int .i64 s) wB := hls
  have HPB := hide hPB
  clear hPB hmk hlf k5
  go_upto_if 51 with fail
  go_cut [9, 10] from 51 (fun v9 v10 wx => OwnB wx w.heap.size (.slice (some ⟨w.heap.size, 0, none⟩) 512 512) (slotY ((S.seen (nf pre)).getD []) s) ∧ Chg Non w wx)
  case first =>
    by_cases hneg : s < 0
    · have d1 : decide (0 ≤ s) = false := decide_eq_false (by omega)
      have d2 : ¬ 0 ≤ s := by omega
      have hz : slotY ((S.seen (nf pre)).getD []) s = zeros := by unfold slotY; rw [if_neg d2]
      have HZ := hide hz
      clear hz
      go_wp2_with fail
      go_meet
      rw [HZ.out]
      exact ⟨HOB.out, HCB.out⟩
    · obtain ⟨n, rfl⟩ : ∃ n : Nat, s = (n : Int) := ⟨s.toNat, by omega⟩
      have hfit := HG.out.inv.fit _ HS.out (by show (0 : Int) ≤ (n : Int); omega)
      have hbig := HG.out.inv.big
      have hpre := HP.out.pre
      have k0 : wB.cell? ⟨g, 0, none⟩ = some (.pointer (some ⟨gd, 0, none⟩)) := HPB.out.blk.cell 0
      have hfile := fun {wx : World} (hc : Chg Non wB wx) => plFile (HPB.out.c0 hc)
      have hrd := fun {wx : World} (hc : Chg Non wB wx) => dgRead (HPB.out.drv.c0 hc) HG.out.dead (nfB pre) (by unfold nfB; rw [ByteArray.size_append, show (⟨#[112, 97, 103, 101, 115]⟩ : ByteArray).size = 5 from rfl]; unfold maxLen; omega) (by show ((S.seen (nf pre)).getD []).length ≤ _; omega)
      have d1 : decide ((0 : Int) ≤ (n : Int)) = true := decide_eq_true (by omega)
      obtain ⟨b, hb⟩ : ∃ b, S.seen (nf pre) = some b := by
        cases e : S.seen (nf pre) with
        | some b => exact ⟨b, rfl⟩
        | none => rw [e] at hfit; simp at hfit
      have hb' : S.seen (nfB pre).data.toList = some b := hb
      simp only [hb'] at hrd
      have HBB := hide hb
      have HFIT := hide hfit
      have hmul : IntKind.i64.wrap ((n : Int) * 512) = (n : Int) * 512 := IntWalk.i64_in _ (by have : ((n : Int)).toNat = n := rfl; rw [this] at hfit; omega)
      clear hb hb' hfit hls k3
      go_upto_region 11 with fail
      go_region_law (first
        | (go_simp; go_at_call 121; refine (hfile ((Chg.refl Non wB).drew)).mono ?_; rintro e w2 ⟨rfl, hc2⟩; have hc2' := ((Chg.refl Non wB).drew).trans0 hc2; have k0b := hc2'.cell k0 (fun h => h))
        | (go_simp; go_at_call 83; refine (hrd hc2').mono ?_; rintro e w3 ⟨hc3, u, rfl, ho3⟩))
      all_goals
        try simp only [List.getElem_toArray, List.getElem_cons_succ, List.getElem_cons_zero, Act.put, List.setIfInBounds_toArray, List.set_cons_zero, List.set_cons_succ]
        obtain ⟨Au, cu, rfl, hcu1, hcu2⟩ := ho3.shape
        have hbl : (n + 1) * 512 ≤ b.length := by
          have h9 := HFIT.out
          rw [HBB.out] at h9
          exact h9
        obtain ⟨g2, rfl, hg2, hg3⟩ := ho3.head (by omega)
        obtain ⟨bl, hbl2⟩ : ∃ bl, bl = b.length := ⟨_, rfl⟩
        have HO3 := hide ho3
        rw [← hbl2] at hbl hcu1 ⊢
        have HBL := hide hbl2
        clear ho3 hbl2 hrd hfile
        have hs1 : decide ((n : Int) * 512 < 0) = false := decide_eq_false (by omega)
        have hcw := hc2'.trans0 hc3
        have hoz := HOB.out.chg hcw fun k _ e => e
        have hpc := (HO3.out.rd).piece (i := n * 512) (j := b.length) (by have := HBL.out; omega) (Nat.le_refl _)
        have hadd : (Option.map (fun a : Addr => a.add (n * 512)) (some ⟨g2, 0, none⟩)) = some ⟨g2, n * 512, none⟩ := by
          by_cases h : n * 512 = 0 <;> simp [Addr.add, h]
        have hsrc : RdB w3 (fun k => (Value.slice (some ⟨g2, 0, none⟩) b.length cu).ownBlock = some k) (.slice (some ⟨g2, n * 512, none⟩) (bl - n * 512) (cu - n * 512)) ((b.drop (n * 512)).take (b.length - n * 512)) := by
          rw [if_neg (by omega), hadd] at hpc
          rw [HBL.out]; exact hpc
        have HSRC := hide hsrc
        have HCW := hide hcw
        clear hpc hsrc hcw hadd
        go_wp2_with (refine copy_C rfl _ _ rfl hoz rfl rfl HSRC.out ?_ (by decide) ?_)
        · have := HBL.out; omega
        · intro w4 ho4 hc4 hsz
          have HSZ := hide hsz
          clear hsz hoz
          go_wp2_with fail
          go_meet
          refine ⟨?_, (HCB.out.trans0 HCW.out).trans hc4 fun k hk e => by
            have e : k = w.heap.size := e
            omega⟩
          have e1 : slotY ((S.seen (nf pre)).getD []) (n : Int) = List.take 512 (List.take (b.length - n * 512) (List.drop (n * 512) b)) := by
            unfold slotY
            rw [if_pos (by omega), HBB.out, List.take_take]
            have := HBL.out
            rw [show min 512 (b.length - n * 512) = 512 by omega]
            rfl
          rw [e1]
          exact ho4
  case rest =>
    obtain ⟨ho, hc⟩ := hcut
    obtain ⟨w1, rfl⟩ : ∃ w', w' = wc := ⟨_, rfl⟩
    have n1 := hc.size
    have hTl := HP.out.drv.lt'
    have hPl := HP.out.lt
    have hlen := slotY_len (s := s) (HG.out.inv.fit _ HS.out)
    have hdat := ho.rdB
    have hold := plHold (i := i) (s := s) (dirty := false) (HP.out.c0 hc) HG.out HS.out h1h hle hhb hq hdat hlen (fun b hb => ⟨fun e => by have := hTl b e; omega, fun e => by have := hPl b e; omega, hb.2⟩) (fun _ => rfl)
    have HDAT := hide hdat
    have HLEN := hide hlen
    clear ho hdat hlen hls k3
    go_wp2_with fail
    refine hold.mono ?_
    rintro e w2 ⟨hc2, ⟨rfl, harm, hdead⟩ | ⟨rfl, hrest⟩⟩
    · have HA := hide harm
      have HDD := hide hdead
      have n2 := hc2.size
      clear hold harm hdead
      go_wp2_with fail
      go_ret2
      obtain ⟨S', hd1, hd2⟩ := HDD.out
      exact ⟨(hc.mono fun _ _ h => h.elim).trans hc2 fun _ _ h => h, .inl ⟨rfl, HA.out, S', hd1.up (fun b hb => hb.back n1) (Ext.lt hTl (by omega)), hd2⟩⟩
    · obtain ⟨S', sl', at', TD', TP', G', cl', a3, hM, hG', e1, e2, e3, e4, e5, e6, e7⟩ := hrest
      have n2 := hc2.size
      have k8 : w2.cell? ⟨g, 8, none⟩ = some (.int .i64 h2) := hM.blk.cell 8
      have z8 := hM.blk.frozen 8
      obtain ⟨a2, ha2⟩ : ∃ a2, a2 = IntKind.i64.wrap (h2 + 1) := ⟨_, rfl⟩
      have hc3 : Chg (fun k => k = g) w2 (w2.setCell ⟨g, 8, none⟩ (.int .i64 a2)) := Chg.setCell (p := ⟨g, 8, none⟩) (Chg.refl (fun k => k = g) w2) (fun _ => rfl) _
      have hb3 := hM.blk.set_ 8 (.int .i64 a2)
      simp at hb3
      have hM3 := hM.turnB hc3 hb3
      have hgl := hPl g HP.out.tg.1
      have hd3 := (HDAT.out.chg hc2 fun b hb e => e.elim (fun e => by have := hTl b e; omega) fun e => by have := hPl b e; omega).chg hc3 fun b hb e => by
        have e : b = g := e
        omega
      have hcl := bytesClone hd3 (by rw [HLEN.out]; decide)
      have n3 := hc3.size
      have HM3 := hide hM3
      have HX := hide (And.intro hG' (And.intro e1 (And.intro e2 (And.intro e3 (And.intro e4 e5)))))
      have HE := hide (And.intro e6 e7)
      have HC3 := hide hc3
      have ha := ha2.symm
      clear hold hM hG' e1 e2 e3 e4 e5 e6 e7 ha2 hb3 hM3 hd3 hc3
      go_wp2_with fail
      refine hcl.mono ?_
      rintro e w4 ⟨x, rfl, ho4, hc4⟩
      clear hcl
      go_wp2_with fail
      go_ret2
      have n4 := hc4.size
      obtain ⟨hG', e1, e2, e3, e4, e5⟩ := HX.out
      refine ⟨(((hc.mono fun _ _ h => h.elim).trans hc2 fun _ _ h => h).trans HC3.out fun k _ e => .inr ((show k = g from e) ▸ HP.out.tg.1)).trans hc4 fun _ _ h => h.elim, .inr ⟨⟨x, rfl, ho4.low (by omega)⟩, S', sl', at', TD', TP', G', cl', a2, a3, HM3.out.c0 hc4, hG', e1, fun j => ?_, e3, e4, e5, fun b hb => ((HE.out.1 b hb).back n1).up (by omega), fun b hb => ?_⟩⟩
      · rw [e2 j]
        by_cases hj : j = i
        · rw [if_pos hj, hj]
          unfold cont
          rw [get_none keyI HNO.out, HG.out.inv.slot HS.out]
        · rw [if_neg hj]
      · rcases HE.out.2 b hb with hb | hb
        · exact (hb.back n1).up (by omega)
        · exact .inr ⟨hb.1, by omega⟩
end Go.Proofs.YtliimeoblffigaaGreat

set_option maxRecDepth 100000
namespace Go.Proofs.YtliimeoblffigaaGreat
open Go.RowKit Go.Maps
set_option linter.unusedVariables false
set_option linter.unusedSimpArgs false

/-- Get on a drive that no death waits for -/
theorem plGetU {w : World} {TD TP G : Nat → Prop} {gd g hand bs bf ba : Nat} {pre : ByteArray} {S : DSt} {sl tab : Slots} {sf : List (Int × Int)} {at_ : Ats} {cl h1 h2 h3 : Int} {sv : Option (List UInt8 × (Nat → List UInt8))}
    (h : PoolM w TD TP G gd g pre hand S sl sf at_ bs bf ba cl h1 h2 h3) (hG : PG pre S sl sf at_ tab sv) {i : Nat} (hi : i ∈ sl.map (·.1)) (h1h : 1 ≤ hand) (hle : at_.length ≤ hand) (hhb : hand ≤ 1000000) (hq : S.queue.length ≤ 900000) (harm : S.arm = none) :
    Calls Tryz.prog 161 #[.pointer (some ⟨g, 0, none⟩), .int .i64 (i : Int)] w fun e w' => Chg (fun b => TD b ∨ TP b) w w' ∧ ∃ u, e = .returned (.tuple #[u, .int .i64 0]) ∧ OwnB w' w.heap.size u (cont ((S.seen (nf pre)).getD []) sl at_ i) ∧
      ∃ S' sl' at' TD' TP' G' cl' a1 a2 a3, PoolM w' TD' TP' G' gd g pre hand S' sl' sf at' bs bf ba cl' a1 a2 a3 ∧ PG pre S' sl' sf at' tab sv ∧ sl'.map (·.1) = sl.map (·.1) ∧ (∀ j, cont ((S'.seen (nf pre)).getD []) sl' at' j = cont ((S.seen (nf pre)).getD []) sl at_ j) ∧ S'.arm = none ∧
        S'.queue.length ≤ S.queue.length + 1 ∧ at'.length ≤ hand ∧ (∀ b, TD' b → Ext TD w w' b) ∧ ∀ b, TP' b → Ext TP w w' b := by
  obtain ⟨⟨i', s⟩, hs, hie⟩ := List.mem_map.1 hi
  have hie : i' = i := hie
  subst hie
  by_cases hf : ∃ f, (i', f) ∈ at_
  · obtain ⟨f, hf⟩ := hf
    refine (plGetA h hG hs hf).mono ?_
    rintro e w' ⟨hc, u, rfl, hu, G', cl', a1, hP⟩
    have hct : cont ((S.seen (nf pre)).getD []) sl at_ i' = f.data := by unfold cont; rw [hG.inv.at hf]
    exact ⟨hc, u, rfl, by rw [hct]; exact hu, S, sl, at_, TD, TP, G', cl', a1, h2, h3, hP, hG, rfl, fun _ => rfl, harm, by omega, hle, fun b hb => .inl hb, fun b hb => .inl hb⟩
  · have hno : ∀ p ∈ at_, p.1 ≠ i' := fun p hp e => hf ⟨p.2, by rw [← e]; exact hp⟩
    refine (plGetB h hG hs h1h hle hhb hq hno).mono ?_
    rintro e w' ⟨hc, ⟨_, harm', _⟩ | ⟨⟨u, rfl, hu⟩, S', sl', at', TD', TP', G', cl', a2, a3, hP, hG', e1, e2, e3, e4, e5, e6, e7⟩⟩
    · exact absurd harm harm'
    · have hct : cont ((S.seen (nf pre)).getD []) sl at_ i' = slotY ((S.seen (nf pre)).getD []) s := by unfold cont; rw [get_none keyI hno, hG.inv.slot hs]
      exact ⟨hc, u, rfl, by rw [hct]; exact hu, S', sl', at', TD', TP', G', cl', h1, a2, a3, hP, hG', e1, e2, e3 harm, e4, e5, e6, e7⟩

end Go.Proofs.YtliimeoblffigaaGreat

