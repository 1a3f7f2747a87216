/- The walk of the pool's clean. -/
import Derived.Test.YtliimeoblffigaaGreatPlGG
import Derived.WideKeyEntry
set_option linter.unusedVariables false
set_option linter.unusedSimpArgs false
set_option maxRecDepth 100000
namespace Go.Proofs.YtliimeoblffigaaGreat
open Go.RowKit Go.Maps
open Go.WideElems (findIdx_born findIdx_arr set_self)
open Go.ChangeMaps (modify_eq_set setBlock)
set_option linter.unusedVariables false

/-- 'm[k], .. = s, ..' at a key that is there -/
theorem entryZ {w : World} {B n : Nat} {sl : Slots} (h : w.ownsMap Tryz.prog 3 RI B n (dat klI eZ sl)) (hn : n < maxLen) {i : Nat} (hi : i ≤ 1000000000) {s0 : Int} (hs : aGet klI sl i = some s0) (s : Int) (hwf : (Lit.int .i64 s).wf = true) :
    ∃ (v0 : Value) (st : Nat) (w2 : World), (Instr.mapEntry 164 (.map (some B)) (.int .i64 (i : Int))).run Tryz.prog w = .ok (.tuple #[v0, .int .i64 (st : Int)]) w ∧
      (Instr.entryStore 164 (.map (some B)) (.int .i64 (st : Int)) (.int .i64 s)).run Tryz.prog w = .ok () w2 ∧ w2.ownsMap Tryz.prog 3 RI B (aPut klI i s sl).length (dat klI eZ (aPut klI i s sl)) ∧ Chg (fun k => k = B) w w2 := by
  have hkey := keyOf_i hi
  have hlk := (lookZ h hkey).2
  rw [hs] at hlk
  obtain ⟨w2, hrun, hown, htu⟩ := h.store keyN Tryz.underlying164 hn hkey (val := .int .i64 s) (d := eZ s) (ps := []) (plainElem_int Tryz.underlying3 hwf)
  have hc : Chg (fun k => k = B) w w2 := (Chg.of_grown htu.grown).mono fun b _ e => by injection e
  obtain ⟨es, clock, hb, F, hsz, hD⟩ := h
  obtain ⟨s1, s2, _⟩ := F.stamped
  have ht := Tryz.underlying164
  rcases keyN.find w hkey es.toList F.keys with ⟨f1, f2⟩ | ⟨j, e0, f1, f2, f3⟩
  · exfalso
    simp [Instr.lookup, run_underlying ht, MapKept.run_getObj_map hb, keyN.check w _ hkey, f1, Result.andThen] at hlk
  · have hj : es[j]? = some e0 := by simpa using f2
    have hsame : es.modify j (fun e => { e with key := .int .i64 (i : Int) }) = es := by
      apply Array.ext'
      rw [Array.toList_modify, modify_eq_set _ _ _ _ f2]
      have : ({ e0 with key := .int .i64 (i : Int) } : MapEntry) = e0 := by rw [← f3]
      rw [this]
      exact set_self _ _ _ f2
    have hself : setBlock w B (.map es clock) = w := by
      unfold setBlock
      have e : w.heap.setIfInBounds B (.map es clock) = w.heap := by
        apply Array.ext_getElem?
        intro k
        by_cases hk : k = B
        · subst hk
          rw [hb]
          simp [(Array.getElem?_eq_some_iff.1 hb).1]
        · rw [Array.getElem?_setIfInBounds_ne (Ne.symm hk)]
      rw [e]
    refine ⟨e0.val, e0.born, w2, ?_, ?_, putZ hown, hc⟩
    · have h9 : (Instr.mapEntry 164 (.map (some B)) (.int .i64 (i : Int))).run Tryz.prog w = .ok (.tuple #[e0.val, goInt e0.born]) (setBlock w B (.map es clock)) := by
        simp [Instr.mapEntry, run_underlying ht, MapKept.run_getObj_map hb, keyN.check w false hkey, f1, hj, f3, keyN.stays w hkey, hsame, MapKept.run_setObj_map _ hb, Result.andThen, setBlock]
      rw [h9, hself]; rfl
    · rw [← hrun]
      have hidx : es.findIdx? (fun e => ((e.born : Nat) : Int) == ((e0.born : Nat) : Int)) = some j := by
        rw [findIdx_arr]
        exact findIdx_born s2 f2
      have hmod : es.modify j (fun e => { e with val := .int .i64 s }) = es.modify j (fun e' => { e' with key := .int .i64 (i : Int), val := .int .i64 s }) := by
        apply Array.ext'
        rw [Array.toList_modify, Array.toList_modify, modify_eq_set _ _ _ _ f2, modify_eq_set _ _ _ _ f2, ← f3]
      simp [Instr.entryStore, Instr.mapUpdate, run_underlying ht, MapKept.run_getObj_map hb, asInt, asIntOf, goInt, hidx, hmod, keyN.check w false hkey, f1, hj, f3, keyN.stays w hkey, MapKept.run_setObj_map _ hb, Result.andThen]

theorem put_keys {α : Type} {k : Nat} {v v' : α} : ∀ {l : List (Nat × α)}, Rise l → (k, v) ∈ l → (aPut klI k v' l).map (·.1) = l.map (·.1)
  | [], _, h => by simp at h
  | y :: r, hr, h => by
    obtain ⟨r1, r2⟩ := List.pairwise_cons.1 hr
    have hb : ∀ a b : Nat, (klI a).before (klI b) = decide (a < b) := fun a b => by
      show decide ((a : Int) < (b : Int)) = _
      congr 1
      exact propext Int.ofNat_lt
    rcases List.mem_cons.1 h with e | h
    · subst e
      have e2 : aDel klI k ((k, v) :: r) = r := by
        have e3 : aDel klI k ((k, v) :: r) = aDel klI k r := by
          unfold aDel
          rw [List.filter_cons, if_neg (by rw [(keyI.same k k).2 rfl]; simp)]
        rw [e3, del_none keyI fun p hp => Nat.ne_of_gt (r1 p hp)]
      unfold aPut
      rw [e2]
      cases r with
      | nil => rfl
      | cons z t =>
        unfold aIns
        rw [hb, if_pos (decide_eq_true (r1 z (by simp)))]
        rfl
    · have hlt : y.1 < k := r1 _ h
      have ih := put_keys (v' := v') r2 h
      unfold aPut at ih ⊢
      have e3 : aDel klI k (y :: r) = y :: aDel klI k r := by
        unfold aDel
        rw [List.filter_cons, if_pos (by rw [keyI.ne (Nat.ne_of_lt hlt)]; rfl)]
      rw [e3]
      unfold aIns
      rw [hb, if_neg (by simp; omega), List.map_cons, ih, List.map_cons]
theorem DrvAt.lt' {w : World} {sup : List Nm} {T : Nat → Prop} {g : Nat} {S : DSt} (h : DrvAt w sup T g S) : ∀ b, T b → b < w.heap.size := fun b hb => h.lt hb
theorem PoolM.upD {w : World} {TD TD' TP G : Nat → Prop} {gd g hand bs bf ba : Nat} {pre : ByteArray} {S : DSt} {sl : Slots} {sf : List (Int × Int)} {at_ : Ats} {cl h1 h2 h3 : Int} (h : PoolM w TD TP G gd g pre hand S sl sf at_ bs bf ba cl h1 h2 h3) (hT : ∀ b, TD b → TD' b) (hl : ∀ b, TD' b → b < w.heap.size) (ho : ∀ b, TP b → ¬ TD' b) : PoolM w TD' TP G gd g pre hand S sl sf at_ bs bf ba cl h1 h2 h3 :=
  ⟨h.drv.up hT hl, h.blk, h.ms, h.mf, h.ma, h.fr, h.tg, h.tf, h.apart, h.dist, h.gG, h.lt, ho, h.pre⟩
/-- the pool behind a call that keeps its pages -/
structure PKeep (S S' : DSt) (pre : ByteArray) (sl sl' : Slots) (at_ at' : Ats) : Prop where
  keys : sl'.map (·.1) = sl.map (·.1)
  cont : ∀ j, cont ((S'.seen (nf pre)).getD []) sl' at' j = cont ((S.seen (nf pre)).getD []) sl at_ j
  arm : S.arm = none → S'.arm = none
theorem slot_big {pf : List UInt8} {sl tab : Slots} {at_ : Ats} (I : PInv pf sl at_ tab) : ∀ p ∈ sl, -1 ≤ p.2 ∧ p.2 ≤ 1000000 := fun p hp => by
  refine ⟨I.lo p hp, ?_⟩
  by_cases h : 0 ≤ p.2
  · have h1 := I.fit p hp h
    have h2 := I.big
    have h3 : (p.2.toNat : Int) = p.2 := Int.toNat_of_nonneg h
    have h4 : p.2.toNat ≤ 131072 := by
      have := Nat.le_trans h1 h2
      omega
    omega
  · omega
theorem zero_pos {sf : List (Int × Int)} {tab : Slots} (h : SafeM sf tab) (s : Int) : 0 < (aGet klZ sf s).getD 0 ↔ ∃ p ∈ tab, p.2 = s := by
  rw [← h.pos s]
  constructor
  · intro hp
    cases e : aGet klZ sf s with
    | none => rw [e] at hp; simp at hp
    | some c => rw [e] at hp; exact ⟨c, get_mem keyZ e, hp⟩
  · rintro ⟨c, hm, hc⟩
    rw [mem_get keyZ h.once hm]; exact hc

set_option maxHeartbeats 8000000 in
theorem plClean {w : World} {TD TP G : Nat → Prop} {gd g hand bs bf ba : Nat} {pre : ByteArray} {S : DSt} {sl tab : Slots} {sf : List (Int × Int)} {at_ : Ats} {cl h1 h2 h3 : Int} {sv : Option (List UInt8 × (Nat → List UInt8))}
    (h : PoolM w TD TP G gd g pre hand S sl sf at_ bs bf ba cl h1 h2 h3) (hG : PG pre S sl sf at_ tab sv) {i : Nat} {f : Fr} (hf : (i, f) ∈ at_) (hq : S.queue.length ≤ 900000) :
    Calls Tryz.prog 224 #[.pointer (some ⟨g, 0, none⟩), .int .i64 (i : Int)] w fun e w' => Chg (fun b => TD b ∨ TP b) w w' ∧
      ((e = .returned (.int .i64 9) ∧ S.arm ≠ none ∧ ∃ S', DrvAt w' (supP pre) (Ext TD w w') gd S' ∧ PDead pre S' (Last pre tab sv)) ∨
       (e = .returned (.int .i64 0) ∧ ∃ S' sl' G', PoolM w' (Ext TD w w') TP G' gd g pre hand S' sl' sf (aPut klI i ⟨f.blk, f.data, false⟩ at_) bs bf ba cl h1 h2 h3 ∧ PG pre S' sl' sf (aPut klI i ⟨f.blk, f.data, false⟩ at_) tab sv ∧ PKeep S S' pre sl sl' at_ (aPut klI i ⟨f.blk, f.data, false⟩ at_) ∧ S'.queue.length ≤ S.queue.length + 1)) := by
  have hi : i ≤ 1000000000 := by
    obtain ⟨s, hs⟩ := hG.inv.sub _ hf
    have := hG.inv.ids _ hs
    omega
  have k5 : w.cell? ⟨g, 5, none⟩ = some (.map (some ba)) := h.blk.cell 5
  have hlf := lookF h.ma hi
  rw [hG.inv.at hf] at hlf
  obtain ⟨dv, u, hb, hd⟩ := h.fr _ hf
  have j1 : w.cell? ⟨f.blk, 1, none⟩ = some (.bool f.dirty) := hb.cell 1
  cases hdt : f.dirty with
  | false =>
    rw [hdt] at j1
    have HP := hide h
    have HG := hide hG
    have hff : (⟨f.blk, f.data, false⟩ : Fr) = f := by cases f; cases hdt; rfl
    have HFF := hide hff
    clear h hG hb hd hdt hff
    go_enter Tryz.func224, Tryz.ntmps224
    go_wp2_with fail
    go_ret
    rw [HFF.out, put_self HG.out.inv.ra hf]
    have hlt := fun b (hb : TD b) => HP.out.drv.lt hb
    refine ⟨Chg.refl _ _, .inr ⟨rfl, S, sl, G, ?_, HG.out, ⟨rfl, fun _ => rfl, fun e => e⟩, Nat.le_succ _⟩⟩
    have hE : Ext TD w w = TD := by
      funext b
      unfold Ext
      refine propext ⟨fun h => ?_, .inl⟩
      rcases h with h | h
      · exact h
      · omega
    rw [hE]
    exact HP.out
  | true =>
    rw [hdt] at j1
    obtain ⟨s0, hs0⟩ := hG.inv.sub _ hf
    have hs0 : (i, s0) ∈ sl := hs0
    have k3 : w.cell? ⟨g, 3, none⟩ = some (.map (some bs)) := h.blk.cell 3
    have k4 : w.cell? ⟨g, 4, none⟩ = some (.map (some bf)) := h.blk.cell 4
    have hls := (lookZ h.ms (keyOf_i hi)).1
    rw [hG.inv.slot hs0] at hls
    have hls : (Instr.lookup 164 (.map (some bs)) (.int .i64 (i : Int)) false).run Tryz.prog w = .ok (.int .i64 s0) w := hls
    have hb0 := slot_big hG.inv _ hs0
    have hlz := (lookZ h.mf (keyOf_z (i := s0) hb0.1 (by have := hb0.2; show s0 ≤ _; have : s0 ≤ 1000000 := hb0.2; omega))).1
    have hfree := plFreeSlot h hG.sf hG.inv.rs (slot_big hG.inv) hG.inv.nS hG.inv.nT
    have hzp := zero_pos hG.sf s0
    have HP := hide h
    have HG := hide hG
    have HB := hide hb
    have HD := hide hd
    have HDT := hide hdt
    have HS0 := hide hs0
    have HB0 := hide hb0
    obtain ⟨c0, hc0⟩ : ∃ c0, c0 = (aGet klZ sf s0).getD 0 := ⟨_, rfl⟩
    rw [← hc0] at hlz hzp
    obtain ⟨b, hbb⟩ : ∃ b : Bool, b = (decide (s0 < 0) || decide (0 < c0)) := ⟨_, rfl⟩
    have HBB := hide hbb
    have HZP := hide hzp
    clear h hG hb hd hdt hs0 hb0 hc0 hbb hzp
    go_enter Tryz.func224, Tryz.ntmps224
    go_upto_region 5 with fail
    go_cut [35] from 25 (fun v wx => v = .bool b ∧ wx = w)
    case first =>
      by_cases hneg : s0 < 0
      · have d1 : decide (s0 < 0) = true := decide_eq_true hneg
        have hbt : b = true := by rw [HBB.out, d1]; rfl
        have HBT := hide hbt
        clear hbt
        go_wp2_with fail
        go_meet
        exact ⟨by rw [HBT.out], rfl⟩
      · have d1 : decide (s0 < 0) = false := decide_eq_false hneg
        have hbt : b = decide (0 < c0) := by rw [HBB.out, d1]; rfl
        have HBT := hide hbt
        clear hbt
        go_wp2_with fail
        go_meet
        exact ⟨by rw [HBT.out], rfl⟩
    case rest =>
      obtain ⟨rfl, hw⟩ := hcut
      subst wc
      go_upto_if 35 with fail
      go_cut [6] from 35 (fun v6 wx => ∃ s : Nat, v6 = .int .i64 (s : Int) ∧ Good ((S.seen (nf pre)).getD []) sl tab i s ∧ Chg Non w wx)
      case first =>
        cases hbv : b with
        | true =>
          clear HBB hbv
          go_wp2_with fail
          refine hfree.mono ?_
          rintro e w1 ⟨s, rfl, hfs, hc⟩
          clear hfree
          go_wp2_with fail
          go_meet
          case rel => exact ⟨s, rfl, Good.of_free HG.out.inv hfs, hc⟩
        | false =>
          have hz := HBB.out
          rw [hbv] at hz
          have hz2 := Bool.or_eq_false_iff.1 hz.symm
          have hn0 : ¬ s0 < 0 := of_decide_eq_false hz2.1
          have hp0 : ¬ 0 < c0 := of_decide_eq_false hz2.2
          obtain ⟨s, rfl⟩ : ∃ s : Nat, s0 = (s : Int) := ⟨s0.toNat, by omega⟩
          have hgood := hide (Good.of_own HG.out.inv HS0.out (fun p hp e => hp0 (HZP.out.2 ⟨p, hp, e⟩)))
          clear HBB hbv hz hz2 hfree
          go_wp2_with fail
          go_meet
          case rel => exact ⟨s, rfl, hgood.out, Chg.refl _ _⟩
      case rest =>
        obtain ⟨s, rfl, hgood, hc1⟩ := hcut
        obtain ⟨w1, rfl⟩ : ∃ w', w' = wc := ⟨_, rfl⟩
        have HP1 := hide (HP.out.c0 hc1)
        have k0 : w1.cell? ⟨g, 0, none⟩ = some (.pointer (some ⟨gd, 0, none⟩)) := HP1.out.blk.cell 0
        have j0 : w1.cell? ⟨f.blk, 0, none⟩ = some dv := (HB.out.c0 hc1).cell 0
        have hsb := hgood.big
        have hmul : IntKind.i64.wrap ((s : Int) * 512) = (s : Int) * 512 := IntWalk.i64_in _ (by omega)
        have hcast : ((s * 512 : Nat) : Int) = (s : Int) * 512 := by omega
        have hpf := HG.out.inv.big
        have hpre := HP1.out.pre
        have hwr := fun {wx : World} (hc : Chg Non w1 wx) => dgWrite (w := wx) (a := s * 512) (s := nfB pre) (bv := dv) (dt := f.data) (HP1.out.drv.c0 hc) HG.out.dead (supP_once pre) (by simp [supP]) (by unfold nfB; rw [ByteArray.size_append, show (⟨#[112, 97, 103, 101, 115]⟩ : ByteArray).size = 5 from rfl]; omega) (by simp [supP, nf]) hgood.le ((HD.out.c0 hc1).c0 hc) (by have := HG.out.tot; have h9 : f.data.length = 512 := HG.out.inv.len _ hf; omega) (by show ((S.seen (nf pre)).getD []).length ≤ _; omega) (by omega)
        rw [hcast] at hwr
        have hfile := fun {wx : World} (hc : Chg Non w1 wx) => plFile (HP1.out.c0 hc)
        have HGOOD := hide hgood
        clear hls hlz hfree hlf j1 k3 k4 k5 hgood hcast
        go_upto_region 7 with fail
        go_cut [7] from 38 (fun v7 wx => v7 = .int .i64 S.er ∧ DrvAt wx (supP pre) (Ext TD w1 wx) gd (S.did (.wr (nf pre) (s * 512) f.data)) ∧ Chg TD w1 wx)
        case first =>
          go_region_law (first
            | (go_simp; go_at_call 121; refine (hfile ((Chg.refl Non w1).drew)).mono ?_; rintro e w2 ⟨rfl, hc2⟩; have hc2' := ((Chg.refl Non w1).drew).trans0 hc2; have k0b := hc2'.cell k0 (fun h => h); have j0b := hc2'.cell j0 (fun h => h))
            | (go_simp; go_at_call 239; refine (hwr hc2').mono ?_; rintro e w3 ⟨rfl, hD3, hc3⟩))
          all_goals
            try simp only [List.getElem_toArray, List.getElem_cons_succ, List.getElem_cons_zero, Act.put, List.setIfInBounds_toArray, List.set_cons_zero, List.set_cons_succ]
            go_wp2_with fail
            go_meet
            exact ⟨rfl, hD3.up (fun b hb => hb.back hc2'.size) (Ext.lt HP1.out.drv.lt' (Nat.le_trans hc2'.size hc3.size)), (hc2'.mono fun _ _ h => h.elim).trans hc3 fun _ _ h => h⟩
        case rest =>
          obtain ⟨rfl, hD3, hc3⟩ := hcut
          obtain ⟨w3, rfl⟩ : ∃ w', w' = wc := ⟨_, rfl⟩
          have n1 := hc1.size
          have n3 := hc3.size
          have hTl := HP.out.drv.lt'
          have hP3 := HP1.out.drive hD3 hc3
          have HP3 := hide hP3
          have HD3 := hide hD3
          clear hP3 hD3 hwr hfile hmul k0 j0
          cases hk : S.kl with
          | true =>
            have he := er9 hk
            have HK := hide hk
            rw [he]
            clear hk he
            go_wp2_with fail
            go_ret
            exact ⟨(hc1.mono fun _ _ h => h.elim).trans hc3 fun _ _ h => .inl h, .inl ⟨rfl, kl_some HK.out, _, HD3.out.up (fun b hb => hb.back n1) (Ext.lt hTl (by omega)), (HG.out.wr hf HGOOD.out hq).1 HK.out⟩⟩
          | false =>
            have he := er0 hk
            have HW := hide ((HG.out.wr hf HGOOD.out hq).2 hk)
            rw [he]
            have hP3 := HP3.out
            have k3 : w3.cell? ⟨g, 3, none⟩ = some (.map (some bs)) := hP3.blk.cell 3
            obtain ⟨v0, st, w4, hme, hes, hm4, hc4⟩ := entryZ hP3.ms (by have := HG.out.inv.nS; unfold maxLen; omega) hi (HG.out.inv.slot HS0.out) (s : Int) (wf64 (by omega) (by omega))
            have hP4 := hP3.turnS hc4 hm4
            obtain ⟨dv4, u4, hb4, hd4⟩ := hP4.fr _ hf
            have j1 : w4.cell? ⟨f.blk, 1, none⟩ = some (.bool f.dirty) := hb4.cell 1
            have z1 : w4.frozen? ⟨f.blk, 1, none⟩ = false := hb4.frozen 1
            have hb5 : Blk (w4.setCell ⟨f.blk, 1, none⟩ (.bool false)) f.blk 281 #[dv4, .bool false, .int .i64 u4] := hb4.set_ 1 (.bool false)
            have hc5 : Chg (fun k => k = f.blk) w4 (w4.setCell ⟨f.blk, 1, none⟩ (.bool false)) := Chg.setCell (p := ⟨f.blk, 1, none⟩) (Chg.refl (fun k => k = f.blk) w4) (fun _ => rfl) _
            have hP5 := hide (hP4.turnF HG.out.inv.ra hf hc5 hb5 (hd4.chg hc5 fun b hb e => (hP4.gG b hb).2.2.2.2.2 _ hf e) hP4.gG (fun b hb => hb) (fun b hb => Nat.lt_of_lt_of_le (hP4.lt b hb) hc5.size) hP4.off)
            have n4 := hc4.size
            have n5 := hc5.size
            have HC := hide ((((hc1.mono (S' := fun b => TD b ∨ TP b) fun _ _ h => h.elim).trans hc3 fun _ _ h => .inl h).trans hc4 fun k _ e => .inr ((show k = bs from e) ▸ HP.out.tg.2.1)).trans hc5 fun k _ e => .inr ((show k = f.blk from e) ▸ (HP.out.tf _ hf).1))
            clear hk he hP3 hP4 hm4 hc4 hc5 hb5 hd4 hb4
            go_wp2_with fail
            go_ret
            obtain ⟨hG', hcont⟩ := HW.out
            refine ⟨HC.out, .inr ⟨rfl, _, _, ⟨_, hP5.out.upD (fun b hb => (hb.back n1).up (by omega)) (Ext.lt hTl (by omega)) (fun b hb e => ?_)⟩, hG', ⟨put_keys HG.out.inv.rs HS0.out, hcont, did_arm0⟩, ?_⟩⟩
            · rcases e with e | e
              · exact HP.out.off b hb e
              · have := HP.out.lt b hb; omega
            · show (S.queue ++ [_]).length ≤ _
              rw [List.length_append]; simp
end Go.Proofs.YtliimeoblffigaaGreat

set_option maxRecDepth 100000
namespace Go.Proofs.YtliimeoblffigaaGreat
open Go.RowKit Go.Maps
set_option linter.unusedVariables false

theorem PG.drop {pre : ByteArray} {S : DSt} {sl tab : Slots} {sf : List (Int × Int)} {at_ : Ats} {sv : Option (List UInt8 × (Nat → List UInt8))} (h : PG pre S sl sf at_ tab sv) {i : Nat} {f : Fr} (hf : (i, f) ∈ at_) (hd : f.dirty = false) :
    PG pre S sl sf (aDel klI i at_) tab sv ∧ ∀ j, cont ((S.seen (nf pre)).getD []) sl (aDel klI i at_) j = cont ((S.seen (nf pre)).getD []) sl at_ j := by
  obtain ⟨h1, h2⟩ := h.inv.drop hf hd
  exact ⟨⟨h1, h.sf, h.dead, h.out, h.seen, h.nt, h.mt, h.bs, h.hold⟩, h2⟩

set_option maxHeartbeats 8000000 in
theorem plEvict {w : World} {TD TP G : Nat → Prop} {gd g hand bs bf ba : Nat} {pre : ByteArray} {S : DSt} {sl tab : Slots} {sf : List (Int × Int)} {at_ : Ats} {cl h1 h2 h3 : Int} {sv : Option (List UInt8 × (Nat → List UInt8))}
    (h : PoolM w TD TP G gd g pre hand S sl sf at_ bs bf ba cl h1 h2 h3) (hG : PG pre S sl sf at_ tab sv) (hne : at_ ≠ []) (hq : S.queue.length ≤ 900000) :
    Calls Tryz.prog 184 #[.pointer (some ⟨g, 0, none⟩)] w fun e w' => Chg (fun b => TD b ∨ TP b) w w' ∧
      ((e = .returned (.int .i64 9) ∧ S.arm ≠ none ∧ ∃ S', DrvAt w' (supP pre) (Ext TD w w') gd S' ∧ PDead pre S' (Last pre tab sv)) ∨
       (e = .returned (.int .i64 0) ∧ ∃ S' sl' at' G' a3, PoolM w' (Ext TD w w') TP G' gd g pre hand S' sl' sf at' bs bf ba cl h1 h2 a3 ∧ PG pre S' sl' sf at' tab sv ∧ PKeep S S' pre sl sl' at_ at' ∧ S'.queue.length ≤ S.queue.length + 1 ∧ at'.length + 1 = at_.length ∧ ∀ p ∈ at', ∃ q ∈ at_, q.1 = p.1)) := by
  have k5 : w.cell? ⟨g, 5, none⟩ = some (.map (some ba)) := h.blk.cell 5
  have hma := h.ma
  have hba := hma.lt
  have HP := hide h
  have HG := hide hG
  have HNE := hide hne
  clear h hG hne
  go_enter Tryz.func184, Tryz.ntmps184
  go_wp2_with (at_range; refine wpList_range_own _ rfl _ 165 rfl 3 279 keyN Tryz.underlying165 heldR ba at_.length _ rfl hma ?_; intro w0 hrg0 hg0 hs0)
  go_frame
  have hc0 : Chg Non w w0 := (Chg.of_grown hg0).mono fun b _ e => by cases e
  have hrn : w.heap.size < w0.heap.size := by omega
  have hmem0 : ∀ p ∈ at_, Maps.has (dat klI eF at_) (klI p.1) = true := fun p hp => by rw [dat_has, mem_get keyI HG.out.inv.ra.once (k := p.1) (v := p.2) hp]; rfl
  have HM0 := hide hmem0
  clear hma hmem0
  go_loopw [3] (fun ov wr => ∃ (left : Lit → Bool) (cnt : Nat) (o : Int), wr.ranges Tryz.prog 3 heldR ba w.heap.size at_.length (dat klI eF at_) left cnt ∧ ov = .int .i64 o ∧ Hid (o = -1 → ∀ p ∈ at_, left (klI p.1) = true) ∧ Hid (o ≠ -1 → ∃ p ∈ at_, o = (p.1 : Int)) ∧ Hid (∀ z, left z = true → Maps.has (dat klI eF at_) z = true) ∧ Chg Non w wr) (fun _ wr => wr.rangeLeft ba w.heap.size)
  case atStart => exact ⟨_, _, -1, hrg0, rfl, hide (fun _ => HM0.out), hide (fun h => absurd rfl h), hide fun z hz => hz, hc0⟩
  case round =>
    clear hrg0 hg0 hs0 hc0
    obtain ⟨left, cnt, o, hrg, rfl, ho1, ho2, hsub, hcw⟩ := hrel
    go_wp2_with (at_next; refine wpList_next_ranges _ rfl _ rfl 3 keyN heldR (Value.int .i64) (fun c : Value => c) (fun key kl hk => by obtain ⟨x, e, _⟩ := keyOf_zinv hk; exact ⟨x, e⟩) (fun v y _ => ⟨v, rfl⟩) ba w.heap.size at_.length _ _ _ rfl hrg ?_ ?_)
    · intro hn0 hl0
      obtain ⟨p, hp, rfl⟩ : ∃ p ∈ at_, o = (p.1 : Int) := ho2.out fun e => by
        obtain ⟨p, hp⟩ := List.exists_mem_of_ne_nil _ HNE.out
        have := ho1.out e p hp
        rw [hl0] at this
        cases this
      obtain ⟨w2, rfl⟩ : ∃ w', w' = wr := ⟨_, rfl⟩
      have hcl := plClean (i := p.1) (f := p.2) (HP.out.c0 hcw) HG.out hp hq
      have n2 := hcw.size
      have hTl := HP.out.drv.lt'
      clear hrg hl0 hn0 ho1 ho2 hsub
      go_wp2_with fail
      refine hcl.mono ?_
      rintro e w4 ⟨hc4, ⟨rfl, harm, hdead⟩ | ⟨rfl, S', sl', G', hP4, hG4, hK4, hq4⟩⟩
      · have HA := hide harm
        have HDD := hide hdead
        clear hcl harm hdead
        go_wp2_with fail
        go_ret
        obtain ⟨S', hd1, hd2⟩ := HDD.out
        have n4 := hc4.size
        exact ⟨(hcw.mono fun _ _ h => h.elim).trans hc4 fun _ _ h => h, .inl ⟨rfl, HA.out, S', hd1.up (fun b hb => hb.back n2) (Ext.lt hTl (by omega)), hd2⟩⟩
      · have k54 : w4.cell? ⟨g, 5, none⟩ = some (.map (some ba)) := hP4.blk.cell 5
        have hma4 := hP4.ma
        have hkey := keyOf_i (i := p.1) (by
          obtain ⟨s, hs⟩ := HG.out.inv.sub _ hp
          have := HG.out.inv.ids _ hs
          omega)
        have HP4 := hide hP4
        have HG4 := hide hG4
        have HK4 := hide hK4
        have HQ4 := hide hq4
        clear hcl hP4 hG4 hK4 hq4
        go_upto_region 11 with (at_delete; refine wpList_delete_own _ rfl _ _ 165 3 rfl 279 keyN Tryz.underlying165 heldR ba (aPut klI p.1 ⟨p.2.blk, p.2.data, false⟩ at_).length _ rfl hma4 _ (klI p.1) rfl hkey ?_; intro w5 hm5 ht5)
        have hc5 : Chg (fun k => k = ba) w4 w5 := (Chg.of_grown ht5.grown).mono fun b _ e => by injection e
        have hP5 := HP4.out.turnA hc5 (delZ hm5) (fun q hq => ((mem_del keyI).1 hq).1)
        have k9 : w5.cell? ⟨g, 9, none⟩ = some (.int .i64 h3) := hP5.blk.cell 9
        have z9 := hP5.blk.frozen 9
        obtain ⟨a3, ha3⟩ : ∃ a3, a3 = IntKind.i64.wrap (h3 + 1) := ⟨_, rfl⟩
        have hb6 := hP5.blk.set_ 9 (.int .i64 a3)
        simp at hb6
        have hc6 : Chg (fun k => k = g) w5 (w5.setCell ⟨g, 9, none⟩ (.int .i64 a3)) := Chg.setCell (p := ⟨g, 9, none⟩) (Chg.refl (fun k => k = g) w5) (fun _ => rfl) _
        have hP6 := hP5.turnB hc6 hb6
        have HP6 := hide hP6
        have n4 := hc4.size
        have n5 := hc5.size
        have n6 := hc6.size
        have HC := hide ((((hcw.mono (S' := fun b => TD b ∨ TP b) fun _ _ h => h.elim).trans hc4 fun _ _ h => h).trans hc5 fun k _ e => .inr ((show k = ba from e) ▸ HP.out.tg.2.2.2)).trans hc6 fun k _ e => .inr ((show k = g from e) ▸ HP.out.tg.1))
        have hw3 := ha3.symm
        clear hma4 k54 hm5 ht5 hc5 hP5 hb6 hc6 hP6 ha3
        go_wp2_with fail
        go_ret
        have hpm : (p.1, (⟨p.2.blk, p.2.data, false⟩ : Fr)) ∈ aPut klI p.1 ⟨p.2.blk, p.2.data, false⟩ at_ := (mem_put keyI).2 (.inl rfl)
        obtain ⟨hGd, hcd⟩ := HG4.out.drop hpm rfl
        refine ⟨HC.out, .inr ⟨rfl, S', sl', _, _, a3, HP6.out.upD (fun b hb => (hb.back n2).up (by omega)) (Ext.lt hTl (by omega)) (fun b hb e => ?_), hGd, ⟨HK4.out.keys, fun j => by rw [hcd j]; exact HK4.out.cont j, HK4.out.arm⟩, HQ4.out, ?_, fun q hq => ?_⟩⟩
        · rcases e with e | e
          · exact HP.out.off b hb e
          · have := HP.out.lt b hb; omega
        · rw [length_del_has keyI (HG.out.inv.ra.put _ _).once hpm, length_put_has keyI HG.out.inv.ra.once (k := p.1) (u := p.2) hp]
        · rcases (mem_put keyI).1 ((mem_del keyI).1 hq).1 with rfl | ⟨hq, _⟩
          · exact ⟨p, hp, rfl⟩
          · exact ⟨q, hq, rfl⟩
    · intro x c kl y ps w3 cnt1 hkey hlk hRy hat hrg1 hlt hg1 hs1 hen
      obtain ⟨p, hp, hpk⟩ : ∃ p ∈ at_, klI p.1 = kl := by
        have h1 := hsub.out kl hlk
        rw [dat_has_any] at h1
        obtain ⟨p, hp, h2⟩ := List.any_eq_true.1 h1
        exact ⟨p, hp, WideAt.sameKey_eq h2⟩
      subst hpk
      have hcx : c = .pointer (some ⟨p.2.blk, 0, none⟩) := by
        have h1 := hat (.held nilS)
        rw [dat_at, mem_get keyI HG.out.inv.ra.once (k := p.1) (v := p.2) hp] at h1
        simp only [heldR, Option.some.injEq] at hRy
        rw [← (Prod.mk.inj hRy).1] at h1
        simp only [Option.map_some, Option.getD_some, DataW.held.injEq] at h1
        exact h1.symm
      have hxp : x = (p.1 : Int) := by
        obtain ⟨x', e1, e2⟩ := keyOf_zinv hkey
        injection e1 with _ e1
        subst e1
        unfold klI klZ at e2
        injection e2 with _ e2
        exact e2.symm
      subst hcx
      subst hxp
      have hw3 : Chg Non w w3 := hcw.grown hg1 fun b hb hlt => by injection hb with hb; omega
      have HP3 := hide (HP.out.c0 hw3)
      have k53 := hw3.cell k5 (fun h => h)
      obtain ⟨dv, u, hb, hd⟩ := HP3.out.fr p hp
      have j2 : w3.cell? ⟨p.2.blk, 2, none⟩ = some (.int .i64 u) := hb.cell 2
      have HRG := hide hrg1
      have hle1 := hrg1.left_eq
      have hle2 := hrg.left_eq
      clear hrg hrg1 hlk hat hRy hb hd hkey
      go_upto_region 5 with fail
      have hc3d : ∀ n, Chg Non w3 (w3.drewN n) := fun n => (Chg.refl Non w3).drewN n
      go_cut [34] from 17 to 34 (fun v wx => (∃ b, v = .bool b ∧ (o = -1 → b = true)) ∧ ∃ k, wx = w3.drewN k)
      case first =>
        by_cases hm : o = -1
        · subst hm
          go_quiet (fail)
          go_wp2_with fail
          go_meet
          exact ⟨⟨_, rfl, fun _ => rfl⟩, ⟨_, rfl⟩⟩
        · obtain ⟨q, hq1, rfl⟩ := ho2.out hm
          obtain ⟨dv2, u2, hb2, hd2⟩ := HP3.out.fr q hq1
          have j3 : w3.cell? ⟨q.2.blk, 2, none⟩ = some (.int .i64 u2) := hb2.cell 2
          have hidx : q.1 ≤ 1000000000 := by
            obtain ⟨s, hs⟩ := HG.out.inv.sub _ hq1
            have := HG.out.inv.ids _ hs
            omega
          have hlf := fun (n : Nat) => lookF (ownsMap_chg HP3.out.ma (hc3d n) (fun h => h)) hidx
          rw [HG.out.inv.at (i := q.1) (f := q.2) hq1] at hlf
          have hd0 : decide ((q.1 : Int) < 0) = false := decide_eq_false (by omega)
          clear hb2 hd2
          go_quiet (fail)
          go_wp2_with fail
          go_meet
          exact ⟨⟨_, rfl, fun e => absurd e hm⟩, ⟨_, rfl⟩⟩
      case rest =>
        obtain ⟨⟨b, rfl, hb1⟩, k, hwk⟩ := hcut
        have hrgk : wc.ranges Tryz.prog 3 heldR ba w.heap.size at_.length (dat klI eF at_) (fun z => left z && !z.sameKey (klI p.1)) cnt1 := by rw [hwk]; exact HRG.out
        have hlek : wc.rangeLeft ba w.heap.size = cnt1 := by rw [hwk]; exact hle1
        have hcwk : Chg Non w wc := by rw [hwk]; exact hw3.drewN k
        have HRK := hide hrgk
        clear hwk hrgk HRG hle1 HP3 hw3 k53 j2
        cases b with
        | true =>
          go_wp2_with fail
          go_roundw
          case rel => exact ⟨_, _, (p.1 : Int), HRK.out, rfl, hide (fun e => by omega), hide (fun _ => ⟨p, hp, rfl⟩), hide fun z hz => hsub.out z (by simp only [Bool.and_eq_true] at hz; exact hz.1), hcwk⟩
          case measure =>
            rw [hlek, hle2]
            exact hlt
        | false =>
          have hno : o ≠ -1 := fun e => by cases hb1 e
          have HNO := hide hno
          clear hno hb1
          go_wp2_with fail
          go_roundw
          case rel => exact ⟨_, _, o, HRK.out, rfl, hide (fun e => absurd e HNO.out), hide ho2.out, hide fun z hz => hsub.out z (by simp only [Bool.and_eq_true] at hz; exact hz.1), hcwk⟩
          case measure =>
            rw [hlek, hle2]
            exact hlt
end Go.Proofs.YtliimeoblffigaaGreat

