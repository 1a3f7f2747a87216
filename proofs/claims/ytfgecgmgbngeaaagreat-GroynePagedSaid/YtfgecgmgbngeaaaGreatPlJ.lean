/- The walk of the pool's Get, where the page is not at hand. -/
import Derived.Test.YtfgecgmgbngeaaaGreatPlFM
set_option linter.unusedSimpArgs false
set_option maxRecDepth 100000
namespace Go.Proofs.YtfgecgmgbngeaaaGreat
open Go.RowKit Go.Maps
set_option linter.unusedVariables false

theorem sizeAl (w : World) (o : Obj) : w.heap.size < (w.alloc o).heap.size := by
  show _ < (w.heap.push o).size
  rw [Array.size_push]
  exact Nat.lt_succ_self _
theorem slotY_len {pf : List UInt8} {s : Int} (h : 0 ≤ s → (s.toNat + 1) * 512 ≤ pf.length) : (slotY pf s).length = 512 := by
  unfold slotY
  by_cases h0 : 0 ≤ s
  · rw [if_pos h0]; exact page_length (h h0)
  · rw [if_neg h0]; exact zeros_length
/-- copy out of a longer slice -/
theorem copy_C {w : World} {ops : Array Oper} {rest : List Oper} {o : Oper} {a : Act} {Q : Exit → Act → World → Prop} (hgd : o.guard = none) (d s : Operand)
    (ho : o.op = .call { callee := .builtin .copy, args := #[d, s], argTypes := #[30, 30] })
    {base g n c dCap N c2 : Nat} {A : Option Addr} {l m : List UInt8} {F : Nat → Prop} (hown : OwnB w base (.slice (some ⟨g, 0, none⟩) n c) l)
    (hd : a.eval d = .slice (some ⟨g, 0, none⟩) n dCap) (hy : a.eval s = .slice A N c2) (hr : RdB w F (.slice A N c2) m) (hle : n ≤ m.length) (hpos : 0 < n)
    (h : ∀ w', OwnB w' base (.slice (some ⟨g, 0, none⟩) n c) (m.take n) → Chg (fun b => b = g) w w' → w'.heap.size = w.heap.size → wpList Tryz.prog ops Q rest (a.put o.dst (goInt n)) w') : wpList Tryz.prog ops Q (o :: rest) a w := by
  obtain ⟨cur, h1, h2, h3, h4, h5, h6, h7⟩ := hown.row
  obtain ⟨A9, c9, e9, hc2, hm2⟩ := hr.shape
  injection e9 with eA eN ec
  subst eA; subst eN; subst ec
  have hml : (m.take n).length = n := by rw [List.length_take]; omega
  have hf : RdB w F (.slice A (m.take n).length c2) (m.take n) := by
    rw [hml]; exact hr.front hle
  obtain ⟨ad, rfl, _, hcs⟩ := RdV.cells hf (by omega)
  have hmb := bvs_length (m.take n)
  have hcl : cur.toList.length = c := by rw [Array.length_toList]; exact h6
  have hfit : 0 + (bvs (m.take n)).length ≤ cur.size := by omega
  refine wpList_copy_own hgd d s 30 30 ho 5 Tryz.underlying30 (by kernel_rfl) g 0 n dCap ad m.length c2 hd hy cur 5 h1 (bvs (m.take n)) (by rw [hmb, hml]; exact (Nat.min_eq_right hle).symm) hcs hfit (bvs_one _) ?_
  have hsl : (splice cur.toList 0 (bvs (m.take n))).length = c := by rw [length_splice _ _ _ (by rw [hmb, hcl]; omega), hcl]
  have hrow := setRow_heap w g cur (splice cur.toList 0 (bvs (m.take n))).toArray 5 (0, 0) h1
  have e : List.take 0 l ++ (m.take n ++ List.drop (0 + (m.take n).length) l) = m.take n := by
    rw [hml, List.drop_eq_nil_of_le (by omega)]; simp
  have hgo : goInt (bvs (m.take n)).length = goInt n := by rw [hmb, hml]
  rw [hgo]
  refine h (w.setRow g (splice cur.toList 0 (bvs (m.take n))).toArray) ⟨?_, .inr ⟨g, c, (splice cur.toList 0 (bvs (m.take n))).toArray, ?_, h2, hrow, by rw [hml]; omega, h5, by rw [List.size_toArray, hsl, Nat.mul_one], ?_⟩⟩ ⟨rfl, rfl, rfl, by simp [World.setRow], fun b _ hne => setRow_other w g b _ hne⟩ (by simp [World.setRow])
  · rw [bvs_length, Nat.mul_one]
  · rw [hml]
  · rw [List.toList_toArray, Nat.mul_one, hml]
    have h9 := splice_bytes h7 h3 (show 0 + (m.take n).length ≤ n by omega) (by omega)
    rw [e] at h9
    exact h9

set_option maxHeartbeats 8000000 in
theorem plGetB {w : World} {TD TP G : Nat → Prop} {gd g hand bs bf ba : Nat} {pre : ByteArray} {S : DSt} {sl tab : Slots} {sf : List (Int × Int)} {at_ : Ats} {cl h1 h2 h3 : Int} {sv : Option (List UInt8 × (Nat → List UInt8))}
    (h : PoolM w TD TP G gd g pre hand S sl sf at_ bs bf ba cl h1 h2 h3) (hG : PG pre S sl sf at_ tab sv) {i : Nat} {s : Int} (hs : (i, s) ∈ sl) (h1h : 1 ≤ hand) (hle : at_.length ≤ hand) (hhb : hand ≤ 1000000) (hq : S.queue.length ≤ 900000) (hno : ∀ p ∈ at_, p.1 ≠ i) :
    Calls Tryz.prog 35 #[.pointer (some ⟨g, 0, none⟩), .int .i64 (i : Int)] w fun e w' => Chg (fun b => TD b ∨ TP b) w w' ∧
      ((e = .returned (.tuple #[.slice none 0 0, .int .i64 9]) ∧ S.arm ≠ none ∧ ∃ S', DrvAt w' (supP pre) (Ext TD w w') gd S' ∧ PDead pre S' (Last pre tab sv)) ∨
       ((∃ u, e = .returned (.tuple #[u, .int .i64 0]) ∧ OwnB w' w.heap.size u (slotY ((S.seen (nf pre)).getD []) s)) ∧ ∃ S' sl' at' TD' TP' G' cl' a2 a3, PoolM w' TD' TP' G' gd g pre hand S' sl' sf at' bs bf ba cl' h1 a2 a3 ∧ PG pre S' sl' sf at' tab sv ∧ sl'.map (·.1) = sl.map (·.1) ∧ (∀ j, cont ((S'.seen (nf pre)).getD []) sl' at' j = cont ((S.seen (nf pre)).getD []) sl at_ j) ∧ (S.arm = none → S'.arm = none) ∧
         S'.queue.length ≤ S.queue.length + 1 ∧ at'.length ≤ hand ∧ (∀ b, TD' b → Ext TD w w' b) ∧ ∀ b, TP' b → Ext TP w w' b)) := by
  have hi : i ≤ 1000000000 := by
    have := hG.inv.ids _ hs
    omega
  have hh := plHas h hi
  have hsome : (aGet klI sl i).isSome = true := by
    rw [hG.inv.slot hs]; rfl
  rw [hsome] at hh
  have k5 : w.cell? ⟨g, 5, none⟩ = some (.map (some ba)) := h.blk.cell 5
  have hlf := lookF h.ma hi
  rw [get_none keyI hno] at hlf
  have hmk : (Instr.makeSlice 30 (.int .i64 512) (.int .i64 512)).run Tryz.prog w = .ok (.slice (some ⟨w.heap.size, 0, none⟩) 512 512) (w.alloc (.cells (madeCells #[.int .u8 0] 512) 5)) := mk_files w 512 (by decide)
  have hcB : Chg Non w (w.alloc (.cells (madeCells #[.int .u8 0] 512) 5)) := (Chg.refl Non w).alloc _
  have hoB : OwnB (w.alloc (.cells (madeCells #[.int .u8 0] 512) 5)) w.heap.size (.slice (some ⟨w.heap.size, 0, none⟩) 512 512) zeros := own_files w 512 (by decide)
  have hnB := sizeAl w (.cells (madeCells #[.int .u8 0] 512) 5)
  have HOB := hide hoB
  have HCB := hide hcB
  have HNB := hide hnB
  have HP := hide h
  have HG := hide hG
  have HS := hide hs
  have HNO := hide hno
  clear h hG hs hsome hno hoB hcB hnB
  go_enter Tryz.func35, Tryz.ntmps35
  go_wp2_with fail
  refine hh.mono ?_
  rintro e w1 ⟨rfl, hw⟩
  subst w1
  clear hh
  go_upto_region 9 with fail
  generalize w.alloc (.cells (madeCells #[.int .u8 0] 512) 5) = wB at HOB HCB HNB ⊢
  have nB := HNB.out
  have hPB := HP.out.c0 HCB.out
  have k3 : wB.cell? ⟨g, 3, none⟩ = some (.map (some bs)) := hPB.blk.cell 3
  have hls := (lookZ hPB.ms (keyOf_i hi)).1
  rw [HG.out.inv.slot HS.out] at hls
  have hls : (Instr.lookup 52 (.map (some bs)) (.int .i64 (i : Int)) false).run Tryz.prog wB = .ok (.int .i64 s) wB := hls
  have HPB := hide hPB
  clear hPB hmk hlf k5
  go_upto_if 51 with fail
  go_cut [9, 10] from 51 (fun v9 v10 wx => OwnB wx w.heap.size (.slice (some ⟨w.heap.size, 0, none⟩) 512 512) (slotY ((S.seen (nf pre)).getD []) s) ∧ Chg Non w wx)
  case first =>
    by_cases hneg : s < 0
    · have d1 : decide (0 ≤ s) = false := decide_eq_false (by omega)
      have d2 : ¬ 0 ≤ s := by omega
      have hz : slotY ((S.seen (nf pre)).getD []) s = zeros := by unfold slotY; rw [if_neg d2]
      have HZ := hide hz
      clear hz
      go_wp2_with fail
      go_meet
      rw [HZ.out]
      exact ⟨HOB.out, HCB.out⟩
    · obtain ⟨n, rfl⟩ : ∃ n : Nat, s = (n : Int) := ⟨s.toNat, by omega⟩
      have hfit := HG.out.inv.fit _ HS.out (by show (0 : Int) ≤ (n : Int); omega)
      have hbig := HG.out.inv.big
      have hpre := HP.out.pre
      have k0 : wB.cell? ⟨g, 0, none⟩ = some (.pointer (some ⟨gd, 0, none⟩)) := HPB.out.blk.cell 0
      have hfile := fun {wx : World} (hc : Chg Non wB wx) => plFile (HPB.out.c0 hc)
      have hrd := fun {wx : World} (hc : Chg Non wB wx) => dgRead (HPB.out.drv.c0 hc) HG.out.dead (nfB pre) (by unfold nfB; rw [ByteArray.size_append, show (⟨#[112, 97, 103, 101, 115]⟩ : ByteArray).size = 5 from rfl]; unfold maxLen; omega) (by show ((S.seen (nf pre)).getD []).length ≤ _; omega)
      have d1 : decide ((0 : Int) ≤ (n : Int)) = true := decide_eq_true (by omega)
      obtain ⟨b, hb⟩ : ∃ b, S.seen (nf pre) = some b := by
        cases e : S.seen (nf pre) with
        | some b => exact ⟨b, rfl⟩
        | none => rw [e] at hfit; simp at hfit
      have hb' : S.seen (nfB pre).data.toList = some b := hb
      simp only [hb'] at hrd
      have HBB := hide hb
      have HFIT := hide hfit
      have hmul : IntKind.i64.wrap ((n : Int) * 512) = (n : Int) * 512 := IntWalk.i64_in _ (by have : ((n : Int)).toNat = n := rfl; rw [this] at hfit; omega)
      clear hb hb' hfit hls k3
      go_upto_region 11 with fail
      go_region_law (first
        | (go_simp; go_at_call 45; refine (hfile ((Chg.refl Non wB).drew)).mono ?_; rintro e w2 ⟨rfl, hc2⟩; have hc2' := ((Chg.refl Non wB).drew).trans0 hc2; have k0b := hc2'.cell k0 (fun h => h))
        | (go_simp; go_at_call 17; refine (hrd hc2').mono ?_; rintro e w3 ⟨hc3, u, rfl, ho3⟩))
      all_goals
        try simp only [List.getElem_toArray, List.getElem_cons_succ, List.getElem_cons_zero, Act.put, List.setIfInBounds_toArray, List.set_cons_zero, List.set_cons_succ]
        obtain ⟨Au, cu, rfl, hcu1, hcu2⟩ := ho3.shape
        have hbl : (n + 1) * 512 ≤ b.length := by
          have h9 := HFIT.out
          rw [HBB.out] at h9
          exact h9
        obtain ⟨g2, rfl, hg2, hg3⟩ := ho3.head (by omega)
        obtain ⟨bl, hbl2⟩ : ∃ bl, bl = b.length := ⟨_, rfl⟩
        have HO3 := hide ho3
        rw [← hbl2] at hbl hcu1 ⊢
        have HBL := hide hbl2
        clear ho3 hbl2 hrd hfile
        have hs1 : decide ((n : Int) * 512 < 0) = false := decide_eq_false (by omega)
        have hcw := hc2'.trans0 hc3
        have hoz := HOB.out.chg hcw fun k _ e => e
        have hpc := (HO3.out.rd).piece (i := n * 512) (j := b.length) (by have := HBL.out; omega) (Nat.le_refl _)
        have hadd : (Option.map (fun a : Addr => a.add (n * 512)) (some ⟨g2, 0, none⟩)) = some ⟨g2, n * 512, none⟩ := by
          by_cases h : n * 512 = 0 <;> simp [Addr.add, h]
        have hsrc : RdB w3 (fun k => (Value.slice (some ⟨g2, 0, none⟩) b.length cu).ownBlock = some k) (.slice (some ⟨g2, n * 512, none⟩) (bl - n * 512) (cu - n * 512)) ((b.drop (n * 512)).take (b.length - n * 512)) := by
          rw [if_neg (by omega), hadd] at hpc
          rw [HBL.out]; exact hpc
        have HSRC := hide hsrc
        have HCW := hide hcw
        clear hpc hsrc hcw hadd
        go_wp2_with (refine copy_C rfl _ _ rfl hoz rfl rfl HSRC.out ?_ (by decide) ?_)
        · have := HBL.out; omega
        · intro w4 ho4 hc4 hsz
          have HSZ := hide hsz
          clear hsz hoz
          go_wp2_with fail
          go_meet
          refine ⟨?_, (HCB.out.trans0 HCW.out).trans hc4 fun k hk e => by
            have e : k = w.heap.size := e
            omega⟩
          have e1 : slotY ((S.seen (nf pre)).getD []) (n : Int) = List.take 512 (List.take (b.length - n * 512) (List.drop (n * 512) b)) := by
            unfold slotY
            rw [if_pos (by omega), HBB.out, List.take_take]
            have := HBL.out
            rw [show min 512 (b.length - n * 512) = 512 by omega]
            rfl
          rw [e1]
          exact ho4
  case rest =>
    obtain ⟨ho, hc⟩ := hcut
    obtain ⟨w1, rfl⟩ : ∃ w', w' = wc := ⟨_, rfl⟩
    have n1 := hc.size
    have hTl := HP.out.drv.lt'
    have hPl := HP.out.lt
    have hlen := slotY_len (s := s) (HG.out.inv.fit _ HS.out)
    have hdat := ho.rdB
    have hold := plHold (i := i) (s := s) (dirty := false) (HP.out.c0 hc) HG.out HS.out h1h hle hhb hq hdat hlen (fun b hb => ⟨fun e => by have := hTl b e; omega, fun e => by have := hPl b e; omega, hb.2⟩) (fun _ => rfl)
    have HDAT := hide hdat
    have HLEN := hide hlen
    clear ho hdat hlen hls k3
    go_wp2_with fail
    refine hold.mono ?_
    rintro e w2 ⟨hc2, ⟨rfl, harm, hdead⟩ | ⟨rfl, hrest⟩⟩
    · have HA := hide harm
      have HDD := hide hdead
      have n2 := hc2.size
      clear hold harm hdead
      go_wp2_with fail
      go_ret2
      obtain ⟨S', hd1, hd2⟩ := HDD.out
      exact ⟨(hc.mono fun _ _ h => h.elim).trans hc2 fun _ _ h => h, .inl ⟨rfl, HA.out, S', hd1.up (fun b hb => hb.back n1) (Ext.lt hTl (by omega)), hd2⟩⟩
    · obtain ⟨S', sl', at', TD', TP', G', cl', a3, hM, hG', e1, e2, e3, e4, e5, e6, e7⟩ := hrest
      have n2 := hc2.size
      have k8 : w2.cell? ⟨g, 8, none⟩ = some (.int .i64 h2) := hM.blk.cell 8
      have z8 := hM.blk.frozen 8
      obtain ⟨a2, ha2⟩ : ∃ a2, a2 = IntKind.i64.wrap (h2 + 1) := ⟨_, rfl⟩
      have hc3 : Chg (fun k => k = g) w2 (w2.setCell ⟨g, 8, none⟩ (.int .i64 a2)) := Chg.setCell (p := ⟨g, 8, none⟩) (Chg.refl (fun k => k = g) w2) (fun _ => rfl) _
      have hb3 := hM.blk.set_ 8 (.int .i64 a2)
      simp at hb3
      have hM3 := hM.turnB hc3 hb3
      have hgl := hPl g HP.out.tg.1
      have hd3 := (HDAT.out.chg hc2 fun b hb e => e.elim (fun e => by have := hTl b e; omega) fun e => by have := hPl b e; omega).chg hc3 fun b hb e => by
        have e : b = g := e
        omega
      have hcl := bytesClone hd3 (by rw [HLEN.out]; decide)
      have n3 := hc3.size
      have HM3 := hide hM3
      have HX := hide (And.intro hG' (And.intro e1 (And.intro e2 (And.intro e3 (And.intro e4 e5)))))
      have HE := hide (And.intro e6 e7)
      have HC3 := hide hc3
      have ha := ha2.symm
      clear hold hM hG' e1 e2 e3 e4 e5 e6 e7 ha2 hb3 hM3 hd3 hc3
      go_wp2_with fail
      refine hcl.mono ?_
      rintro e w4 ⟨x, rfl, ho4, hc4⟩
      clear hcl
      go_wp2_with fail
      go_ret2
      have n4 := hc4.size
      obtain ⟨hG', e1, e2, e3, e4, e5⟩ := HX.out
      refine ⟨(((hc.mono fun _ _ h => h.elim).trans hc2 fun _ _ h => h).trans HC3.out fun k _ e => .inr ((show k = g from e) ▸ HP.out.tg.1)).trans hc4 fun _ _ h => h.elim, .inr ⟨⟨x, rfl, ho4.low (by omega)⟩, S', sl', at', TD', TP', G', cl', a2, a3, HM3.out.c0 hc4, hG', e1, fun j => ?_, e3, e4, e5, fun b hb => ((HE.out.1 b hb).back n1).up (by omega), fun b hb => ?_⟩⟩
      · rw [e2 j]
        by_cases hj : j = i
        · rw [if_pos hj, hj]
          unfold cont
          rw [get_none keyI HNO.out, HG.out.inv.slot HS.out]
        · rw [if_neg hj]
      · rcases HE.out.2 b hb with hb | hb
        · exact (hb.back n1).up (by omega)
        · exact .inr ⟨hb.1, by omega⟩
end Go.Proofs.YtfgecgmgbngeaaaGreat
