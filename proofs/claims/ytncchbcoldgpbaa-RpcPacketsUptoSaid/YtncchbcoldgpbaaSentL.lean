/- groynelaw23's (Sent).light: no more than is played. -/
import Derived.Test.YtncchbcoldgpbaaSkM
namespace Go.Proofs.Ytncchbcoldgpbaa
open Go.RowKit
set_option linter.unusedVariables false
set_option linter.unusedSimpArgs false

def cutN (s : ByteArray) : ByteArray := if 1000 < s.size then s.extract 0 1000 else s
def lightS (x : SenS) : SenS := { x with ask := { x.ask with ops := x.ask.ops.take 40, reply := x.ask.reply.take 5000 }, ans := { x.ans with out := { x.ans.out with rows := x.ans.out.rows.take 20 } }, name := cutN x.name }
theorem RdRows.take {w : World} {F : Nat → Prop} {A : Option Addr} {n c : Nat} {l : List (List PairL)} (h : RdRows w F (.slice A n c) l) {k : Nat} (hk : k ≤ l.length) : RdRows w F (.slice A k c) (l.take k) := by
  obtain ⟨xs, h1, ⟨h2, A', c', e, h5, h6, h4⟩, h3⟩ := h
  injection e with e1 e2 e3
  subst e1; subst e3
  have hl : (l.take k).length = k := by rw [List.length_take]; omega
  have hx : (xs.take k).length = k := by rw [List.length_take]; omega
  refine ⟨xs.take k, by rw [hx, hl], ⟨by rw [hx, hl, Nat.mul_one], A, c, by rw [hl], by omega, h6, fun hn => ?_⟩, fun i x y hx hy => ?_⟩
  · obtain ⟨ad, e, hF, hc⟩ := h4 (by omega)
    refine ⟨ad, e, hF, fun j u hu => hc j u ?_⟩
    rw [List.getElem?_take] at hu
    split at hu
    · exact hu
    · cases hu
  · rw [List.getElem?_take] at hx hy
    split at hx
    · rename_i hik
      rw [if_pos hik] at hy
      exact h3 i x y hx hy
    · cases hx
set_option maxHeartbeats 32000000 in
set_option maxRecDepth 100000 in
theorem sentLight {x : SenS} {vo vr v1 v2 v3 : Value} {F : Nat → Prop} {w : World} (hR : SenRd w F x vo vr v1 v2 v3) :
    Calls Try.prog 7 #[.agg (senA x vo vr v1 v2 v3)] w fun e w' => ∃ vo' vr' v1' : Value, e = .returned (.agg (senA (lightS x) vo' vr' v1' v2 v3)) ∧ SenRd w' F (lightS x) vo' vr' v1' v2 v3 ∧ Chg Non w w' := by
  obtain ⟨A, an, ac, rfl, ha1, ha2⟩ : ∃ A n c, vo = .slice A n c ∧ n = x.ask.ops.length ∧ n ≤ c := by obtain ⟨A, c, e, h1, h2⟩ := hR.ops.shape; exact ⟨A, _, c, e, rfl, h1⟩
  obtain ⟨B, bn, bc, rfl, hb1, hb2⟩ : ∃ A n c, vr = .slice A n c ∧ n = x.ask.reply.length ∧ n ≤ c := by obtain ⟨A, c, e, h1, h2⟩ := hR.rep.shape; exact ⟨A, _, c, e, rfl, h1⟩
  obtain ⟨R, rn, rc, rfl, hr1, hr2⟩ : ∃ A n c, v1 = .slice A n c ∧ n = x.ans.out.rows.length ∧ n ≤ c := by obtain ⟨xs, _, ⟨_, A, c, e, h1, h2, _⟩, _⟩ := hR.rows; exact ⟨A, _, c, e, rfl, h1⟩
  obtain ⟨V, vn, vc, rfl⟩ : ∃ A m c, v2 = .slice A m c := by obtain ⟨xs, h1, h2, h3⟩ := hR.ws; exact rdv_sl h2
  obtain ⟨P, pn, pc, rfl⟩ : ∃ A m c, v3 = .slice A m c := by obtain ⟨A, c, e, _⟩ := hR.nrep.shape; exact ⟨A, _, c, e⟩
  have hal : an ≤ 1000000000 := by rw [ha1]; exact hR.on
  have hbl : bn ≤ 1000000000 := by rw [hb1]; exact hR.repn
  have hrl : rn ≤ 1000000000 := by rw [hr1]; exact hR.rown
  obtain ⟨r1, hR1⟩ : ∃ r, r = if 40 < an then 40 else an := ⟨_, rfl⟩
  obtain ⟨r2, hR2⟩ : ∃ r, r = if 5000 < bn then 5000 else bn := ⟨_, rfl⟩
  obtain ⟨r3, hR3⟩ : ∃ r, r = if 20 < rn then 20 else rn := ⟨_, rfl⟩
  obtain ⟨nm, hnm⟩ : ∃ n, n = cutN x.name := ⟨_, rfl⟩
  have HN := hide (And.intro hR1 (And.intro hR2 (And.intro hR3 hnm)))
  have HAB := hide (And.intro ha1 (And.intro hb1 hr1))
  have HR := hide hR
  clear hR1 hR2 hR3 hnm ha1 hb1 hr1 hR
  obtain ⟨ar, har⟩ : ∃ ar, ar = senA x (.slice A an ac) (.slice B bn bc) (.slice R rn rc) (.slice V vn vc) (.slice P pn pc) := ⟨_, rfl⟩
  rw [← har]
  have HAR := hide har
  clear har
  go_enter Try.func7, Try.ntmps7
  go_upto_region 1 with fail
  have hcA : Chg Non w (w.alloc (.cells ar 36)) := (Chg.refl Non w).alloc (.cells ar 36)
  have hcB := (Chg.refl Non (w.alloc (.cells ar 36))).alloc (.cells zeroS 36)
  have hXB : Blk ((w.alloc (.cells ar 36)).alloc (.cells zeroS 36)) w.heap.size 36 ar := (Blk.new w 36 ar).c0 hcB
  have hYB := Blk.new (w.alloc (.cells ar 36)) 36 zeroS
  have hsA : (w.alloc (.cells ar 36)).heap.size = w.heap.size + 1 := by simp
  rw [hsA] at hYB
  have hc0 := hcA.trans0 hcB
  clear hcA hcB
  obtain ⟨p, hpp⟩ : ∃ p, p = w.heap.size := ⟨_, rfl⟩
  obtain ⟨g, hg⟩ : ∃ g, g = w.heap.size + 1 := ⟨_, rfl⟩
  rw [← hg] at hYB
  rw [← hpp] at hXB
  try rw [hsA]
  rw [← hg, ← hpp]
  clear hsA
  have hpg : p ≠ g := by omega
  have HPP := hide (And.intro hpp hg)
  clear hpp hg
  generalize hw0 : World.alloc (World.alloc w (.cells ar _)) _ = w0
  rw [show (w.alloc (.cells ar 36)).alloc (.cells zeroS 36) = w0 from hw0] at hXB hYB hc0
  clear hw0
  rw [HAR.out] at hXB
  have hX0 := hXB
  have hd0 := Chg.refl (fun k => k = p) w0
  have y0 : w0.cell? ⟨p, 10, none⟩ = some (.slice A an ac) := hX0.cell 10
  have y1 : w0.frozen? ⟨p, 10, none⟩ = false := hX0.frozen 10
  go_upto_if 7 with fail
  go_cut [7] from 8 (fun vv wx => Blk wx p 36 (senA x (.slice A r1 ac) (.slice B bn bc) (.slice R rn rc) (.slice V vn vc) (.slice P pn pc)) ∧ Chg (fun k => k = p) w0 wx)
  case first =>
    by_cases hlt : 40 < an
    · have hM := hide (show r1 = 40 by rw [HN.out.1]; rw [if_pos hlt])
      have HLT := hide hlt
      have i1 : (40 : Int) < (an : Int) := by omega
      have i2 : (40 : Int) ≤ (an : Int) := by omega
      have i2n : 40 ≤ an := by omega
      have i3 : (40 : Int) ≤ (ac : Int) := by omega
      have i4 : 40 ≤ ac := by omega
      have hm : Blk (w0.setCell ⟨p, 10, none⟩ (.slice A 40 ac)) p 36 (senA x (.slice A r1 ac) (.slice B bn bc) (.slice R rn rc) (.slice V vn vc) (.slice P pn pc)) := by rw [hM.out]; exact hX0.set_ 10 _
      have hcm : Chg (fun k => k = p) w0 (w0.setCell ⟨p, 10, none⟩ (.slice A 40 ac)) := hd0.trans (Chg.setCell (S := fun k => k = p) (Chg.refl _ w0) (p := ⟨p, 10, none⟩) (fun _ => rfl) _) fun _ _ h => h
      have HM := hide (And.intro hm hcm)
      clear hm hcm
      go_wp2_with fail
      go_meet
      exact HM.out
    · have hM := hide (show r1 = an by rw [HN.out.1]; rw [if_neg hlt])
      have HLT := hide hlt
      have i1 : ¬ (40 : Int) < (an : Int) := by omega
      have HM : Hid (Blk w0 p 36 (senA x (.slice A r1 ac) (.slice B bn bc) (.slice R rn rc) (.slice V vn vc) (.slice P pn pc))) := hide (by rw [hM.out]; exact hX0)
      go_wp2_with fail
      go_meet
      exact ⟨HM.out, hd0⟩
  case rest =>
    obtain ⟨hX1, hd1⟩ := hcut
    clear y0 y1 hX0 hd0
    generalize wc = w1 at hX1 hd1 ⊢
    have y0 : w1.cell? ⟨p, 12, none⟩ = some (.slice B bn bc) := hX1.cell 12
    have y1 : w1.frozen? ⟨p, 12, none⟩ = false := hX1.frozen 12
    go_upto_if 18 with fail
    go_cut [18] from 19 (fun vv wx => Blk wx p 36 (senA x (.slice A r1 ac) (.slice B r2 bc) (.slice R rn rc) (.slice V vn vc) (.slice P pn pc)) ∧ Chg (fun k => k = p) w0 wx)
    case first =>
      by_cases hlt : 5000 < bn
      · have hM := hide (show r2 = 5000 by rw [HN.out.2.1]; rw [if_pos hlt])
        have HLT := hide hlt
        have i1 : (5000 : Int) < (bn : Int) := by omega
        have i2 : (5000 : Int) ≤ (bn : Int) := by omega
        have i2n : 5000 ≤ bn := by omega
        have i3 : (5000 : Int) ≤ (bc : Int) := by omega
        have i4 : 5000 ≤ bc := by omega
        have hm : Blk (w1.setCell ⟨p, 12, none⟩ (.slice B 5000 bc)) p 36 (senA x (.slice A r1 ac) (.slice B r2 bc) (.slice R rn rc) (.slice V vn vc) (.slice P pn pc)) := by rw [hM.out]; exact hX1.set_ 12 _
        have hcm : Chg (fun k => k = p) w0 (w1.setCell ⟨p, 12, none⟩ (.slice B 5000 bc)) := hd1.trans (Chg.setCell (S := fun k => k = p) (Chg.refl _ w1) (p := ⟨p, 12, none⟩) (fun _ => rfl) _) fun _ _ h => h
        have HM := hide (And.intro hm hcm)
        clear hm hcm
        go_wp2_with fail
        go_meet
        exact HM.out
      · have hM := hide (show r2 = bn by rw [HN.out.2.1]; rw [if_neg hlt])
        have HLT := hide hlt
        have i1 : ¬ (5000 : Int) < (bn : Int) := by omega
        have HM : Hid (Blk w1 p 36 (senA x (.slice A r1 ac) (.slice B r2 bc) (.slice R rn rc) (.slice V vn vc) (.slice P pn pc))) := hide (by rw [hM.out]; exact hX1)
        go_wp2_with fail
        go_meet
        exact ⟨HM.out, hd1⟩
    case rest =>
      obtain ⟨hX2, hd2⟩ := hcut
      clear y0 y1 hX1 hd1
      generalize wc = w2 at hX2 hd2 ⊢
      have y0 : w2.cell? ⟨p, 25, none⟩ = some (.slice R rn rc) := hX2.cell 25
      have y1 : w2.frozen? ⟨p, 25, none⟩ = false := hX2.frozen 25
      go_upto_if 30 with fail
      go_cut [30] from 31 (fun vv wx => Blk wx p 36 (senA x (.slice A r1 ac) (.slice B r2 bc) (.slice R r3 rc) (.slice V vn vc) (.slice P pn pc)) ∧ Chg (fun k => k = p) w0 wx)
      case first =>
        by_cases hlt : 20 < rn
        · have hM := hide (show r3 = 20 by rw [HN.out.2.2.1]; rw [if_pos hlt])
          have HLT := hide hlt
          have i1 : (20 : Int) < (rn : Int) := by omega
          have i2 : (20 : Int) ≤ (rn : Int) := by omega
          have i2n : 20 ≤ rn := by omega
          have i3 : (20 : Int) ≤ (rc : Int) := by omega
          have i4 : 20 ≤ rc := by omega
          have hm : Blk (w2.setCell ⟨p, 25, none⟩ (.slice R 20 rc)) p 36 (senA x (.slice A r1 ac) (.slice B r2 bc) (.slice R r3 rc) (.slice V vn vc) (.slice P pn pc)) := by rw [hM.out]; exact hX2.set_ 25 _
          have hcm : Chg (fun k => k = p) w0 (w2.setCell ⟨p, 25, none⟩ (.slice R 20 rc)) := hd2.trans (Chg.setCell (S := fun k => k = p) (Chg.refl _ w2) (p := ⟨p, 25, none⟩) (fun _ => rfl) _) fun _ _ h => h
          have HM := hide (And.intro hm hcm)
          clear hm hcm
          go_wp2_with fail
          go_meet
          exact HM.out
        · have hM := hide (show r3 = rn by rw [HN.out.2.2.1]; rw [if_neg hlt])
          have HLT := hide hlt
          have i1 : ¬ (20 : Int) < (rn : Int) := by omega
          have HM : Hid (Blk w2 p 36 (senA x (.slice A r1 ac) (.slice B r2 bc) (.slice R r3 rc) (.slice V vn vc) (.slice P pn pc))) := hide (by rw [hM.out]; exact hX2)
          go_wp2_with fail
          go_meet
          exact ⟨HM.out, hd2⟩
      case rest =>
        obtain ⟨hX3, hd3⟩ := hcut
        clear y0 y1 hX2 hd2
        generalize wc = w3 at hX3 hd3 ⊢
        have y0 : w3.cell? ⟨p, 30, none⟩ = some (.string x.name) := hX3.cell 30
        have y1 : w3.frozen? ⟨p, 30, none⟩ = false := hX3.frozen 30
        go_upto_if 42 with fail
        go_cut [42] from 43 (fun vv wx => Blk wx p 36 (senA { x with name := nm } (.slice A r1 ac) (.slice B r2 bc) (.slice R r3 rc) (.slice V vn vc) (.slice P pn pc)) ∧ Chg (fun k => k = p) w0 wx)
        case first =>
          by_cases hlt : 1000 < x.name.size
          · have hM := hide (show nm = (x.name.extract 0 1000) by rw [HN.out.2.2.2]; unfold cutN; rw [if_pos hlt])
            have HLT := hide hlt
            have i1 : (1000 : Int) < (x.name.size : Int) := by omega
            have i2 : (1000 : Int) ≤ (x.name.size : Int) := by omega
            have i2n : 1000 ≤ x.name.size := by omega
            have hm : Blk (w3.setCell ⟨p, 30, none⟩ (.string (x.name.extract 0 1000))) p 36 (senA { x with name := nm } (.slice A r1 ac) (.slice B r2 bc) (.slice R r3 rc) (.slice V vn vc) (.slice P pn pc)) := by rw [hM.out]; exact hX3.set_ 30 _
            have hcm : Chg (fun k => k = p) w0 (w3.setCell ⟨p, 30, none⟩ (.string (x.name.extract 0 1000))) := hd3.trans (Chg.setCell (S := fun k => k = p) (Chg.refl _ w3) (p := ⟨p, 30, none⟩) (fun _ => rfl) _) fun _ _ h => h
            have HM := hide (And.intro hm hcm)
            clear hm hcm
            go_wp2_with fail
            go_meet
            exact HM.out
          · have hM := hide (show nm = x.name by rw [HN.out.2.2.2]; unfold cutN; rw [if_neg hlt])
            have HLT := hide hlt
            have i1 : ¬ (1000 : Int) < (x.name.size : Int) := by omega
            have HM : Hid (Blk w3 p 36 (senA { x with name := nm } (.slice A r1 ac) (.slice B r2 bc) (.slice R r3 rc) (.slice V vn vc) (.slice P pn pc))) := hide (by rw [hM.out]; exact hX3)
            go_wp2_with fail
            go_meet
            exact ⟨HM.out, hd3⟩
        case rest =>
          obtain ⟨hX4, hd4⟩ := hcut
          clear y0 y1 hX3 hd3
          generalize wc = w4 at hX4 hd4 ⊢
          have hpl : g < w0.heap.size := hYB.lt
          have hcf : Chg Non w w4 := hc0.trans hd4 fun k hk e => by have := HPP.out.1; omega
          have hY4 := hYB.chg hd4 (fun e => hpg e.symm)
          obtain ⟨ar, har⟩ : ∃ ar, ar = (senA { x with name := nm } (.slice A r1 ac) (.slice B r2 bc) (.slice R r3 rc) (.slice V vn vc) (.slice P pn pc)) := ⟨_, rfl⟩
          have HAS := hide har
          rw [← har] at hX4
          have hs : ar.size = 34 := by rw [har]; rfl
          have h1 : ar.all (·.oneCell') = true := by rw [har]; simp [senA, Value.oneCell']
          clear har
          go_wp2_with (first | (refine wpList_load_row rfl 36 (.tmp 1) rfl p rfl 36 ar (0, 0) _ hX4 Try.underlying36 rfl (by rw [hs]; exact info_sen) ?_) | (refine wpList_plain rfl fun _ hK => wp_store_any info_sen (.tmp 2) (.tmp 47) rfl g ar rfl rfl zeroS hY4 rfl hs h1 fun w9 hP9 hc9 => hK _ _ ?_))
          refine bodyPost_ret (results_cell_row (P := Try.prog) rfl _ _ g 36 _ (0, 0) _ rfl hP9 Try.underlying36 rfl (by rw [hs]; exact info_sen)) rfl ?_
          have hcz : Chg Non w w9 := hcf.trans hc9 fun k hk e => by have := HPP.out.2; omega
          have hq : (lightS x).name = nm := HN.out.2.2.2.symm
          refine ⟨.slice A r1 ac, .slice B r2 bc, .slice R r3 rc, ?_, ?_, hcz⟩
          · rw [HAS.out, HN.out.2.2.2]
            rfl
          · have hR := HR.out.c0 hcz
            have e1 : (lightS x).ask.ops = x.ask.ops.take r1 := by
              show x.ask.ops.take 40 = _
              have h := HN.out.1; have h2 := HAB.out.1
              split at h
              · rw [h]
              · rw [h, h2, List.take_length, List.take_of_length_le (by omega)]
            have e2 : (lightS x).ask.reply = x.ask.reply.take r2 := by
              show x.ask.reply.take 5000 = _
              have h := HN.out.2.1; have h2 := HAB.out.2.1
              split at h
              · rw [h]
              · rw [h, h2, List.take_length, List.take_of_length_le (by omega)]
            have e3 : (lightS x).ans.out.rows = x.ans.out.rows.take r3 := by
              show x.ans.out.rows.take 20 = _
              have h := HN.out.2.2.1; have h2 := HAB.out.2.2
              split at h
              · rw [h]
              · rw [h, h2, List.take_length, List.take_of_length_le (by omega)]
            have l1 : r1 ≤ x.ask.ops.length := by have h := HN.out.1; have h2 := HAB.out.1; split at h <;> omega
            have l2 : r2 ≤ x.ask.reply.length := by have h := HN.out.2.1; have h2 := HAB.out.2.1; split at h <;> omega
            have l3 : r3 ≤ x.ans.out.rows.length := by have h := HN.out.2.2.1; have h2 := HAB.out.2.2; split at h <;> omega
            exact ⟨by rw [e1]; exact hR.ops.take l1, by rw [e1, List.length_take]; have := hR.on; omega, fun o ho => hR.ol o (by rw [e1] at ho; exact List.mem_of_mem_take ho), by rw [e2]; exact hR.rep.front l2, by rw [e2, List.length_take]; have := hR.repn; omega, by rw [e3]; exact hR.rows.take l3, by rw [e3, List.length_take]; have := hR.rown; omega, fun o ho => hR.rowl o (by rw [e3] at ho; exact List.mem_of_mem_take ho), hR.ws, hR.wn, hR.wl, hR.nrep, hR.nrepn⟩
end Go.Proofs.Ytncchbcoldgpbaa
