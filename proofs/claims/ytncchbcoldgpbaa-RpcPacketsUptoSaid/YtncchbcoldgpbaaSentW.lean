/- groynelaw23's (Sent).Packet: the walk. -/
import Derived.Test.YtncchbcoldgpbaaSkM
namespace Go.Proofs.Ytncchbcoldgpbaa
open Go.RowKit
set_option linter.unusedVariables false
set_option linter.unusedSimpArgs false
set_option maxHeartbeats 32000000 in
set_option maxRecDepth 100000 in
theorem senPacket {x : SenS} {vo vr v1 v2 v3 : Value} {F : Nat → Prop} {w : World} (hR : SenRd w F x vo vr v1 v2 v3) (hF : ∀ k, F k → k < w.heap.size) :
    Calls Try.prog 8 #[.agg (senA x vo vr v1 v2 v3)] w fun e w' => ∃ (G : Nat → Prop) (o1 o2 n1 n2 n3 u4 u5 : Value), e = .returned (.agg (pkA x o1 o2 n1 n2 n3 u4 u5)) ∧ AskOwn w' G x.ask o1 o2 ∧ AnsOwn w' G x.ans n1 n2 n3 ∧ AskOwn w' G x.ask u4 u5 ∧ (∀ k, G k → w.heap.size ≤ k ∧ k < w'.heap.size) ∧ Chg Non w w' := by
  obtain ⟨A, an, ac, rfl⟩ : ∃ A m c, vo = .slice A m c := by obtain ⟨A, c, e, _⟩ := hR.ops.shape; exact ⟨A, _, c, e⟩
  obtain ⟨B, bn, bc, rfl⟩ : ∃ A m c, vr = .slice A m c := by obtain ⟨A, c, e, _⟩ := hR.rep.shape; exact ⟨A, _, c, e⟩
  obtain ⟨R, rn, rc, rfl⟩ : ∃ A m c, v1 = .slice A m c := hR.rows.sl
  obtain ⟨V, vn, vc, rfl⟩ : ∃ A m c, v2 = .slice A m c := by obtain ⟨xs, h1, h2, h3⟩ := hR.ws; exact rdv_sl h2
  obtain ⟨P, pn, pc, rfl⟩ : ∃ A m c, v3 = .slice A m c := by obtain ⟨A, c, e, _⟩ := hR.nrep.shape; exact ⟨A, _, c, e⟩
  obtain ⟨ar, har⟩ : ∃ ar, ar = senA x (.slice A an ac) (.slice B bn bc) (.slice R rn rc) (.slice V vn vc) (.slice P pn pc) := ⟨_, rfl⟩
  rw [← har]
  have HAR := hide har
  have HR := hide hR
  clear har hR
  go_enter Try.func8, Try.ntmps8
  go_upto_region 1 with fail
  have hzz : (Try.zeroCells63 : Array Value) = zeroP := rfl
  rw [hzz]
  have hcA : Chg Non w (w.alloc (.cells ar 36)) := (Chg.refl Non w).alloc (.cells ar 36)
  have hcB := (Chg.refl Non (w.alloc (.cells ar 36))).alloc (.cells zeroP 63)
  have hXB : Blk ((w.alloc (.cells ar 36)).alloc (.cells zeroP 63)) w.heap.size 36 ar := (Blk.new w 36 ar).c0 hcB
  have hYB := Blk.new (w.alloc (.cells ar 36)) 63 zeroP
  have hsA : (w.alloc (.cells ar 36)).heap.size = w.heap.size + 1 := by simp
  rw [hsA] at hYB
  have hc0 := hcA.trans0 hcB
  clear hcA hcB
  obtain ⟨p, hpp⟩ : ∃ p, p = w.heap.size := ⟨_, rfl⟩
  obtain ⟨g, hg⟩ : ∃ g, g = w.heap.size + 1 := ⟨_, rfl⟩
  rw [← hg] at hYB
  rw [← hpp] at hXB
  try rw [hsA]
  rw [← hg, ← hpp]
  clear hsA
  have HPP := hide (And.intro hpp hg)
  clear hpp hg
  generalize hw0 : World.alloc (World.alloc w (.cells ar _)) _ = w0
  rw [show (w.alloc (.cells ar 36)).alloc (.cells zeroP 63) = w0 from hw0] at hXB hYB hc0
  clear hw0 hzz
  have hpl : p < w0.heap.size := hXB.lt
  have hgl : g < w0.heap.size := hYB.lt
  have HR0 := hide (HR.out.c0 hc0)
  obtain ⟨S, hSd⟩ : ∃ S : World → Prop, ∀ w', S w' ↔ (w'.cell? ⟨p, 0, none⟩ = some (.int .i64 x.kind) ∧ w'.cell? ⟨p, 1, none⟩ = some (.int .u64 (x.fr : Int)) ∧ w'.cell? ⟨p, 2, none⟩ = some (.int .u64 (x.tt : Int)) ∧ w'.cell? ⟨p, 3, none⟩ = some (.int .i64 x.ask.kind) ∧ w'.cell? ⟨p, 4, none⟩ = some (.int .u64 (x.ask.inc : Int)) ∧ w'.cell? ⟨p, 5, none⟩ = some (.int .u64 (x.ask.head : Int)) ∧ w'.cell? ⟨p, 6, none⟩ = some (.int .u64 (x.ask.boot : Int)) ∧ w'.cell? ⟨p, 7, none⟩ = some (.int .u64 (x.ask.tb : Int)) ∧ w'.cell? ⟨p, 8, none⟩ = some (.int .u64 (x.ask.ts : Int)) ∧ w'.cell? ⟨p, 9, none⟩ = some (.int .u64 (x.ask.tq : Int)) ∧ w'.cell? ⟨p, 10, none⟩ = some (.slice A an ac) ∧ w'.cell? ⟨p, 11, none⟩ = some (.bool x.ask.commit) ∧ w'.cell? ⟨p, 12, none⟩ = some (.slice B bn bc) ∧ w'.cell? ⟨p, 13, none⟩ = some (.int .u64 (x.ask.id : Int)) ∧ w'.cell? ⟨p, 14, none⟩ = some (.string x.ask.name) ∧ w'.cell? ⟨p, 15, none⟩ = some (.int .i64 x.ans.kind) ∧ w'.cell? ⟨p, 16, none⟩ = some (.int .u64 (x.ans.inc : Int)) ∧ w'.cell? ⟨p, 17, none⟩ = some (.int .u64 (x.ans.boot : Int)) ∧ w'.cell? ⟨p, 18, none⟩ = some (.int .u64 (x.ans.tb : Int)) ∧ w'.cell? ⟨p, 19, none⟩ = some (.int .u64 (x.ans.ts : Int)) ∧ w'.cell? ⟨p, 20, none⟩ = some (.int .u64 (x.ans.tq : Int)) ∧ w'.cell? ⟨p, 21, none⟩ = some (.int .u64 (x.ans.id : Int)) ∧ w'.cell? ⟨p, 22, none⟩ = some (.int .i64 x.ans.err) ∧ w'.cell? ⟨p, 23, none⟩ = some (.int .i64 x.ans.out.err) ∧ w'.cell? ⟨p, 24, none⟩ = some (.int .i64 x.ans.out.at_) ∧ w'.cell? ⟨p, 25, none⟩ = some (.slice R rn rc) ∧ w'.cell? ⟨p, 26, none⟩ = some (.slice V vn vc) ∧ w'.cell? ⟨p, 27, none⟩ = some (.bool x.ans.commit) ∧ w'.cell? ⟨p, 28, none⟩ = some (.slice P pn pc) ∧ w'.cell? ⟨p, 29, none⟩ = some (.int .u64 (x.ans.at_ : Int)) ∧ w'.cell? ⟨p, 30, none⟩ = some (.string x.name) ∧ w'.cell? ⟨p, 31, none⟩ = some (.int .i64 x.what) ∧ w'.cell? ⟨p, 32, none⟩ = some (.int .u64 (x.a : Int)) ∧ w'.cell? ⟨p, 33, none⟩ = some (.int .u64 (x.b : Int))) := ⟨_, fun _ => Iff.rfl⟩
  have HSd := hide hSd
  have HSB := hide (fun (w' : World) (h : Blk w' p 36 ar) => (hSd w').2 (by
    rw [HAR.out] at h
    exact ⟨h.cell 0, h.cell 1, h.cell 2, h.cell 3, h.cell 4, h.cell 5, h.cell 6, h.cell 7, h.cell 8, h.cell 9, h.cell 10, h.cell 11, h.cell 12, h.cell 13, h.cell 14, h.cell 15, h.cell 16, h.cell 17, h.cell 18, h.cell 19, h.cell 20, h.cell 21, h.cell 22, h.cell 23, h.cell 24, h.cell 25, h.cell 26, h.cell 27, h.cell 28, h.cell 29, h.cell 30, h.cell 31, h.cell 32, h.cell 33⟩))
  have HS := hide (HSB.out w0.drew hXB)
  clear hSd
  go_cut [3] from 17 (fun v3 wx => ∃ (g3 : Nat) (o1 o2 n1 n2 n3 : Value), v3 = .pointer (some ⟨g3, 0, none⟩) ∧ w0.heap.size ≤ g3 ∧ Blk wx g3 63 (pk1 x o1 o2 n1 n2 n3) ∧ AskOwn wx (fun k => (w0.heap.size ≤ k ∧ k < wx.heap.size) ∧ k ≠ g3) x.ask o1 o2 ∧ AnsOwn wx (fun k => (w0.heap.size ≤ k ∧ k < wx.heap.size) ∧ k ≠ g3) x.ans n1 n2 n3 ∧ Chg Non w0 wx)
  case first =>
    refine wp_region_T S 99 (by kernel_rfl) ?_
    refine AnyT.take (i := 0) (v := ?_) rfl (by kernel_rfl) (by kernel_rfl) (fun _ _ _ h => h) (by kernel_rfl) (by kernel_rfl) (Or.inl ⟨by rfl, ?_⟩) HS.out ?_
    rotate_left
    · (intro w9 h9; first | (go_simp; with_reducible rfl) | (obtain ⟨y0, y1, y2, y3, y4, y5, y6, y7, y8, y9, y10, y11, y12, y13, y14, y15, y16, y17, y18, y19, y20, y21, y22, y23, y24, y25, y26, y27, y28, y29, y30, y31, y32, y33⟩ := (HSd.out _).1 h9; go_simp; try with_reducible rfl))
    try simp only [List.getElem_toArray, List.getElem_cons_succ, List.getElem_cons_zero, Act.put, List.setIfInBounds_toArray, List.set_cons_zero, List.set_cons_succ]
    refine AnyT.take (i := 1) (v := ?_) rfl (by kernel_rfl) (by kernel_rfl) (fun _ _ _ h => h) (by kernel_rfl) (by kernel_rfl) (Or.inl ⟨by rfl, ?_⟩) HS.out ?_
    rotate_left
    · (intro w9 h9; first | (go_simp; with_reducible rfl) | (obtain ⟨y0, y1, y2, y3, y4, y5, y6, y7, y8, y9, y10, y11, y12, y13, y14, y15, y16, y17, y18, y19, y20, y21, y22, y23, y24, y25, y26, y27, y28, y29, y30, y31, y32, y33⟩ := (HSd.out _).1 h9; go_simp; try with_reducible rfl))
    try simp only [List.getElem_toArray, List.getElem_cons_succ, List.getElem_cons_zero, Act.put, List.setIfInBounds_toArray, List.set_cons_zero, List.set_cons_succ]
    refine AnyT.take (i := 2) (v := ?_) rfl (by kernel_rfl) (by kernel_rfl) (fun _ _ _ h => h) (by kernel_rfl) (by kernel_rfl) (Or.inl ⟨by rfl, ?_⟩) HS.out ?_
    rotate_left
    · (intro w9 h9; first | (go_simp; with_reducible rfl) | (obtain ⟨y0, y1, y2, y3, y4, y5, y6, y7, y8, y9, y10, y11, y12, y13, y14, y15, y16, y17, y18, y19, y20, y21, y22, y23, y24, y25, y26, y27, y28, y29, y30, y31, y32, y33⟩ := (HSd.out _).1 h9; go_simp; try with_reducible rfl))
    try simp only [List.getElem_toArray, List.getElem_cons_succ, List.getElem_cons_zero, Act.put, List.setIfInBounds_toArray, List.set_cons_zero, List.set_cons_succ]
    refine AnyT.take (i := 3) (v := ?_) rfl (by kernel_rfl) (by kernel_rfl) (fun _ _ _ h => h) (by kernel_rfl) (by kernel_rfl) (Or.inl ⟨by rfl, ?_⟩) HS.out ?_
    rotate_left
    · (intro w9 h9; first | (go_simp; with_reducible rfl) | (obtain ⟨y0, y1, y2, y3, y4, y5, y6, y7, y8, y9, y10, y11, y12, y13, y14, y15, y16, y17, y18, y19, y20, y21, y22, y23, y24, y25, y26, y27, y28, y29, y30, y31, y32, y33⟩ := (HSd.out _).1 h9; go_simp; try with_reducible rfl))
    try simp only [List.getElem_toArray, List.getElem_cons_succ, List.getElem_cons_zero, Act.put, List.setIfInBounds_toArray, List.set_cons_zero, List.set_cons_succ]
    refine AnyT.take (i := 4) (v := ?_) rfl (by kernel_rfl) (by kernel_rfl) (fun _ _ _ h => h) (by kernel_rfl) (by kernel_rfl) (Or.inl ⟨by rfl, ?_⟩) HS.out ?_
    rotate_left
    · (intro w9 h9; first | (go_simp; with_reducible rfl) | (obtain ⟨y0, y1, y2, y3, y4, y5, y6, y7, y8, y9, y10, y11, y12, y13, y14, y15, y16, y17, y18, y19, y20, y21, y22, y23, y24, y25, y26, y27, y28, y29, y30, y31, y32, y33⟩ := (HSd.out _).1 h9; go_simp; try with_reducible rfl))
    try simp only [List.getElem_toArray, List.getElem_cons_succ, List.getElem_cons_zero, Act.put, List.setIfInBounds_toArray, List.set_cons_zero, List.set_cons_succ]
    refine AnyT.take (i := 5) (v := ?_) rfl (by kernel_rfl) (by kernel_rfl) (fun _ _ _ h => h) (by kernel_rfl) (by kernel_rfl) (Or.inl ⟨by rfl, ?_⟩) HS.out ?_
    rotate_left
    · (intro w9 h9; first | (go_simp; with_reducible rfl) | (obtain ⟨y0, y1, y2, y3, y4, y5, y6, y7, y8, y9, y10, y11, y12, y13, y14, y15, y16, y17, y18, y19, y20, y21, y22, y23, y24, y25, y26, y27, y28, y29, y30, y31, y32, y33⟩ := (HSd.out _).1 h9; go_simp; try with_reducible rfl))
    try simp only [List.getElem_toArray, List.getElem_cons_succ, List.getElem_cons_zero, Act.put, List.setIfInBounds_toArray, List.set_cons_zero, List.set_cons_succ]
    refine AnyT.take (i := 6) (v := ?_) rfl (by kernel_rfl) (by kernel_rfl) (fun _ _ _ h => h) (by kernel_rfl) (by kernel_rfl) (Or.inl ⟨by rfl, ?_⟩) HS.out ?_
    rotate_left
    · (intro w9 h9; first | (go_simp; with_reducible rfl) | (obtain ⟨y0, y1, y2, y3, y4, y5, y6, y7, y8, y9, y10, y11, y12, y13, y14, y15, y16, y17, y18, y19, y20, y21, y22, y23, y24, y25, y26, y27, y28, y29, y30, y31, y32, y33⟩ := (HSd.out _).1 h9; go_simp; try with_reducible rfl))
    try simp only [List.getElem_toArray, List.getElem_cons_succ, List.getElem_cons_zero, Act.put, List.setIfInBounds_toArray, List.set_cons_zero, List.set_cons_succ]
    refine AnyT.take (i := 7) (v := ?_) rfl (by kernel_rfl) (by kernel_rfl) (fun _ _ _ h => h) (by kernel_rfl) (by kernel_rfl) (Or.inl ⟨by rfl, ?_⟩) HS.out ?_
    rotate_left
    · (intro w9 h9; first | (go_simp; with_reducible rfl) | (obtain ⟨y0, y1, y2, y3, y4, y5, y6, y7, y8, y9, y10, y11, y12, y13, y14, y15, y16, y17, y18, y19, y20, y21, y22, y23, y24, y25, y26, y27, y28, y29, y30, y31, y32, y33⟩ := (HSd.out _).1 h9; go_simp; try with_reducible rfl))
    try simp only [List.getElem_toArray, List.getElem_cons_succ, List.getElem_cons_zero, Act.put, List.setIfInBounds_toArray, List.set_cons_zero, List.set_cons_succ]
    refine AnyT.take (i := 9) (v := ?_) rfl (by kernel_rfl) (by kernel_rfl) (fun _ _ _ h => h) (by kernel_rfl) (by kernel_rfl) (Or.inl ⟨by rfl, ?_⟩) HS.out ?_
    rotate_left
    · (intro w9 h9; first | (go_simp; with_reducible rfl) | (obtain ⟨y0, y1, y2, y3, y4, y5, y6, y7, y8, y9, y10, y11, y12, y13, y14, y15, y16, y17, y18, y19, y20, y21, y22, y23, y24, y25, y26, y27, y28, y29, y30, y31, y32, y33⟩ := (HSd.out _).1 h9; go_simp; try with_reducible rfl))
    try simp only [List.getElem_toArray, List.getElem_cons_succ, List.getElem_cons_zero, Act.put, List.setIfInBounds_toArray, List.set_cons_zero, List.set_cons_succ]
    refine AnyT.take (i := 10) (v := ?_) rfl (by kernel_rfl) (by kernel_rfl) (fun _ _ _ h => h) (by kernel_rfl) (by kernel_rfl) (Or.inl ⟨by rfl, ?_⟩) HS.out ?_
    rotate_left
    · (intro w9 h9; first | (go_simp; with_reducible rfl) | (obtain ⟨y0, y1, y2, y3, y4, y5, y6, y7, y8, y9, y10, y11, y12, y13, y14, y15, y16, y17, y18, y19, y20, y21, y22, y23, y24, y25, y26, y27, y28, y29, y30, y31, y32, y33⟩ := (HSd.out _).1 h9; go_simp; try with_reducible rfl))
    try simp only [List.getElem_toArray, List.getElem_cons_succ, List.getElem_cons_zero, Act.put, List.setIfInBounds_toArray, List.set_cons_zero, List.set_cons_succ]
    have hcwd : Chg Non w0 w0.drew := (Chg.refl Non w0).drew
    have hXwd : Blk w0.drew p 36 ar := hXB
    generalize World.drew w0 = wd at hcwd hXwd HS ⊢
    clear HS
    refine AnyT.two (i := 8) (j := 13) (by kernel_rfl) rfl rfl (fun K hK => ?_) (fun K hK => ?_)
    · rw [if_pos (by rfl)]
      try simp only [List.getElem_toArray, List.getElem_cons_succ, List.getElem_cons_zero, Act.put, List.setIfInBounds_toArray, List.set_cons_zero, List.set_cons_succ]
      go_wp2_with (go_at_call 23; refine (ownAsk (x := x.ask) (HR0.out.ops.c0 hcwd) HR0.out.on HR0.out.ol (HR0.out.rep.c0 hcwd) HR0.out.repn).mono ?_; rintro e x1 ⟨o1, o2, rfl, ⟨xs, hHO⟩, hu2, hdx1⟩)
      have hAk : AskOwn x1 (fun k => wd.heap.size ≤ k ∧ k < x1.heap.size) x.ask o1 o2 := ⟨⟨xs, hHO.ownO.1⟩, hHO.ownO.2, hu2.rdB⟩
      obtain ⟨O1, on1, oc1, rfl⟩ : ∃ A m c, o1 = .slice A m c := hAk.one1
      obtain ⟨O2, on2, oc2, rfl⟩ : ∃ A m c, o2 = .slice A m c := hu2.shapeH
      clear hHO hu2
      have hsx1 := hdx1.size
      have hcx1 := hcwd.trans0 hdx1
      have hXx1 := hXwd.c0 hdx1
      refine hK.out _ _ (fun _ => HSB.out x1 hXx1) ?_
      clear hK K
      try simp only [List.getElem_toArray, List.getElem_cons_succ, List.getElem_cons_zero, Act.put, List.setIfInBounds_toArray, List.set_cons_zero, List.set_cons_succ]
      refine AnyT.two (i := 11) (j := 13) (by kernel_rfl) rfl rfl (fun K hK => ?_) (fun K hK => ?_)
      · rw [if_pos (by rfl)]
        try simp only [List.getElem_toArray, List.getElem_cons_succ, List.getElem_cons_zero, Act.put, List.setIfInBounds_toArray, List.set_cons_zero, List.set_cons_succ]
        go_wp2_with (go_at_call 24; refine (ownAnswer (x := x.ans) (HR0.out.rows.chg hcx1 (fun _ _ h => h)) HR0.out.rown HR0.out.rowl (HR0.out.ws.chg hcx1 (fun _ _ h => h)) HR0.out.wn HR0.out.wl (HR0.out.nrep.c0 hcx1) HR0.out.nrepn (fun k hk => by have := hF k hk; have := hc0.size; have := hcx1.size; omega)).mono ?_; rintro e x2 ⟨n1, n2, n3, rfl, ⟨us, hU1⟩, ⟨xs, hU2⟩, hU3, hdx2⟩)
        have hNs : AnsOwn x2 (fun k => x1.heap.size ≤ k ∧ k < x2.heap.size) x.ans n1 n2 n3 := ⟨hU1.rd, hU2.rd, hU3.rdB⟩
        obtain ⟨N1, nn1, nc1, rfl⟩ : ∃ A m c, n1 = .slice A m c := hNs.rows.sl
        obtain ⟨N2, nn2, nc2, rfl⟩ : ∃ A m c, n2 = .slice A m c := by obtain ⟨xs, h1, h2, h3⟩ := hNs.ws; exact rdv_sl h2
        obtain ⟨N3, nn3, nc3, rfl⟩ : ∃ A m c, n3 = .slice A m c := hU3.shapeH
        clear hU1 hU2 hU3
        have hsx2 := hdx2.size
        have hcx2 := hcx1.trans0 hdx2
        have hXx2 := hXx1.c0 hdx2
        replace hAk := hAk.chg hdx2 fun _ _ h => h
        refine hK.out _ _ (fun _ => HSB.out x2 hXx2) ?_
        clear hK K
        try simp only [List.getElem_toArray, List.getElem_cons_succ, List.getElem_cons_zero, Act.put, List.setIfInBounds_toArray, List.set_cons_zero, List.set_cons_succ]
        refine AnyT.take (i := 12) (v := .agg (pk1 x (.slice O1 on1 oc1) (.slice O2 on2 oc2) (.slice N1 nn1 nc1) (.slice N2 nn2 nc2) (.slice N3 nn3 nc3))) rfl (by kernel_rfl) (by kernel_rfl) (fun _ _ _ h => h) (by kernel_rfl) (by kernel_rfl) (Or.inl ⟨by rfl, fun w9 _ => by kernel_rfl⟩) (HSB.out _ hXx2) ?_
        try simp only [List.getElem_toArray, List.getElem_cons_succ, List.getElem_cons_zero, Act.put, List.setIfInBounds_toArray, List.set_cons_zero, List.set_cons_succ]
        refine AnyT.one (i := 13) (by kernel_rfl) rfl (fun K hK => ?_)
        rw [if_pos (by rfl)]
        try simp only [List.getElem_toArray, List.getElem_cons_succ, List.getElem_cons_zero, Act.put, List.setIfInBounds_toArray, List.set_cons_zero, List.set_cons_succ]
        go_simp
        have hdx3 := (Chg.refl Non x2).alloc (.cells zeroP 63)
        have hZ := Blk.new x2 63 zeroP
        obtain ⟨g3, hg3⟩ : ∃ g, g = x2.heap.size := ⟨_, rfl⟩
        rw [← hg3] at hZ ⊢
        generalize hw3 : World.alloc x2 _ = x3
        rw [show x2.alloc (.cells zeroP 63) = x3 from hw3] at hdx3 hZ
        clear hw3
        have HG3 := hide hg3
        clear hg3
        have hzl := hZ.lt
        have hsx3 := hdx3.size
        have hcx3 := hcx2.trans0 hdx3
        have hXx3 := hXx2.c0 hdx3
        replace hAk := hAk.chg hdx3 fun _ _ h => h
        replace hNs := hNs.chg hdx3 fun _ _ h => h
        refine hK.out _ _ (fun _ => HSB.out x3 hXx3) ?_
        clear hK K
        try simp only [List.getElem_toArray, List.getElem_cons_succ, List.getElem_cons_zero, Act.put, List.setIfInBounds_toArray, List.set_cons_zero, List.set_cons_succ]
        refine AnyT.one (i := 14) (by kernel_rfl) rfl (fun K hK => ?_)
        rw [if_pos (by rfl)]
        try simp only [List.getElem_toArray, List.getElem_cons_succ, List.getElem_cons_zero, Act.put, List.setIfInBounds_toArray, List.set_cons_zero, List.set_cons_succ]
        refine wp_store_pkt (.tmp 3) (.tmp 16) rfl g3 (pk1 x (.slice O1 on1 oc1) (.slice O2 on2 oc2) (.slice N1 nn1 nc1) (.slice N2 nn2 nc2) (.slice N3 nn3 nc3)) rfl rfl zeroP hZ rfl rfl (by simp [pk1, Value.oneCell']) fun x4 hP4 hdx4 => ?_
        have hpg3 : p ≠ g3 := by have := HG3.out; have := hcx2.size; omega
        have hXx4 := hXx3.chg hdx4 (fun e => hpg3 e)
        have hsx4 := hdx4.size
        refine hK.out _ _ (fun _ => HSB.out x4 hXx4) ?_
        clear hK K
        try simp only [List.getElem_toArray, List.getElem_cons_succ, List.getElem_cons_zero, Act.put, List.setIfInBounds_toArray, List.set_cons_zero, List.set_cons_succ]
        refine AnyT.nil (by kernel_rfl) ?_
        have hAf : AskOwn x4 (fun k => (w0.heap.size ≤ k ∧ k < x4.heap.size) ∧ k ≠ g3) x.ask _ _ := ((hAk.chg hdx4 (fun k hk e => by have h1 := hk.1; have h2 := hk.2; have := HG3.out; have := hzl; have := hsx4; have := hsx1; have := hsx2; have := hsx3; have := hcwd.size; omega)).mono (fun k hk => by have h1 := hk.1; have h2 := hk.2; have := HG3.out; have := hzl; have := hsx4; have := hsx1; have := hsx2; have := hsx3; have := hcwd.size; omega))
        have hNf : AnsOwn x4 (fun k => (w0.heap.size ≤ k ∧ k < x4.heap.size) ∧ k ≠ g3) x.ans _ _ _ := ((hNs.chg hdx4 (fun k hk e => by have h1 := hk.1; have h2 := hk.2; have := HG3.out; have := hzl; have := hsx4; have := hsx1; have := hsx2; have := hsx3; have := hcwd.size; omega)).mono (fun k hk => by have h1 := hk.1; have h2 := hk.2; have := HG3.out; have := hzl; have := hsx4; have := hsx1; have := hsx2; have := hsx3; have := hcwd.size; omega))
        have hcf : Chg Non w0 x4 := hcx3.trans hdx4 fun k hk e => by have := HG3.out; have := hzl; have := hsx4; have := hsx1; have := hsx2; have := hsx3; have := hcwd.size; omega
        have hg0 : w0.heap.size ≤ g3 := by have := HG3.out; have := hzl; have := hsx4; have := hsx1; have := hsx2; have := hsx3; have := hcwd.size; omega
        go_wp2_with fail
        go_meet
        exact ⟨g3, _, _, _, _, _, rfl, hg0, hP4, hAf, hNf, hcf⟩
      · rw [if_pos (by rfl)]
        try simp only [List.getElem_toArray, List.getElem_cons_succ, List.getElem_cons_zero, Act.put, List.setIfInBounds_toArray, List.set_cons_zero, List.set_cons_succ]
        go_simp
        have hdx2 := (Chg.refl Non x1).alloc (.cells zeroP 63)
        have hZ := Blk.new x1 63 zeroP
        obtain ⟨g3, hg3⟩ : ∃ g, g = x1.heap.size := ⟨_, rfl⟩
        rw [← hg3] at hZ ⊢
        generalize hw3 : World.alloc x1 _ = x2
        rw [show x1.alloc (.cells zeroP 63) = x2 from hw3] at hdx2 hZ
        clear hw3
        have HG3 := hide hg3
        clear hg3
        have hzl := hZ.lt
        have hsx2 := hdx2.size
        have hcx2 := hcx1.trans0 hdx2
        have hXx2 := hXx1.c0 hdx2
        replace hAk := hAk.chg hdx2 fun _ _ h => h
        refine hK.out _ _ (fun _ => HSB.out x2 hXx2) ?_
        clear hK K
        try simp only [List.getElem_toArray, List.getElem_cons_succ, List.getElem_cons_zero, Act.put, List.setIfInBounds_toArray, List.set_cons_zero, List.set_cons_succ]
        refine AnyT.one (i := 11) (by kernel_rfl) rfl (fun K hK => ?_)
        rw [if_pos (by rfl)]
        try simp only [List.getElem_toArray, List.getElem_cons_succ, List.getElem_cons_zero, Act.put, List.setIfInBounds_toArray, List.set_cons_zero, List.set_cons_succ]
        go_wp2_with (go_at_call 24; refine (ownAnswer (x := x.ans) (HR0.out.rows.chg hcx2 (fun _ _ h => h)) HR0.out.rown HR0.out.rowl (HR0.out.ws.chg hcx2 (fun _ _ h => h)) HR0.out.wn HR0.out.wl (HR0.out.nrep.c0 hcx2) HR0.out.nrepn (fun k hk => by have := hF k hk; have := hc0.size; have := hcx2.size; omega)).mono ?_; rintro e x3 ⟨n1, n2, n3, rfl, ⟨us, hU1⟩, ⟨xs, hU2⟩, hU3, hdx3⟩)
        have hNs : AnsOwn x3 (fun k => x2.heap.size ≤ k ∧ k < x3.heap.size) x.ans n1 n2 n3 := ⟨hU1.rd, hU2.rd, hU3.rdB⟩
        obtain ⟨N1, nn1, nc1, rfl⟩ : ∃ A m c, n1 = .slice A m c := hNs.rows.sl
        obtain ⟨N2, nn2, nc2, rfl⟩ : ∃ A m c, n2 = .slice A m c := by obtain ⟨xs, h1, h2, h3⟩ := hNs.ws; exact rdv_sl h2
        obtain ⟨N3, nn3, nc3, rfl⟩ : ∃ A m c, n3 = .slice A m c := hU3.shapeH
        clear hU1 hU2 hU3
        have hsx3 := hdx3.size
        have hcx3 := hcx2.trans0 hdx3
        have hXx3 := hXx2.c0 hdx3
        replace hAk := hAk.chg hdx3 fun _ _ h => h
        replace hZ := hZ.c0 hdx3
        refine hK.out _ _ (fun _ => HSB.out x3 hXx3) ?_
        clear hK K
        try simp only [List.getElem_toArray, List.getElem_cons_succ, List.getElem_cons_zero, Act.put, List.setIfInBounds_toArray, List.set_cons_zero, List.set_cons_succ]
        refine AnyT.take (i := 12) (v := .agg (pk1 x (.slice O1 on1 oc1) (.slice O2 on2 oc2) (.slice N1 nn1 nc1) (.slice N2 nn2 nc2) (.slice N3 nn3 nc3))) rfl (by kernel_rfl) (by kernel_rfl) (fun _ _ _ h => h) (by kernel_rfl) (by kernel_rfl) (Or.inl ⟨by rfl, fun w9 _ => by kernel_rfl⟩) (HSB.out _ hXx3) ?_
        try simp only [List.getElem_toArray, List.getElem_cons_succ, List.getElem_cons_zero, Act.put, List.setIfInBounds_toArray, List.set_cons_zero, List.set_cons_succ]
        refine AnyT.one (i := 14) (by kernel_rfl) rfl (fun K hK => ?_)
        rw [if_pos (by rfl)]
        try simp only [List.getElem_toArray, List.getElem_cons_succ, List.getElem_cons_zero, Act.put, List.setIfInBounds_toArray, List.set_cons_zero, List.set_cons_succ]
        refine wp_store_pkt (.tmp 3) (.tmp 16) rfl g3 (pk1 x (.slice O1 on1 oc1) (.slice O2 on2 oc2) (.slice N1 nn1 nc1) (.slice N2 nn2 nc2) (.slice N3 nn3 nc3)) rfl rfl zeroP hZ rfl rfl (by simp [pk1, Value.oneCell']) fun x4 hP4 hdx4 => ?_
        have hpg3 : p ≠ g3 := by have := HG3.out; have := hcx1.size; omega
        have hXx4 := hXx3.chg hdx4 (fun e => hpg3 e)
        have hsx4 := hdx4.size
        refine hK.out _ _ (fun _ => HSB.out x4 hXx4) ?_
        clear hK K
        try simp only [List.getElem_toArray, List.getElem_cons_succ, List.getElem_cons_zero, Act.put, List.setIfInBounds_toArray, List.set_cons_zero, List.set_cons_succ]
        refine AnyT.nil (by kernel_rfl) ?_
        have hAf : AskOwn x4 (fun k => (w0.heap.size ≤ k ∧ k < x4.heap.size) ∧ k ≠ g3) x.ask _ _ := ((hAk.chg hdx4 (fun k hk e => by have h1 := hk.1; have h2 := hk.2; have := HG3.out; have := hzl; have := hsx4; have := hsx1; have := hsx2; have := hsx3; have := hcwd.size; omega)).mono (fun k hk => by have h1 := hk.1; have h2 := hk.2; have := HG3.out; have := hzl; have := hsx4; have := hsx1; have := hsx2; have := hsx3; have := hcwd.size; omega))
        have hNf : AnsOwn x4 (fun k => (w0.heap.size ≤ k ∧ k < x4.heap.size) ∧ k ≠ g3) x.ans _ _ _ := ((hNs.chg hdx4 (fun k hk e => by have h1 := hk.1; have h2 := hk.2; have := HG3.out; have := hzl; have := hsx4; have := hsx1; have := hsx2; have := hsx3; have := hcwd.size; omega)).mono (fun k hk => by have h1 := hk.1; have h2 := hk.2; have := HG3.out; have := hzl; have := hsx4; have := hsx1; have := hsx2; have := hsx3; have := hcwd.size; omega))
        have hcf : Chg Non w0 x4 := hcx3.trans hdx4 fun k hk e => by have := HG3.out; have := hzl; have := hsx4; have := hsx1; have := hsx2; have := hsx3; have := hcwd.size; omega
        have hg0 : w0.heap.size ≤ g3 := by have := HG3.out; have := hzl; have := hsx4; have := hsx1; have := hsx2; have := hsx3; have := hcwd.size; omega
        go_wp2_with fail
        go_meet
        exact ⟨g3, _, _, _, _, _, rfl, hg0, hP4, hAf, hNf, hcf⟩
    · rw [if_pos (by rfl)]
      try simp only [List.getElem_toArray, List.getElem_cons_succ, List.getElem_cons_zero, Act.put, List.setIfInBounds_toArray, List.set_cons_zero, List.set_cons_succ]
      go_simp
      have hdx1 := (Chg.refl Non wd).alloc (.cells zeroP 63)
      have hZ := Blk.new wd 63 zeroP
      obtain ⟨g3, hg3⟩ : ∃ g, g = wd.heap.size := ⟨_, rfl⟩
      rw [← hg3] at hZ ⊢
      generalize hw3 : World.alloc wd _ = x1
      rw [show wd.alloc (.cells zeroP 63) = x1 from hw3] at hdx1 hZ
      clear hw3
      have HG3 := hide hg3
      clear hg3
      have hzl := hZ.lt
      have hsx1 := hdx1.size
      have hcx1 := hcwd.trans0 hdx1
      have hXx1 := hXwd.c0 hdx1
      refine hK.out _ _ (fun _ => HSB.out x1 hXx1) ?_
      clear hK K
      try simp only [List.getElem_toArray, List.getElem_cons_succ, List.getElem_cons_zero, Act.put, List.setIfInBounds_toArray, List.set_cons_zero, List.set_cons_succ]
      refine AnyT.one (i := 8) (by kernel_rfl) rfl (fun K hK => ?_)
      rw [if_pos (by rfl)]
      try simp only [List.getElem_toArray, List.getElem_cons_succ, List.getElem_cons_zero, Act.put, List.setIfInBounds_toArray, List.set_cons_zero, List.set_cons_succ]
      go_wp2_with (go_at_call 23; refine (ownAsk (x := x.ask) (HR0.out.ops.c0 hcx1) HR0.out.on HR0.out.ol (HR0.out.rep.c0 hcx1) HR0.out.repn).mono ?_; rintro e x2 ⟨o1, o2, rfl, ⟨xs, hHO⟩, hu2, hdx2⟩)
      have hAk : AskOwn x2 (fun k => x1.heap.size ≤ k ∧ k < x2.heap.size) x.ask o1 o2 := ⟨⟨xs, hHO.ownO.1⟩, hHO.ownO.2, hu2.rdB⟩
      obtain ⟨O1, on1, oc1, rfl⟩ : ∃ A m c, o1 = .slice A m c := hAk.one1
      obtain ⟨O2, on2, oc2, rfl⟩ : ∃ A m c, o2 = .slice A m c := hu2.shapeH
      clear hHO hu2
      have hsx2 := hdx2.size
      have hcx2 := hcx1.trans0 hdx2
      have hXx2 := hXx1.c0 hdx2
      replace hZ := hZ.c0 hdx2
      refine hK.out _ _ (fun _ => HSB.out x2 hXx2) ?_
      clear hK K
      try simp only [List.getElem_toArray, List.getElem_cons_succ, List.getElem_cons_zero, Act.put, List.setIfInBounds_toArray, List.set_cons_zero, List.set_cons_succ]
      refine AnyT.one (i := 11) (by kernel_rfl) rfl (fun K hK => ?_)
      rw [if_pos (by rfl)]
      try simp only [List.getElem_toArray, List.getElem_cons_succ, List.getElem_cons_zero, Act.put, List.setIfInBounds_toArray, List.set_cons_zero, List.set_cons_succ]
      go_wp2_with (go_at_call 24; refine (ownAnswer (x := x.ans) (HR0.out.rows.chg hcx2 (fun _ _ h => h)) HR0.out.rown HR0.out.rowl (HR0.out.ws.chg hcx2 (fun _ _ h => h)) HR0.out.wn HR0.out.wl (HR0.out.nrep.c0 hcx2) HR0.out.nrepn (fun k hk => by have := hF k hk; have := hc0.size; have := hcx2.size; omega)).mono ?_; rintro e x3 ⟨n1, n2, n3, rfl, ⟨us, hU1⟩, ⟨xs, hU2⟩, hU3, hdx3⟩)
      have hNs : AnsOwn x3 (fun k => x2.heap.size ≤ k ∧ k < x3.heap.size) x.ans n1 n2 n3 := ⟨hU1.rd, hU2.rd, hU3.rdB⟩
      obtain ⟨N1, nn1, nc1, rfl⟩ : ∃ A m c, n1 = .slice A m c := hNs.rows.sl
      obtain ⟨N2, nn2, nc2, rfl⟩ : ∃ A m c, n2 = .slice A m c := by obtain ⟨xs, h1, h2, h3⟩ := hNs.ws; exact rdv_sl h2
      obtain ⟨N3, nn3, nc3, rfl⟩ : ∃ A m c, n3 = .slice A m c := hU3.shapeH
      clear hU1 hU2 hU3
      have hsx3 := hdx3.size
      have hcx3 := hcx2.trans0 hdx3
      have hXx3 := hXx2.c0 hdx3
      replace hAk := hAk.chg hdx3 fun _ _ h => h
      replace hZ := hZ.c0 hdx3
      refine hK.out _ _ (fun _ => HSB.out x3 hXx3) ?_
      clear hK K
      try simp only [List.getElem_toArray, List.getElem_cons_succ, List.getElem_cons_zero, Act.put, List.setIfInBounds_toArray, List.set_cons_zero, List.set_cons_succ]
      refine AnyT.take (i := 12) (v := .agg (pk1 x (.slice O1 on1 oc1) (.slice O2 on2 oc2) (.slice N1 nn1 nc1) (.slice N2 nn2 nc2) (.slice N3 nn3 nc3))) rfl (by kernel_rfl) (by kernel_rfl) (fun _ _ _ h => h) (by kernel_rfl) (by kernel_rfl) (Or.inl ⟨by rfl, fun w9 _ => by kernel_rfl⟩) (HSB.out _ hXx3) ?_
      try simp only [List.getElem_toArray, List.getElem_cons_succ, List.getElem_cons_zero, Act.put, List.setIfInBounds_toArray, List.set_cons_zero, List.set_cons_succ]
      refine AnyT.one (i := 14) (by kernel_rfl) rfl (fun K hK => ?_)
      rw [if_pos (by rfl)]
      try simp only [List.getElem_toArray, List.getElem_cons_succ, List.getElem_cons_zero, Act.put, List.setIfInBounds_toArray, List.set_cons_zero, List.set_cons_succ]
      refine wp_store_pkt (.tmp 3) (.tmp 16) rfl g3 (pk1 x (.slice O1 on1 oc1) (.slice O2 on2 oc2) (.slice N1 nn1 nc1) (.slice N2 nn2 nc2) (.slice N3 nn3 nc3)) rfl rfl zeroP hZ rfl rfl (by simp [pk1, Value.oneCell']) fun x4 hP4 hdx4 => ?_
      have hpg3 : p ≠ g3 := by have := HG3.out; have := hcwd.size; omega
      have hXx4 := hXx3.chg hdx4 (fun e => hpg3 e)
      have hsx4 := hdx4.size
      refine hK.out _ _ (fun _ => HSB.out x4 hXx4) ?_
      clear hK K
      try simp only [List.getElem_toArray, List.getElem_cons_succ, List.getElem_cons_zero, Act.put, List.setIfInBounds_toArray, List.set_cons_zero, List.set_cons_succ]
      refine AnyT.nil (by kernel_rfl) ?_
      have hAf : AskOwn x4 (fun k => (w0.heap.size ≤ k ∧ k < x4.heap.size) ∧ k ≠ g3) x.ask _ _ := ((hAk.chg hdx4 (fun k hk e => by have h1 := hk.1; have h2 := hk.2; have := HG3.out; have := hzl; have := hsx4; have := hsx1; have := hsx2; have := hsx3; have := hcwd.size; omega)).mono (fun k hk => by have h1 := hk.1; have h2 := hk.2; have := HG3.out; have := hzl; have := hsx4; have := hsx1; have := hsx2; have := hsx3; have := hcwd.size; omega))
      have hNf : AnsOwn x4 (fun k => (w0.heap.size ≤ k ∧ k < x4.heap.size) ∧ k ≠ g3) x.ans _ _ _ := ((hNs.chg hdx4 (fun k hk e => by have h1 := hk.1; have h2 := hk.2; have := HG3.out; have := hzl; have := hsx4; have := hsx1; have := hsx2; have := hsx3; have := hcwd.size; omega)).mono (fun k hk => by have h1 := hk.1; have h2 := hk.2; have := HG3.out; have := hzl; have := hsx4; have := hsx1; have := hsx2; have := hsx3; have := hcwd.size; omega))
      have hcf : Chg Non w0 x4 := hcx3.trans hdx4 fun k hk e => by have := HG3.out; have := hzl; have := hsx4; have := hsx1; have := hsx2; have := hsx3; have := hcwd.size; omega
      have hg0 : w0.heap.size ≤ g3 := by have := HG3.out; have := hzl; have := hsx4; have := hsx1; have := hsx2; have := hsx3; have := hcwd.size; omega
      go_wp2_with fail
      go_meet
      exact ⟨g3, _, _, _, _, _, rfl, hg0, hP4, hAf, hNf, hcf⟩
  case rest =>
    obtain ⟨g3, o1, o2, n1, n2, n3, rfl, hg3, hBwc, hAk, hNs, hcwc⟩ := hcut
    have hXwc := hXB.c0 hcwc
    have hYwc := hYB.c0 hcwc
    rw [HAR.out] at hXwc
    have HSB2 := hide (fun (w' : World) (h : Blk w' p 36 (senA x (.slice A an ac) (.slice B bn bc) (.slice R rn rc) (.slice V vn vc) (.slice P pn pc))) => HSB.out w' (by rw [HAR.out]; exact h))
    have hpg3 : p ≠ g3 := fun e => by omega
    have hgg3 : g ≠ g3 := fun e => by omega
    have HG0 := hide hg3
    have HPL := hide (And.intro hpl hgl)
    have HGL := hide hBwc.lt
    obtain ⟨gb, hgb⟩ : ∃ gb, gb = wc.heap.size := ⟨_, rfl⟩
    rw [← hgb] at hAk hNs HGL
    have HGB := hide hgb
    have HGS := hide (Nat.le_of_eq hgb)
    clear hg3 hpl hgl hgb HS
    go_upto_region 2 with fail
    have HS := hide (HSB2.out wc.drew hXwc)
    refine wp_region_T S 99 (by kernel_rfl) ?_
    have hc0d := (Chg.refl Non wc).drew
    have hXx0 := hXwc.c0 hc0d
    have hYx0 := hYwc.c0 hc0d
    have hBx0 := hBwc.c0 hc0d
    replace hAk := hAk.chg hc0d fun _ _ h => h
    replace hNs := hNs.chg hc0d fun _ _ h => h
    have hcx0 := hcwc.trans0 hc0d
    replace HGS := hide (Nat.le_trans HGS.out hc0d.size)
    clear hXwc hYwc hBwc hcwc
    generalize World.drew wc = x0 at hc0d hXx0 hYx0 hBx0 hAk hNs hcx0 HGS HS ⊢
    clear hc0d
    refine AnyT.take (i := 0) (v := ?_) rfl (by kernel_rfl) (by kernel_rfl) (fun _ _ _ h => h) (by kernel_rfl) (by kernel_rfl) (Or.inl ⟨by rfl, ?_⟩) HS.out ?_
    rotate_left
    · (intro w9 h9; first | (go_simp; with_reducible rfl) | (obtain ⟨y0, y1, y2, y3, y4, y5, y6, y7, y8, y9, y10, y11, y12, y13, y14, y15, y16, y17, y18, y19, y20, y21, y22, y23, y24, y25, y26, y27, y28, y29, y30, y31, y32, y33⟩ := (HSd.out _).1 h9; go_simp; try with_reducible rfl))
    try simp only [List.getElem_toArray, List.getElem_cons_succ, List.getElem_cons_zero, Act.put, List.setIfInBounds_toArray, List.set_cons_zero, List.set_cons_succ]
    refine AnyT.take (i := 1) (v := ?_) rfl (by kernel_rfl) (by kernel_rfl) (fun _ _ _ h => h) (by kernel_rfl) (by kernel_rfl) (Or.inl ⟨by rfl, ?_⟩) HS.out ?_
    rotate_left
    · (intro w9 h9; first | (go_simp; with_reducible rfl) | (obtain ⟨y0, y1, y2, y3, y4, y5, y6, y7, y8, y9, y10, y11, y12, y13, y14, y15, y16, y17, y18, y19, y20, y21, y22, y23, y24, y25, y26, y27, y28, y29, y30, y31, y32, y33⟩ := (HSd.out _).1 h9; go_simp; try with_reducible rfl))
    try simp only [List.getElem_toArray, List.getElem_cons_succ, List.getElem_cons_zero, Act.put, List.setIfInBounds_toArray, List.set_cons_zero, List.set_cons_succ]
    refine AnyT.take (i := 2) (v := ?_) rfl (by kernel_rfl) (by kernel_rfl) (fun _ _ _ h => h) (by kernel_rfl) (by kernel_rfl) (Or.inl ⟨by rfl, ?_⟩) HS.out ?_
    rotate_left
    · (intro w9 h9; first | (go_simp; with_reducible rfl) | (obtain ⟨y0, y1, y2, y3, y4, y5, y6, y7, y8, y9, y10, y11, y12, y13, y14, y15, y16, y17, y18, y19, y20, y21, y22, y23, y24, y25, y26, y27, y28, y29, y30, y31, y32, y33⟩ := (HSd.out _).1 h9; go_simp; try with_reducible rfl))
    try simp only [List.getElem_toArray, List.getElem_cons_succ, List.getElem_cons_zero, Act.put, List.setIfInBounds_toArray, List.set_cons_zero, List.set_cons_succ]
    refine AnyT.take (i := 3) (v := ?_) rfl (by kernel_rfl) (by kernel_rfl) (fun _ _ _ h => h) (by kernel_rfl) (by kernel_rfl) (Or.inl ⟨by rfl, ?_⟩) HS.out ?_
    rotate_left
    · (intro w9 h9; first | (go_simp; with_reducible rfl) | (obtain ⟨y0, y1, y2, y3, y4, y5, y6, y7, y8, y9, y10, y11, y12, y13, y14, y15, y16, y17, y18, y19, y20, y21, y22, y23, y24, y25, y26, y27, y28, y29, y30, y31, y32, y33⟩ := (HSd.out _).1 h9; go_simp; try with_reducible rfl))
    try simp only [List.getElem_toArray, List.getElem_cons_succ, List.getElem_cons_zero, Act.put, List.setIfInBounds_toArray, List.set_cons_zero, List.set_cons_succ]
    refine AnyT.take (i := 4) (v := ?_) rfl (by kernel_rfl) (by kernel_rfl) (fun _ _ _ h => h) (by kernel_rfl) (by kernel_rfl) (Or.inl ⟨by rfl, ?_⟩) HS.out ?_
    rotate_left
    · (intro w9 h9; first | (go_simp; with_reducible rfl) | (obtain ⟨y0, y1, y2, y3, y4, y5, y6, y7, y8, y9, y10, y11, y12, y13, y14, y15, y16, y17, y18, y19, y20, y21, y22, y23, y24, y25, y26, y27, y28, y29, y30, y31, y32, y33⟩ := (HSd.out _).1 h9; go_simp; try with_reducible rfl))
    try simp only [List.getElem_toArray, List.getElem_cons_succ, List.getElem_cons_zero, Act.put, List.setIfInBounds_toArray, List.set_cons_zero, List.set_cons_succ]
    refine AnyT.take (i := 5) (v := ?_) rfl (by kernel_rfl) (by kernel_rfl) (fun _ _ _ h => h) (by kernel_rfl) (by kernel_rfl) (Or.inl ⟨by rfl, ?_⟩) HS.out ?_
    rotate_left
    · (intro w9 h9; first | (go_simp; with_reducible rfl) | (obtain ⟨y0, y1, y2, y3, y4, y5, y6, y7, y8, y9, y10, y11, y12, y13, y14, y15, y16, y17, y18, y19, y20, y21, y22, y23, y24, y25, y26, y27, y28, y29, y30, y31, y32, y33⟩ := (HSd.out _).1 h9; go_simp; try with_reducible rfl))
    try simp only [List.getElem_toArray, List.getElem_cons_succ, List.getElem_cons_zero, Act.put, List.setIfInBounds_toArray, List.set_cons_zero, List.set_cons_succ]
    refine AnyT.take (i := 6) (v := ?_) rfl (by kernel_rfl) (by kernel_rfl) (fun _ _ _ h => h) (by kernel_rfl) (by kernel_rfl) (Or.inl ⟨by rfl, ?_⟩) HS.out ?_
    rotate_left
    · (intro w9 h9; first | (go_simp; with_reducible rfl) | (obtain ⟨y0, y1, y2, y3, y4, y5, y6, y7, y8, y9, y10, y11, y12, y13, y14, y15, y16, y17, y18, y19, y20, y21, y22, y23, y24, y25, y26, y27, y28, y29, y30, y31, y32, y33⟩ := (HSd.out _).1 h9; go_simp; try with_reducible rfl))
    try simp only [List.getElem_toArray, List.getElem_cons_succ, List.getElem_cons_zero, Act.put, List.setIfInBounds_toArray, List.set_cons_zero, List.set_cons_succ]
    refine AnyT.take (i := 7) (v := ?_) rfl (by kernel_rfl) (by kernel_rfl) (fun _ _ _ h => h) (by kernel_rfl) (by kernel_rfl) (Or.inl ⟨by rfl, ?_⟩) HS.out ?_
    rotate_left
    · (intro w9 h9; first | (go_simp; with_reducible rfl) | (obtain ⟨y0, y1, y2, y3, y4, y5, y6, y7, y8, y9, y10, y11, y12, y13, y14, y15, y16, y17, y18, y19, y20, y21, y22, y23, y24, y25, y26, y27, y28, y29, y30, y31, y32, y33⟩ := (HSd.out _).1 h9; go_simp; try with_reducible rfl))
    try simp only [List.getElem_toArray, List.getElem_cons_succ, List.getElem_cons_zero, Act.put, List.setIfInBounds_toArray, List.set_cons_zero, List.set_cons_succ]
    refine AnyT.take (i := 8) (v := ?_) rfl (by kernel_rfl) (by kernel_rfl) (fun _ _ _ h => h) (by kernel_rfl) (by kernel_rfl) (Or.inl ⟨by rfl, ?_⟩) HS.out ?_
    rotate_left
    · (intro w9 h9; first | (go_simp; with_reducible rfl) | (obtain ⟨y0, y1, y2, y3, y4, y5, y6, y7, y8, y9, y10, y11, y12, y13, y14, y15, y16, y17, y18, y19, y20, y21, y22, y23, y24, y25, y26, y27, y28, y29, y30, y31, y32, y33⟩ := (HSd.out _).1 h9; go_simp; try with_reducible rfl))
    try simp only [List.getElem_toArray, List.getElem_cons_succ, List.getElem_cons_zero, Act.put, List.setIfInBounds_toArray, List.set_cons_zero, List.set_cons_succ]
    refine AnyT.one (i := 9) (by kernel_rfl) rfl (fun K hK => ?_)
    rw [if_pos (by rfl)]
    try simp only [List.getElem_toArray, List.getElem_cons_succ, List.getElem_cons_zero, Act.put, List.setIfInBounds_toArray, List.set_cons_zero, List.set_cons_succ]
    have k0 : x0.cell? ⟨g3, 30, none⟩ = some (.int .u64 0) := hBx0.cell 30
    have k1 : x0.frozen? ⟨g3, 30, none⟩ = false := hBx0.frozen 30
    have hm : Blk (x0.setCell ⟨g3, 30, none⟩ (.int .u64 (x.a : Int))) g3 63 (pk2a x o1 o2 n1 n2 n3) ∧ Chg (fun k => k = g3) x0 (x0.setCell ⟨g3, 30, none⟩ (.int .u64 (x.a : Int))) := mid2a hBx0
    go_wp2_with fail
    generalize World.setCell x0 _ _ = x1 at hm ⊢
    clear k0 k1
    have hXx1 := hXx0.chg hm.2 (fun e => hpg3 e)
    have hYx1 := hYx0.chg hm.2 (fun e => hgg3 e)
    have hBx1 := hm.1
    have hdx1 := hm.2
    have hcx1 : Chg Non w0 x1 := hcx0.trans hdx1 fun k hk e => by have := HG0.out; omega
    replace hAk := hAk.chg hdx1 fun k hk e => hk.2 e
    replace hNs := hNs.chg hdx1 fun k hk e => hk.2 e
    replace HGS := hide (Nat.le_trans HGS.out hdx1.size)
    clear hm hXx0 hYx0 hBx0 hcx0 hdx1
    refine hK.out _ _ (fun _ => HSB2.out x1 hXx1) ?_
    clear hK K
    try simp only [List.getElem_toArray, List.getElem_cons_succ, List.getElem_cons_zero, Act.put, List.setIfInBounds_toArray, List.set_cons_zero, List.set_cons_succ]
    replace HS := hide (HSB2.out x1 hXx1)
    refine AnyT.take (i := 10) (v := ?_) rfl (by kernel_rfl) (by kernel_rfl) (fun _ _ _ h => h) (by kernel_rfl) (by kernel_rfl) (Or.inl ⟨by rfl, ?_⟩) HS.out ?_
    rotate_left
    · (intro w9 h9; first | (go_simp; with_reducible rfl) | (obtain ⟨y0, y1, y2, y3, y4, y5, y6, y7, y8, y9, y10, y11, y12, y13, y14, y15, y16, y17, y18, y19, y20, y21, y22, y23, y24, y25, y26, y27, y28, y29, y30, y31, y32, y33⟩ := (HSd.out _).1 h9; go_simp; try with_reducible rfl))
    try simp only [List.getElem_toArray, List.getElem_cons_succ, List.getElem_cons_zero, Act.put, List.setIfInBounds_toArray, List.set_cons_zero, List.set_cons_succ]
    refine AnyT.take (i := 11) (v := ?_) rfl (by kernel_rfl) (by kernel_rfl) (fun _ _ _ h => h) (by kernel_rfl) (by kernel_rfl) (Or.inl ⟨by rfl, ?_⟩) HS.out ?_
    rotate_left
    · (intro w9 h9; first | (go_simp; with_reducible rfl) | (obtain ⟨y0, y1, y2, y3, y4, y5, y6, y7, y8, y9, y10, y11, y12, y13, y14, y15, y16, y17, y18, y19, y20, y21, y22, y23, y24, y25, y26, y27, y28, y29, y30, y31, y32, y33⟩ := (HSd.out _).1 h9; go_simp; try with_reducible rfl))
    try simp only [List.getElem_toArray, List.getElem_cons_succ, List.getElem_cons_zero, Act.put, List.setIfInBounds_toArray, List.set_cons_zero, List.set_cons_succ]
    refine AnyT.one (i := 12) (by kernel_rfl) rfl (fun K hK => ?_)
    rw [if_pos (by rfl)]
    try simp only [List.getElem_toArray, List.getElem_cons_succ, List.getElem_cons_zero, Act.put, List.setIfInBounds_toArray, List.set_cons_zero, List.set_cons_succ]
    have k0 : x1.cell? ⟨g3, 31, none⟩ = some (.int .u64 0) := hBx1.cell 31
    have k1 : x1.frozen? ⟨g3, 31, none⟩ = false := hBx1.frozen 31
    have hm : Blk (x1.setCell ⟨g3, 31, none⟩ (.int .u64 (x.b : Int))) g3 63 (pk2b x o1 o2 n1 n2 n3) ∧ Chg (fun k => k = g3) x1 (x1.setCell ⟨g3, 31, none⟩ (.int .u64 (x.b : Int))) := mid2b hBx1
    go_wp2_with fail
    generalize World.setCell x1 _ _ = x2 at hm ⊢
    clear k0 k1
    have hXx2 := hXx1.chg hm.2 (fun e => hpg3 e)
    have hYx2 := hYx1.chg hm.2 (fun e => hgg3 e)
    have hBx2 := hm.1
    have hdx2 := hm.2
    have hcx2 : Chg Non w0 x2 := hcx1.trans hdx2 fun k hk e => by have := HG0.out; omega
    replace hAk := hAk.chg hdx2 fun k hk e => hk.2 e
    replace hNs := hNs.chg hdx2 fun k hk e => hk.2 e
    replace HGS := hide (Nat.le_trans HGS.out hdx2.size)
    clear hm hXx1 hYx1 hBx1 hcx1 hdx2
    refine hK.out _ _ (fun _ => HSB2.out x2 hXx2) ?_
    clear hK K
    try simp only [List.getElem_toArray, List.getElem_cons_succ, List.getElem_cons_zero, Act.put, List.setIfInBounds_toArray, List.set_cons_zero, List.set_cons_succ]
    replace HS := hide (HSB2.out x2 hXx2)
    refine AnyT.take (i := 13) (v := ?_) rfl (by kernel_rfl) (by kernel_rfl) (fun _ _ _ h => h) (by kernel_rfl) (by kernel_rfl) (Or.inl ⟨by rfl, ?_⟩) HS.out ?_
    rotate_left
    · (intro w9 h9; first | (go_simp; with_reducible rfl) | (obtain ⟨y0, y1, y2, y3, y4, y5, y6, y7, y8, y9, y10, y11, y12, y13, y14, y15, y16, y17, y18, y19, y20, y21, y22, y23, y24, y25, y26, y27, y28, y29, y30, y31, y32, y33⟩ := (HSd.out _).1 h9; go_simp; try with_reducible rfl))
    try simp only [List.getElem_toArray, List.getElem_cons_succ, List.getElem_cons_zero, Act.put, List.setIfInBounds_toArray, List.set_cons_zero, List.set_cons_succ]
    refine AnyT.take (i := 14) (v := ?_) rfl (by kernel_rfl) (by kernel_rfl) (fun _ _ _ h => h) (by kernel_rfl) (by kernel_rfl) (Or.inl ⟨by rfl, ?_⟩) HS.out ?_
    rotate_left
    · (intro w9 h9; first | (go_simp; with_reducible rfl) | (obtain ⟨y0, y1, y2, y3, y4, y5, y6, y7, y8, y9, y10, y11, y12, y13, y14, y15, y16, y17, y18, y19, y20, y21, y22, y23, y24, y25, y26, y27, y28, y29, y30, y31, y32, y33⟩ := (HSd.out _).1 h9; go_simp; try with_reducible rfl))
    try simp only [List.getElem_toArray, List.getElem_cons_succ, List.getElem_cons_zero, Act.put, List.setIfInBounds_toArray, List.set_cons_zero, List.set_cons_succ]
    have hth := there_of (o := 32) (n := 3) hBx2 (by rw [pk2b_size]; decide)
    have hm := mid2 hBx2
    have HTH := hide (And.intro hth hm)
    clear hth hm
    refine AnyT.one (i := 15) (by kernel_rfl) rfl (fun K hK => ?_)
    rw [if_pos (by rfl)]
    try simp only [List.getElem_toArray, List.getElem_cons_succ, List.getElem_cons_zero, Act.put, List.setIfInBounds_toArray, List.set_cons_zero, List.set_cons_succ]
    refine wp_store_mid (P := Try.prog) 24 (.tmp 29) (.tmp 23) rfl g3 32 #[.int .u64 (x.ask.tb : Int), .int .u64 (x.ask.ts : Int), .int .u64 (x.ask.tq : Int)] rfl rfl HTH.out.1 info_tag (by simp [Value.oneCell']) ?_
    refine hK.out _ _ (fun _ => HSB2.out _ (hXx2.chg HTH.out.2.2 (fun e => hpg3 e))) ?_
    clear hK K
    have hm := HTH.out.2
    clear HTH
    try simp only [List.getElem_toArray, List.getElem_cons_succ, List.getElem_cons_zero, Act.put, List.setIfInBounds_toArray, List.set_cons_zero, List.set_cons_succ]
    generalize World.setCells _ _ _ _ = x3 at hm ⊢
    have hXx3 := hXx2.chg hm.2 (fun e => hpg3 e)
    have hYx3 := hYx2.chg hm.2 (fun e => hgg3 e)
    have hBx3 := hm.1
    have hdx3 := hm.2
    have hcx3 : Chg Non w0 x3 := hcx2.trans hdx3 fun k hk e => by have := HG0.out; omega
    replace hAk := hAk.chg hdx3 fun k hk e => hk.2 e
    replace hNs := hNs.chg hdx3 fun k hk e => hk.2 e
    replace HGS := hide (Nat.le_trans HGS.out hdx3.size)
    clear hm hXx2 hYx2 hBx2 hcx2 hdx3
    refine AnyT.nil (by kernel_rfl) ?_
    clear HS
    have y30 : x3.cell? ⟨p, 30, none⟩ = some (.string x.name) := hXx3.cell 30
    have y32 : x3.cell? ⟨p, 32, none⟩ = some (.int .u64 (x.a : Int)) := hXx3.cell 32
    have y33 : x3.cell? ⟨p, 33, none⟩ = some (.int .u64 (x.b : Int)) := hXx3.cell 33
    have hth := there_of (o := 35) (n := 3) hBx3 (by rw [pk2_size]; decide)
    have hm := mid3 hBx3
    go_upto_region 4 with (refine wpList_store_mid (P := Try.prog) rfl 49 (.tmp 37) (.tmp 36) rfl g3 35 #[.int .u64 (x.a : Int), .int .u64 (x.b : Int), .string x.name] rfl rfl hth info_mend (by simp [Value.oneCell']) ?_)
    generalize World.setCells x3 _ _ _ = x4 at hm ⊢
    clear hth
    clear y30 y32 y33
    have hXx4 := hXx3.chg hm.2 (fun e => hpg3 e)
    have hYx4 := hYx3.chg hm.2 (fun e => hgg3 e)
    have hBx4 := hm.1
    have hdx4 := hm.2
    have hcx4 : Chg Non w0 x4 := hcx3.trans hdx4 fun k hk e => by have := HG0.out; omega
    replace hAk := hAk.chg hdx4 fun k hk e => hk.2 e
    replace hNs := hNs.chg hdx4 fun k hk e => hk.2 e
    replace HGS := hide (Nat.le_trans HGS.out hdx4.size)
    clear hm hXx3 hYx3 hBx3 hcx3 hdx4
    have HS := hide (HSB2.out x4.drew hXx4)
    refine wp_region_T S 99 (by kernel_rfl) ?_
    have hc0d := (Chg.refl Non x4).drew
    have hXx5 := hXx4.c0 hc0d
    have hYx5 := hYx4.c0 hc0d
    have hBx5 := hBx4.c0 hc0d
    replace hAk := hAk.chg hc0d fun _ _ h => h
    replace hNs := hNs.chg hc0d fun _ _ h => h
    have hcx5 := hcx4.trans0 hc0d
    replace HGS := hide (Nat.le_trans HGS.out hc0d.size)
    clear hXx4 hYx4 hBx4 hcx4
    generalize World.drew x4 = x5 at hc0d hXx5 hYx5 hBx5 hAk hNs hcx5  HGS HS ⊢
    clear hc0d
    refine AnyT.take (i := 0) (v := ?_) rfl (by kernel_rfl) (by kernel_rfl) (fun _ _ _ h => h) (by kernel_rfl) (by kernel_rfl) (Or.inl ⟨by rfl, ?_⟩) HS.out ?_
    rotate_left
    · (intro w9 h9; first | (go_simp; with_reducible rfl) | (obtain ⟨y0, y1, y2, y3, y4, y5, y6, y7, y8, y9, y10, y11, y12, y13, y14, y15, y16, y17, y18, y19, y20, y21, y22, y23, y24, y25, y26, y27, y28, y29, y30, y31, y32, y33⟩ := (HSd.out _).1 h9; go_simp; try with_reducible rfl))
    try simp only [List.getElem_toArray, List.getElem_cons_succ, List.getElem_cons_zero, Act.put, List.setIfInBounds_toArray, List.set_cons_zero, List.set_cons_succ]
    refine AnyT.take (i := 1) (v := ?_) rfl (by kernel_rfl) (by kernel_rfl) (fun _ _ _ h => h) (by kernel_rfl) (by kernel_rfl) (Or.inl ⟨by rfl, ?_⟩) HS.out ?_
    rotate_left
    · (intro w9 h9; first | (go_simp; with_reducible rfl) | (obtain ⟨y0, y1, y2, y3, y4, y5, y6, y7, y8, y9, y10, y11, y12, y13, y14, y15, y16, y17, y18, y19, y20, y21, y22, y23, y24, y25, y26, y27, y28, y29, y30, y31, y32, y33⟩ := (HSd.out _).1 h9; go_simp; try with_reducible rfl))
    try simp only [List.getElem_toArray, List.getElem_cons_succ, List.getElem_cons_zero, Act.put, List.setIfInBounds_toArray, List.set_cons_zero, List.set_cons_succ]
    refine AnyT.take (i := 2) (v := ?_) rfl (by kernel_rfl) (by kernel_rfl) (fun _ _ _ h => h) (by kernel_rfl) (by kernel_rfl) (Or.inl ⟨by rfl, ?_⟩) HS.out ?_
    rotate_left
    · (intro w9 h9; first | (go_simp; with_reducible rfl) | (obtain ⟨y0, y1, y2, y3, y4, y5, y6, y7, y8, y9, y10, y11, y12, y13, y14, y15, y16, y17, y18, y19, y20, y21, y22, y23, y24, y25, y26, y27, y28, y29, y30, y31, y32, y33⟩ := (HSd.out _).1 h9; go_simp; try with_reducible rfl))
    try simp only [List.getElem_toArray, List.getElem_cons_succ, List.getElem_cons_zero, Act.put, List.setIfInBounds_toArray, List.set_cons_zero, List.set_cons_succ]
    refine AnyT.take (i := 3) (v := ?_) rfl (by kernel_rfl) (by kernel_rfl) (fun _ _ _ h => h) (by kernel_rfl) (by kernel_rfl) (Or.inl ⟨by rfl, ?_⟩) HS.out ?_
    rotate_left
    · (intro w9 h9; first | (go_simp; with_reducible rfl) | (obtain ⟨y0, y1, y2, y3, y4, y5, y6, y7, y8, y9, y10, y11, y12, y13, y14, y15, y16, y17, y18, y19, y20, y21, y22, y23, y24, y25, y26, y27, y28, y29, y30, y31, y32, y33⟩ := (HSd.out _).1 h9; go_simp; try with_reducible rfl))
    try simp only [List.getElem_toArray, List.getElem_cons_succ, List.getElem_cons_zero, Act.put, List.setIfInBounds_toArray, List.set_cons_zero, List.set_cons_succ]
    refine AnyT.take (i := 4) (v := ?_) rfl (by kernel_rfl) (by kernel_rfl) (fun _ _ _ h => h) (by kernel_rfl) (by kernel_rfl) (Or.inl ⟨by rfl, ?_⟩) HS.out ?_
    rotate_left
    · (intro w9 h9; first | (go_simp; with_reducible rfl) | (obtain ⟨y0, y1, y2, y3, y4, y5, y6, y7, y8, y9, y10, y11, y12, y13, y14, y15, y16, y17, y18, y19, y20, y21, y22, y23, y24, y25, y26, y27, y28, y29, y30, y31, y32, y33⟩ := (HSd.out _).1 h9; go_simp; try with_reducible rfl))
    try simp only [List.getElem_toArray, List.getElem_cons_succ, List.getElem_cons_zero, Act.put, List.setIfInBounds_toArray, List.set_cons_zero, List.set_cons_succ]
    refine AnyT.take (i := 5) (v := ?_) rfl (by kernel_rfl) (by kernel_rfl) (fun _ _ _ h => h) (by kernel_rfl) (by kernel_rfl) (Or.inl ⟨by rfl, ?_⟩) HS.out ?_
    rotate_left
    · (intro w9 h9; first | (go_simp; with_reducible rfl) | (obtain ⟨y0, y1, y2, y3, y4, y5, y6, y7, y8, y9, y10, y11, y12, y13, y14, y15, y16, y17, y18, y19, y20, y21, y22, y23, y24, y25, y26, y27, y28, y29, y30, y31, y32, y33⟩ := (HSd.out _).1 h9; go_simp; try with_reducible rfl))
    try simp only [List.getElem_toArray, List.getElem_cons_succ, List.getElem_cons_zero, Act.put, List.setIfInBounds_toArray, List.set_cons_zero, List.set_cons_succ]
    refine AnyT.take (i := 6) (v := ?_) rfl (by kernel_rfl) (by kernel_rfl) (fun _ _ _ h => h) (by kernel_rfl) (by kernel_rfl) (Or.inl ⟨by rfl, ?_⟩) HS.out ?_
    rotate_left
    · (intro w9 h9; first | (go_simp; with_reducible rfl) | (obtain ⟨y0, y1, y2, y3, y4, y5, y6, y7, y8, y9, y10, y11, y12, y13, y14, y15, y16, y17, y18, y19, y20, y21, y22, y23, y24, y25, y26, y27, y28, y29, y30, y31, y32, y33⟩ := (HSd.out _).1 h9; go_simp; try with_reducible rfl))
    try simp only [List.getElem_toArray, List.getElem_cons_succ, List.getElem_cons_zero, Act.put, List.setIfInBounds_toArray, List.set_cons_zero, List.set_cons_succ]
    refine AnyT.take (i := 7) (v := ?_) rfl (by kernel_rfl) (by kernel_rfl) (fun _ _ _ h => h) (by kernel_rfl) (by kernel_rfl) (Or.inl ⟨by rfl, ?_⟩) HS.out ?_
    rotate_left
    · (intro w9 h9; first | (go_simp; with_reducible rfl) | (obtain ⟨y0, y1, y2, y3, y4, y5, y6, y7, y8, y9, y10, y11, y12, y13, y14, y15, y16, y17, y18, y19, y20, y21, y22, y23, y24, y25, y26, y27, y28, y29, y30, y31, y32, y33⟩ := (HSd.out _).1 h9; go_simp; try with_reducible rfl))
    try simp only [List.getElem_toArray, List.getElem_cons_succ, List.getElem_cons_zero, Act.put, List.setIfInBounds_toArray, List.set_cons_zero, List.set_cons_succ]
    refine AnyT.one (i := 8) (by kernel_rfl) rfl (fun K hK => ?_)
    rw [if_pos (by rfl)]
    try simp only [List.getElem_toArray, List.getElem_cons_succ, List.getElem_cons_zero, Act.put, List.setIfInBounds_toArray, List.set_cons_zero, List.set_cons_succ]
    go_wp2_with (go_at_call 25; refine (ownOps (HR0.out.ops.c0 hcx5) HR0.out.on HR0.out.ol).mono ?_; rintro e x6 ⟨u4, rfl, ⟨xs, hHO⟩, hdx6⟩)
    obtain ⟨U4, un4, uc4, rfl⟩ : ∃ A m c, u4 = .slice A m c := rdv_sl (RdV.of_own hHO.row)
    have hU4 : OwnO x6 0 (fun k => x5.heap.size ≤ k ∧ k < x6.heap.size) (.slice U4 un4 uc4) x.ask.ops xs := hHO.ownO.1
    have hV4 := hide hHO.ownO.2
    clear hHO
    have hXx6 := hXx5.c0 hdx6
    have hYx6 := hYx5.c0 hdx6
    have hBx6 := hBx5.c0 hdx6
    have hcx6 := hcx5.trans0 hdx6
    replace HGS := hide (Nat.le_trans HGS.out hdx6.size)
    replace hAk := hAk.chg hdx6 fun _ _ h => h
    replace hNs := hNs.chg hdx6 fun _ _ h => h
    refine hK.out _ _ (fun _ => HSB2.out x6 hXx6) ?_
    clear hK K
    try simp only [List.getElem_toArray, List.getElem_cons_succ, List.getElem_cons_zero, Act.put, List.setIfInBounds_toArray, List.set_cons_zero, List.set_cons_succ]
    have hgx5 : g3 < x5.heap.size := hBx5.lt
    have HZ5 := hide (And.intro hgx5 hcx5.size)
    have HM6 := hide hdx6.size
    replace HS := hide (HSB2.out x6 hXx6)
    clear hgx5 hXx5 hYx5 hBx5 hcx5 hdx6
    refine AnyT.take (i := 9) (v := .agg #[.int .u64 (x.a : Int), .int .u64 (x.ans.tb : Int), .int .u64 (x.ans.ts : Int), .int .u64 (x.ans.tq : Int), .slice U4 un4 uc4]) rfl (by kernel_rfl) (by kernel_rfl) (fun _ _ _ h => h) (by kernel_rfl) (by kernel_rfl) (Or.inl ⟨by rfl, fun w9 _ => by kernel_rfl⟩) HS.out ?_
    try simp only [List.getElem_toArray, List.getElem_cons_succ, List.getElem_cons_zero, Act.put, List.setIfInBounds_toArray, List.set_cons_zero, List.set_cons_succ]
    refine AnyT.take (i := 10) (v := ?_) rfl (by kernel_rfl) (by kernel_rfl) (fun _ _ _ h => h) (by kernel_rfl) (by kernel_rfl) (Or.inl ⟨by rfl, ?_⟩) HS.out ?_
    rotate_left
    · (intro w9 h9; first | (go_simp; with_reducible rfl) | (obtain ⟨y0, y1, y2, y3, y4, y5, y6, y7, y8, y9, y10, y11, y12, y13, y14, y15, y16, y17, y18, y19, y20, y21, y22, y23, y24, y25, y26, y27, y28, y29, y30, y31, y32, y33⟩ := (HSd.out _).1 h9; go_simp; try with_reducible rfl))
    try simp only [List.getElem_toArray, List.getElem_cons_succ, List.getElem_cons_zero, Act.put, List.setIfInBounds_toArray, List.set_cons_zero, List.set_cons_succ]
    have hU4c : ∀ y : World, Chg (fun k => k = g3) x6 y → OwnO y 0 (fun k => x5.heap.size ≤ k ∧ k < x6.heap.size) (.slice U4 un4 uc4) x.ask.ops xs := fun y hy => hU4.chg hy (fun k hk e => by have := (hV4.out k hk).1; have := HZ5.out.1; omega) (fun k hk e => by have := hk.1; have := HZ5.out.1; omega)
    have hth := there_of (o := 38) (n := 5) hBx6 (by rw [pk3_size]; decide)
    have hm := mid4 (u4 := .slice U4 un4 uc4) hBx6
    have HTH := hide (And.intro hth hm)
    clear hth hm
    refine AnyT.one (i := 11) (by kernel_rfl) rfl (fun K hK => ?_)
    rw [if_pos (by rfl)]
    try simp only [List.getElem_toArray, List.getElem_cons_succ, List.getElem_cons_zero, Act.put, List.setIfInBounds_toArray, List.set_cons_zero, List.set_cons_succ]
    refine wp_store_mid (P := Try.prog) 51 (.tmp 48) (.tmp 47) rfl g3 38 #[.int .u64 (x.a : Int), .int .u64 (x.ans.tb : Int), .int .u64 (x.ans.ts : Int), .int .u64 (x.ans.tq : Int), .slice U4 un4 uc4] rfl rfl HTH.out.1 info_call (by simp [Value.oneCell']) ?_
    refine hK.out _ _ (fun _ => HSB2.out _ (hXx6.chg HTH.out.2.2 (fun e => hpg3 e))) ?_
    clear hK K
    have hm := HTH.out.2
    clear HTH
    try simp only [List.getElem_toArray, List.getElem_cons_succ, List.getElem_cons_zero, Act.put, List.setIfInBounds_toArray, List.set_cons_zero, List.set_cons_succ]
    generalize World.setCells _ _ _ _ = x7 at hm ⊢
    have hXx7 := hXx6.chg hm.2 (fun e => hpg3 e)
    have hYx7 := hYx6.chg hm.2 (fun e => hgg3 e)
    have hBx7 := hm.1
    have hdx7 := hm.2
    have hcx7 : Chg Non w0 x7 := hcx6.trans hdx7 fun k hk e => by have := HG0.out; omega
    replace hAk := hAk.chg hdx7 fun k hk e => hk.2 e
    replace hNs := hNs.chg hdx7 fun k hk e => hk.2 e
    replace HGS := hide (Nat.le_trans HGS.out hdx7.size)
    have hU7 := hU4c x7 hdx7
    have HS67 := hide hdx7.size
    clear hm hXx6 hYx6 hBx6 hcx6 hdx7
    refine AnyT.nil (by kernel_rfl) ?_
    clear HS
    clear hU4 hU4c
    go_upto_region 5 with fail
    have HS := hide (HSB2.out x7.drew hXx7)
    refine wp_region_T S 99 (by kernel_rfl) ?_
    have hc0d := (Chg.refl Non x7).drew
    have hXx8 := hXx7.c0 hc0d
    have hYx8 := hYx7.c0 hc0d
    have hBx8 := hBx7.c0 hc0d
    replace hAk := hAk.chg hc0d fun _ _ h => h
    replace hNs := hNs.chg hc0d fun _ _ h => h
    have hcx8 := hcx7.trans0 hc0d
    replace HGS := hide (Nat.le_trans HGS.out hc0d.size)
    have hU8 := hU7.chg hc0d (fun _ _ h => h) (fun _ _ h => h)
    have HS68 := hide (Nat.le_trans HS67.out hc0d.size)
    clear hU7 HS67 hXx7 hYx7 hBx7 hcx7
    generalize World.drew x7 = x8 at hc0d hXx8 hYx8 hBx8 hAk hNs hcx8  HGS hU8 HS68 HS ⊢
    clear hc0d
    refine AnyT.take (i := 0) (v := ?_) rfl (by kernel_rfl) (by kernel_rfl) (fun _ _ _ h => h) (by kernel_rfl) (by kernel_rfl) (Or.inl ⟨by rfl, ?_⟩) HS.out ?_
    rotate_left
    · (intro w9 h9; first | (go_simp; with_reducible rfl) | (obtain ⟨y0, y1, y2, y3, y4, y5, y6, y7, y8, y9, y10, y11, y12, y13, y14, y15, y16, y17, y18, y19, y20, y21, y22, y23, y24, y25, y26, y27, y28, y29, y30, y31, y32, y33⟩ := (HSd.out _).1 h9; go_simp; try with_reducible rfl))
    try simp only [List.getElem_toArray, List.getElem_cons_succ, List.getElem_cons_zero, Act.put, List.setIfInBounds_toArray, List.set_cons_zero, List.set_cons_succ]
    refine AnyT.take (i := 1) (v := ?_) rfl (by kernel_rfl) (by kernel_rfl) (fun _ _ _ h => h) (by kernel_rfl) (by kernel_rfl) (Or.inl ⟨by rfl, ?_⟩) HS.out ?_
    rotate_left
    · (intro w9 h9; first | (go_simp; with_reducible rfl) | (obtain ⟨y0, y1, y2, y3, y4, y5, y6, y7, y8, y9, y10, y11, y12, y13, y14, y15, y16, y17, y18, y19, y20, y21, y22, y23, y24, y25, y26, y27, y28, y29, y30, y31, y32, y33⟩ := (HSd.out _).1 h9; go_simp; try with_reducible rfl))
    try simp only [List.getElem_toArray, List.getElem_cons_succ, List.getElem_cons_zero, Act.put, List.setIfInBounds_toArray, List.set_cons_zero, List.set_cons_succ]
    refine AnyT.take (i := 2) (v := ?_) rfl (by kernel_rfl) (by kernel_rfl) (fun _ _ _ h => h) (by kernel_rfl) (by kernel_rfl) (Or.inl ⟨by rfl, ?_⟩) HS.out ?_
    rotate_left
    · (intro w9 h9; first | (go_simp; with_reducible rfl) | (obtain ⟨y0, y1, y2, y3, y4, y5, y6, y7, y8, y9, y10, y11, y12, y13, y14, y15, y16, y17, y18, y19, y20, y21, y22, y23, y24, y25, y26, y27, y28, y29, y30, y31, y32, y33⟩ := (HSd.out _).1 h9; go_simp; try with_reducible rfl))
    try simp only [List.getElem_toArray, List.getElem_cons_succ, List.getElem_cons_zero, Act.put, List.setIfInBounds_toArray, List.set_cons_zero, List.set_cons_succ]
    refine AnyT.take (i := 3) (v := ?_) rfl (by kernel_rfl) (by kernel_rfl) (fun _ _ _ h => h) (by kernel_rfl) (by kernel_rfl) (Or.inl ⟨by rfl, ?_⟩) HS.out ?_
    rotate_left
    · (intro w9 h9; first | (go_simp; with_reducible rfl) | (obtain ⟨y0, y1, y2, y3, y4, y5, y6, y7, y8, y9, y10, y11, y12, y13, y14, y15, y16, y17, y18, y19, y20, y21, y22, y23, y24, y25, y26, y27, y28, y29, y30, y31, y32, y33⟩ := (HSd.out _).1 h9; go_simp; try with_reducible rfl))
    try simp only [List.getElem_toArray, List.getElem_cons_succ, List.getElem_cons_zero, Act.put, List.setIfInBounds_toArray, List.set_cons_zero, List.set_cons_succ]
    refine AnyT.take (i := 4) (v := ?_) rfl (by kernel_rfl) (by kernel_rfl) (fun _ _ _ h => h) (by kernel_rfl) (by kernel_rfl) (Or.inl ⟨by rfl, ?_⟩) HS.out ?_
    rotate_left
    · (intro w9 h9; first | (go_simp; with_reducible rfl) | (obtain ⟨y0, y1, y2, y3, y4, y5, y6, y7, y8, y9, y10, y11, y12, y13, y14, y15, y16, y17, y18, y19, y20, y21, y22, y23, y24, y25, y26, y27, y28, y29, y30, y31, y32, y33⟩ := (HSd.out _).1 h9; go_simp; try with_reducible rfl))
    try simp only [List.getElem_toArray, List.getElem_cons_succ, List.getElem_cons_zero, Act.put, List.setIfInBounds_toArray, List.set_cons_zero, List.set_cons_succ]
    refine AnyT.take (i := 5) (v := ?_) rfl (by kernel_rfl) (by kernel_rfl) (fun _ _ _ h => h) (by kernel_rfl) (by kernel_rfl) (Or.inl ⟨by rfl, ?_⟩) HS.out ?_
    rotate_left
    · (intro w9 h9; first | (go_simp; with_reducible rfl) | (obtain ⟨y0, y1, y2, y3, y4, y5, y6, y7, y8, y9, y10, y11, y12, y13, y14, y15, y16, y17, y18, y19, y20, y21, y22, y23, y24, y25, y26, y27, y28, y29, y30, y31, y32, y33⟩ := (HSd.out _).1 h9; go_simp; try with_reducible rfl))
    try simp only [List.getElem_toArray, List.getElem_cons_succ, List.getElem_cons_zero, Act.put, List.setIfInBounds_toArray, List.set_cons_zero, List.set_cons_succ]
    refine AnyT.take (i := 6) (v := ?_) rfl (by kernel_rfl) (by kernel_rfl) (fun _ _ _ h => h) (by kernel_rfl) (by kernel_rfl) (Or.inl ⟨by rfl, ?_⟩) HS.out ?_
    rotate_left
    · (intro w9 h9; first | (go_simp; with_reducible rfl) | (obtain ⟨y0, y1, y2, y3, y4, y5, y6, y7, y8, y9, y10, y11, y12, y13, y14, y15, y16, y17, y18, y19, y20, y21, y22, y23, y24, y25, y26, y27, y28, y29, y30, y31, y32, y33⟩ := (HSd.out _).1 h9; go_simp; try with_reducible rfl))
    try simp only [List.getElem_toArray, List.getElem_cons_succ, List.getElem_cons_zero, Act.put, List.setIfInBounds_toArray, List.set_cons_zero, List.set_cons_succ]
    refine AnyT.take (i := 7) (v := ?_) rfl (by kernel_rfl) (by kernel_rfl) (fun _ _ _ h => h) (by kernel_rfl) (by kernel_rfl) (Or.inl ⟨by rfl, ?_⟩) HS.out ?_
    rotate_left
    · (intro w9 h9; first | (go_simp; with_reducible rfl) | (obtain ⟨y0, y1, y2, y3, y4, y5, y6, y7, y8, y9, y10, y11, y12, y13, y14, y15, y16, y17, y18, y19, y20, y21, y22, y23, y24, y25, y26, y27, y28, y29, y30, y31, y32, y33⟩ := (HSd.out _).1 h9; go_simp; try with_reducible rfl))
    try simp only [List.getElem_toArray, List.getElem_cons_succ, List.getElem_cons_zero, Act.put, List.setIfInBounds_toArray, List.set_cons_zero, List.set_cons_succ]
    refine AnyT.take (i := 8) (v := ?_) rfl (by kernel_rfl) (by kernel_rfl) (fun _ _ _ h => h) (by kernel_rfl) (by kernel_rfl) (Or.inl ⟨by rfl, ?_⟩) HS.out ?_
    rotate_left
    · (intro w9 h9; first | (go_simp; with_reducible rfl) | (obtain ⟨y0, y1, y2, y3, y4, y5, y6, y7, y8, y9, y10, y11, y12, y13, y14, y15, y16, y17, y18, y19, y20, y21, y22, y23, y24, y25, y26, y27, y28, y29, y30, y31, y32, y33⟩ := (HSd.out _).1 h9; go_simp; try with_reducible rfl))
    try simp only [List.getElem_toArray, List.getElem_cons_succ, List.getElem_cons_zero, Act.put, List.setIfInBounds_toArray, List.set_cons_zero, List.set_cons_succ]
    refine AnyT.take (i := 9) (v := ?_) rfl (by kernel_rfl) (by kernel_rfl) (fun _ _ _ h => h) (by kernel_rfl) (by kernel_rfl) (Or.inl ⟨by rfl, ?_⟩) HS.out ?_
    rotate_left
    · (intro w9 h9; first | (go_simp; with_reducible rfl) | (obtain ⟨y0, y1, y2, y3, y4, y5, y6, y7, y8, y9, y10, y11, y12, y13, y14, y15, y16, y17, y18, y19, y20, y21, y22, y23, y24, y25, y26, y27, y28, y29, y30, y31, y32, y33⟩ := (HSd.out _).1 h9; go_simp; try with_reducible rfl))
    try simp only [List.getElem_toArray, List.getElem_cons_succ, List.getElem_cons_zero, Act.put, List.setIfInBounds_toArray, List.set_cons_zero, List.set_cons_succ]
    refine AnyT.take (i := 10) (v := ?_) rfl (by kernel_rfl) (by kernel_rfl) (fun _ _ _ h => h) (by kernel_rfl) (by kernel_rfl) (Or.inl ⟨by rfl, ?_⟩) HS.out ?_
    rotate_left
    · (intro w9 h9; first | (go_simp; with_reducible rfl) | (obtain ⟨y0, y1, y2, y3, y4, y5, y6, y7, y8, y9, y10, y11, y12, y13, y14, y15, y16, y17, y18, y19, y20, y21, y22, y23, y24, y25, y26, y27, y28, y29, y30, y31, y32, y33⟩ := (HSd.out _).1 h9; go_simp; try with_reducible rfl))
    try simp only [List.getElem_toArray, List.getElem_cons_succ, List.getElem_cons_zero, Act.put, List.setIfInBounds_toArray, List.set_cons_zero, List.set_cons_succ]
    refine AnyT.take (i := 11) (v := ?_) rfl (by kernel_rfl) (by kernel_rfl) (fun _ _ _ h => h) (by kernel_rfl) (by kernel_rfl) (Or.inl ⟨by rfl, ?_⟩) HS.out ?_
    rotate_left
    · (intro w9 h9; first | (go_simp; with_reducible rfl) | (obtain ⟨y0, y1, y2, y3, y4, y5, y6, y7, y8, y9, y10, y11, y12, y13, y14, y15, y16, y17, y18, y19, y20, y21, y22, y23, y24, y25, y26, y27, y28, y29, y30, y31, y32, y33⟩ := (HSd.out _).1 h9; go_simp; try with_reducible rfl))
    try simp only [List.getElem_toArray, List.getElem_cons_succ, List.getElem_cons_zero, Act.put, List.setIfInBounds_toArray, List.set_cons_zero, List.set_cons_succ]
    refine AnyT.one (i := 12) (by kernel_rfl) rfl (fun K hK => ?_)
    rw [if_pos (by rfl)]
    try simp only [List.getElem_toArray, List.getElem_cons_succ, List.getElem_cons_zero, Act.put, List.setIfInBounds_toArray, List.set_cons_zero, List.set_cons_succ]
    go_wp2_with (go_at_call 12; refine (refCopy (HR0.out.rep.c0 hcx8) (by have := HR0.out.repn; omega)).mono ?_; rintro e x9 ⟨u5, rfl, hu5, hdx9⟩)
    obtain ⟨U5, un5, uc5, rfl⟩ : ∃ A m c, u5 = .slice A m c := hu5.shapeH
    have hU9 := hU8.chg hdx9 (fun _ _ h => h) (fun _ _ h => h)
    have hXx9 := hXx8.c0 hdx9
    have hYx9 := hYx8.c0 hdx9
    have hBx9 := hBx8.c0 hdx9
    have hcx9 := hcx8.trans0 hdx9
    replace HGS := hide (Nat.le_trans HGS.out hdx9.size)
    replace hAk := hAk.chg hdx9 fun _ _ h => h
    replace hNs := hNs.chg hdx9 fun _ _ h => h
    refine hK.out _ _ (fun _ => HSB2.out x9 hXx9) ?_
    clear hK K
    try simp only [List.getElem_toArray, List.getElem_cons_succ, List.getElem_cons_zero, Act.put, List.setIfInBounds_toArray, List.set_cons_zero, List.set_cons_succ]
    have hgx8 : g3 < x8.heap.size := hBx8.lt
    have HZ8 := hide (And.intro hgx8 hcx8.size)
    replace HS := hide (HSB2.out x9 hXx9)
    have hs9 := hdx9.size
    have HS9 := hide hs9
    clear hgx8 hs9 hXx8 hYx8 hBx8 hcx8 hdx9 hU8
    refine AnyT.take (i := 13) (v := .agg #[.int .u64 (x.a : Int), .int .u64 (x.b : Int), .int .u64 (x.ask.tb : Int), .int .u64 (x.ask.ts : Int), .int .u64 (x.ask.tq : Int), .int .i64 x.what, .slice U5 un5 uc5]) rfl (by kernel_rfl) (by kernel_rfl) (fun _ _ _ h => h) (by kernel_rfl) (by kernel_rfl) (Or.inl ⟨by rfl, fun w9 _ => by kernel_rfl⟩) HS.out ?_
    try simp only [List.getElem_toArray, List.getElem_cons_succ, List.getElem_cons_zero, Act.put, List.setIfInBounds_toArray, List.set_cons_zero, List.set_cons_succ]
    refine AnyT.take (i := 14) (v := ?_) rfl (by kernel_rfl) (by kernel_rfl) (fun _ _ _ h => h) (by kernel_rfl) (by kernel_rfl) (Or.inl ⟨by rfl, ?_⟩) HS.out ?_
    rotate_left
    · (intro w9 h9; first | (go_simp; with_reducible rfl) | (obtain ⟨y0, y1, y2, y3, y4, y5, y6, y7, y8, y9, y10, y11, y12, y13, y14, y15, y16, y17, y18, y19, y20, y21, y22, y23, y24, y25, y26, y27, y28, y29, y30, y31, y32, y33⟩ := (HSd.out _).1 h9; go_simp; try with_reducible rfl))
    try simp only [List.getElem_toArray, List.getElem_cons_succ, List.getElem_cons_zero, Act.put, List.setIfInBounds_toArray, List.set_cons_zero, List.set_cons_succ]
    have hA5c : ∀ y : World, Chg (fun k => k = g3) x9 y → x6.heap.size ≤ x8.heap.size → AskOwn y (fun k => (x5.heap.size ≤ k ∧ k < y.heap.size) ∧ k ≠ g3) x.ask (.slice U4 un4 uc4) (.slice U5 un5 uc5) := fun y hy h68 => ⟨⟨xs, (hU9.chg hy (fun k hk e => by have := (hV4.out k hk).1; have := HZ5.out.1; omega) (fun k hk e => by have := hk.1; have := HZ5.out.1; omega)).mono fun k hk => by have h1 := hk.1; have h2 := hk.2; have := HZ5.out.1; have := HS9.out; have := hy.size; omega⟩, fun k hk => by have h1 := (hV4.out k hk).1; have h2 := (hV4.out k hk).2; have := HZ5.out.1; have := HS9.out; have := hy.size; omega, (hu5.rdB.chg hy (fun k hk e => by have := hk.1; have := HZ8.out.1; omega)).mono fun k hk => by have h1 := hk.1; have h2 := hk.2; have := HZ8.out.1; have := HM6.out; have := hy.size; omega⟩
    have hth := there_of (o := 43) (n := 7) hBx9 (by rw [pk4_size]; decide)
    have hm := mid5 (u5 := .slice U5 un5 uc5) hBx9
    have HTH := hide (And.intro hth hm)
    clear hth hm
    refine AnyT.one (i := 15) (by kernel_rfl) rfl (fun K hK => ?_)
    rw [if_pos (by rfl)]
    try simp only [List.getElem_toArray, List.getElem_cons_succ, List.getElem_cons_zero, Act.put, List.setIfInBounds_toArray, List.set_cons_zero, List.set_cons_succ]
    refine wp_store_mid (P := Try.prog) 53 (.tmp 63) (.tmp 62) rfl g3 43 #[.int .u64 (x.a : Int), .int .u64 (x.b : Int), .int .u64 (x.ask.tb : Int), .int .u64 (x.ask.ts : Int), .int .u64 (x.ask.tq : Int), .int .i64 x.what, .slice U5 un5 uc5] rfl rfl HTH.out.1 info_repl (by simp [Value.oneCell']) ?_
    refine hK.out _ _ (fun _ => HSB2.out _ (hXx9.chg HTH.out.2.2 (fun e => hpg3 e))) ?_
    clear hK K
    have hm := HTH.out.2
    clear HTH
    try simp only [List.getElem_toArray, List.getElem_cons_succ, List.getElem_cons_zero, Act.put, List.setIfInBounds_toArray, List.set_cons_zero, List.set_cons_succ]
    generalize World.setCells _ _ _ _ = xa at hm ⊢
    have hXxa := hXx9.chg hm.2 (fun e => hpg3 e)
    have hYxa := hYx9.chg hm.2 (fun e => hgg3 e)
    have hBxa := hm.1
    have hdxa := hm.2
    have hcxa : Chg Non w0 xa := hcx9.trans hdxa fun k hk e => by have := HG0.out; omega
    replace hAk := hAk.chg hdxa fun k hk e => hk.2 e
    replace hNs := hNs.chg hdxa fun k hk e => hk.2 e
    replace HGS := hide (Nat.le_trans HGS.out hdxa.size)
    have hA5 := hA5c xa hdxa (by have := HS68.out; omega)
    clear hm hXx9 hYx9 hBx9 hcx9 hdxa
    refine AnyT.nil (by kernel_rfl) ?_
    clear HS
    clear hU9 hA5c hu5
    have HGA := hide (Nat.le_refl xa.heap.size)
    have y1 : xa.cell? ⟨p, 1, none⟩ = some (.int .u64 (x.fr : Int)) := hXxa.cell 1
    have y2 : xa.cell? ⟨p, 2, none⟩ = some (.int .u64 (x.tt : Int)) := hXxa.cell 2
    have y30 : xa.cell? ⟨p, 30, none⟩ = some (.string x.name) := hXxa.cell 30
    have y31 : xa.cell? ⟨p, 31, none⟩ = some (.int .i64 x.what) := hXxa.cell 31
    have y32 : xa.cell? ⟨p, 32, none⟩ = some (.int .u64 (x.a : Int)) := hXxa.cell 32
    have y33 : xa.cell? ⟨p, 33, none⟩ = some (.int .u64 (x.b : Int)) := hXxa.cell 33
    have hth := there_of (o := 50) (n := 8) hBxa (by rw [pk5_size]; decide)
    have hm := mid6 hBxa
    go_upto_region 7 with (refine wpList_store_mid (P := Try.prog) rfl 57 (.tmp 82) (.tmp 81) rfl g3 50 #[.int .u64 (x.a : Int), .int .u64 (x.fr : Int), .string x.name, .int .u64 (x.b : Int), .int .u64 (x.fr : Int), .int .i64 x.what, .int .u64 (x.tt : Int), .int .u64 (x.b : Int)] rfl rfl hth info_ordr (by simp [Value.oneCell']) ?_)
    generalize World.setCells xa _ _ _ = xb at hm ⊢
    clear hth
    clear y1 y2 y30 y31 y32 y33
    have hXxb := hXxa.chg hm.2 (fun e => hpg3 e)
    have hYxb := hYxa.chg hm.2 (fun e => hgg3 e)
    have hBxb := hm.1
    have hdxb := hm.2
    have hcxb : Chg Non w0 xb := hcxa.trans hdxb fun k hk e => by have := HG0.out; omega
    replace hAk := hAk.chg hdxb fun k hk e => hk.2 e
    replace hNs := hNs.chg hdxb fun k hk e => hk.2 e
    replace HGS := hide (Nat.le_trans HGS.out hdxb.size)
    replace hA5 := hA5.chg hdxb fun k hk e => hk.2 e
    replace HGA := hide (Nat.le_trans HGA.out hdxb.size)
    clear hm hXxa hYxa hBxa hcxa hdxb
    have y1 : xb.cell? ⟨p, 1, none⟩ = some (.int .u64 (x.fr : Int)) := hXxb.cell 1
    have y2 : xb.cell? ⟨p, 2, none⟩ = some (.int .u64 (x.tt : Int)) := hXxb.cell 2
    have y31 : xb.cell? ⟨p, 31, none⟩ = some (.int .i64 x.what) := hXxb.cell 31
    have y32 : xb.cell? ⟨p, 32, none⟩ = some (.int .u64 (x.a : Int)) := hXxb.cell 32
    have y33 : xb.cell? ⟨p, 33, none⟩ = some (.int .u64 (x.b : Int)) := hXxb.cell 33
    have hth := there_of (o := 58) (n := 5) hBxb (by rw [pk6_size]; decide)
    have hm := mid7 hBxb
    go_upto_region 8 with (refine wpList_store_mid (P := Try.prog) rfl 59 (.tmp 94) (.tmp 93) rfl g3 58 #[.int .u64 (x.a : Int), .int .u64 (x.b : Int), .int .u64 (x.fr : Int), .int .u64 (x.tt : Int), .int .i64 x.what] rfl rfl hth info_resl (by simp [Value.oneCell']) ?_)
    generalize World.setCells xb _ _ _ = xc at hm ⊢
    clear hth
    clear y1 y2 y31 y32 y33
    have hXxc := hXxb.chg hm.2 (fun e => hpg3 e)
    have hYxc := hYxb.chg hm.2 (fun e => hgg3 e)
    have hBxc := hm.1
    have hdxc := hm.2
    have hcxc : Chg Non w0 xc := hcxb.trans hdxc fun k hk e => by have := HG0.out; omega
    replace hAk := hAk.chg hdxc fun k hk e => hk.2 e
    replace hNs := hNs.chg hdxc fun k hk e => hk.2 e
    replace HGS := hide (Nat.le_trans HGS.out hdxc.size)
    replace hA5 := hA5.chg hdxc fun k hk e => hk.2 e
    replace HGA := hide (Nat.le_trans HGA.out hdxc.size)
    clear hm hXxb hYxb hBxb hcxb hdxc
    have y32 : xc.cell? ⟨p, 32, none⟩ = some (.int .u64 (x.a : Int)) := hXxc.cell 32
    have y33 : xc.cell? ⟨p, 33, none⟩ = some (.int .u64 (x.b : Int)) := hXxc.cell 33
    have hth := there_of (o := 63) (n := 2) hBxc (by rw [pk7_size]; decide)
    have hm := mid8 hBxc
    go_upto_region 9 with (refine wpList_store_mid (P := Try.prog) rfl 61 (.tmp 100) (.tmp 99) rfl g3 63 #[.int .u64 (x.a : Int), .int .u64 (x.b : Int)] rfl rfl hth info_hello (by simp [Value.oneCell']) ?_)
    generalize World.setCells xc _ _ _ = xd at hm ⊢
    clear hth
    clear y32 y33
    have hXxd := hXxc.chg hm.2 (fun e => hpg3 e)
    have hYxd := hYxc.chg hm.2 (fun e => hgg3 e)
    have hBxd := hm.1
    have hdxd := hm.2
    have hcxd : Chg Non w0 xd := hcxc.trans hdxd fun k hk e => by have := HG0.out; omega
    replace hAk := hAk.chg hdxd fun k hk e => hk.2 e
    replace hNs := hNs.chg hdxd fun k hk e => hk.2 e
    replace HGS := hide (Nat.le_trans HGS.out hdxd.size)
    replace hA5 := hA5.chg hdxd fun k hk e => hk.2 e
    replace HGA := hide (Nat.le_trans HGA.out hdxd.size)
    clear hm hXxc hYxc hBxc hcxc hdxd
    obtain ⟨ap, hap⟩ : ∃ ap, ap = pkA x o1 o2 n1 n2 n3 (.slice U4 un4 uc4) (.slice U5 un5 uc5) := ⟨_, rfl⟩
    rw [← hap] at hBxd
    have hs : ap.size = 65 := by rw [hap]; rfl
    obtain ⟨E1, E1n, E1c, rfl⟩ : ∃ A m c, o1 = .slice A m c := hAk.one1
    obtain ⟨E2, E2n, E2c, rfl⟩ : ∃ A m c, o2 = .slice A m c := by obtain ⟨A, c, e, _⟩ := hAk.rep.shape; exact ⟨A, _, c, e⟩
    obtain ⟨E3, E3n, E3c, rfl⟩ : ∃ A m c, n1 = .slice A m c := hNs.rows.sl
    obtain ⟨E4, E4n, E4c, rfl⟩ : ∃ A m c, n2 = .slice A m c := by obtain ⟨xs, h1, h2, h3⟩ := hNs.ws; exact rdv_sl h2
    obtain ⟨E5, E5n, E5c, rfl⟩ : ∃ A m c, n3 = .slice A m c := by obtain ⟨A, c, e, _⟩ := hNs.rep.shape; exact ⟨A, _, c, e⟩
    have h1 : ap.all (·.oneCell') = true := by rw [hap]; simp [pkA, Value.oneCell']
    have HAP := hide hap
    clear hap
    go_wp2_with (first | (refine wpList_load_row rfl 63 (.tmp 3) rfl g3 rfl 63 ap (0, 0) _ hBxd Try.underlying63 rfl (by rw [hs]; exact info_pkt) ?_) | (refine wpList_store_pkt rfl (.tmp 2) (.tmp 101) rfl g ap rfl rfl _ hYxd zeroP_size hs h1 fun xe hPe hde => ?_))
    refine bodyPost_ret (res_pkt rfl rfl hPe hs) rfl ?_
    have hz0 := hcxd.size
    have hz1 := hde.size
    have hw := hc0.size
    have hF2 : ∀ k, w0.heap.size ≤ k → ¬ k = g := fun k h e => by have := HPL.out.2; omega
    refine ⟨fun k => w0.heap.size ≤ k ∧ k < xe.heap.size, _, _, _, _, _, _, _, by rw [HAP.out], (hAk.chg hde fun k hk e => hF2 k hk.1.1 e).mono fun k hk => ⟨hk.1.1, by have := hk.1.2; have := HGS.out; omega⟩, (hNs.chg hde fun k hk e => hF2 k hk.1.1 e).mono fun k hk => ⟨hk.1.1, by have := hk.1.2; have := HGS.out; omega⟩, (hA5.chg hde fun k hk e => hF2 k (by have := hk.1.1; have := HZ5.out.2; omega) e).mono fun k hk => ⟨by have := hk.1.1; have := HZ5.out.2; omega, by have := hk.1.2; have := HGA.out; omega⟩, fun k hk => ⟨by omega, hk.2⟩, (hc0.trans0 hcxd).trans hde fun k hk e => by have := HPP.out.2; omega⟩
end Go.Proofs.Ytncchbcoldgpbaa
