/- The walks of slices.Clone of a list of byte lists, and of leaf.twin, of a leaf. -/
import Derived.Test.YtfgecgmgbngeaaaGreatLfDM
import Derived.Lib.SlicesS
set_option maxRecDepth 100000
namespace Go.Proofs.YtfgecgmgbngeaaaGreat
open Go.RowKit
set_option linter.unusedVariables false
set_option linter.unusedSimpArgs false

theorem own_zBB (w : World) : (w.alloc (.cells #[] 30)).ownsRow w.heap.size 30 1 (.slice (some ⟨w.heap.size, 0, none⟩) 0 0) 0 [] :=
  World.ownsRow_lit (size := 1) w #[] 0 (Nat.le_refl _) (by simp [maxLen]) rfl
set_option maxHeartbeats 1000000 in
theorem cloneBB {v : Value} {ll : List (List UInt8)} {F : Nat → Prop} {w : World} (hr : RdBB w F v ll) (hF : ∀ b, F b → b < w.heap.size) (hl : ll.length ≤ 1000000000) :
    Calls Tryz.prog 82 #[v] w fun e w' => ∃ u, e = .returned u ∧ OwnBB w' w.heap.size F u ll ∧ Chg Non w w' := by
  obtain ⟨vs, h1, h2, h3⟩ := hr
  have h1c : ∀ y ∈ vs, y.oneCell' = true := fun y hy => by
    obtain ⟨k, hk, rfl⟩ := List.getElem_of_mem hy
    obtain ⟨A, c, e, _, _⟩ := (h3 k vs[k] ll[k] (List.getElem?_eq_getElem hk) (List.getElem?_eq_getElem (by omega))).shape
    rw [e]; rfl
  obtain ⟨A, c, rfl, hc, hm⟩ := RdV.shape h2
  rcases A with _ | ad
  · have hn0 : ll.length = 0 := by
      by_cases h0 : 0 < ll.length
      · obtain ⟨_, A', c', e, _, _, h4⟩ := h2
        obtain ⟨ad, e2, _⟩ := h4 h0
        injection e with e _ _
        rw [e2] at e; cases e
      · omega
    have hll : ll = [] := List.eq_nil_of_length_eq_zero hn0
    subst hll
    have h0 := Lib.run_eql_slice_nil (P := Tryz.prog)
    go_enter Tryz.func82, Tryz.ntmps82
    go_wp2
    go_ret
    exact ⟨_, rfl, OwnBB.nil_ _ _ _, Chg.refl _ _⟩
  · have h0 := fun w => Lib.run_eql_slice_nil (P := Tryz.prog) w 22 30 (some ad) ll.length c 0 0 Tryz.underlying22
    obtain ⟨i, hi, hz, hs1, hs2⟩ := info_parts info_bb
    obtain ⟨n, hn⟩ : ∃ n, n = ll.length := ⟨_, rfl⟩
    rw [← hn] at h2 h0 hl ⊢
    have HN := hide hn
    clear hn hc hm
    go_enter Tryz.func82, Tryz.ntmps82
    go_wp2_with (at_builtin; refine wpList_append_rd _ rfl _ _ _ rfl w.heap.size 30 i _ 1 24 Tryz.underlying22 hi hz hs1 hs2 rfl (by omega) (.slice (some ⟨w.heap.size, 0, none⟩) 0 0) rfl _ _ (own_zBB w) _ _ rfl _ _ (h2.chg ((Chg.refl Non w).alloc _) (fun _ _ h => h)) h1c (by simp only [maxLen]; omega) (by omega) (by simp) ?_; intro v1 w1 hown1 hg1 _ hat1)
    go_ret
    simp only [Nat.zero_add, List.nil_append] at hown1
    have hc : Chg Non w w1 := ((Chg.refl Non w).alloc _).own hg1 (by simp [Value.ownBlock])
    refine ⟨v1, rfl, ⟨vs, h1, by rw [← HN.out]; exact hown1, fun k x l hx hl => ((h3 k x l hx hl).chg hc fun _ _ h => h).mono fun b hb => ⟨hb, Nat.lt_of_lt_of_le (hF b hb) hc.size, fun e => ?_⟩⟩, hc⟩
    have := (World.ownsRow.lt hown1 b e).1
    have := hF b hb
    omega
theorem cloneNilI (w : World) : Calls Tryz.prog 83 #[.slice none 0 0] w fun e w' => e = .returned (.slice none 0 0) ∧ w' = w := by
  have h0 := Lib.run_eql_slice_nil (P := Tryz.prog)
  go_enter Tryz.func83, Tryz.ntmps83
  go_wp2
  go_ret
  exact ⟨rfl, rfl⟩
/-- two lists of lists side by side; what they hold lies in P -/
structure TwP (w : World) (P : Nat → Prop) (base : Nat) (kv vv : Value) (ks vs : List (List UInt8)) : Prop where
  k : OwnBB w base (fun b => P b ∧ vv.ownBlock ≠ some b) kv ks
  v : OwnBB w base (fun b => P b ∧ kv.ownBlock ≠ some b) vv vs
  ne : ∀ b, kv.ownBlock = some b → vv.ownBlock ≠ some b
theorem OwnBB.at_ {w : World} {base : Nat} {F : Nat → Prop} {v : Value} {ll : List (List UInt8)} (h : OwnBB w base F v ll) {i : Nat} (hi : i < ll.length) :
    ∃ g c x, v = .slice (some ⟨g, 0, none⟩) ll.length c ∧ base ≤ g ∧ g < w.heap.size ∧ w.cell? ⟨g, i, none⟩ = some x ∧ w.frozen? ⟨g, i, none⟩ = false ∧ RdB w (fun b => F b ∧ b < w.heap.size ∧ v.ownBlock ≠ some b) x ll[i] := by
  obtain ⟨vs, h1, h2, h3⟩ := h
  rcases h2.2 with ⟨_, hz⟩ | ⟨g, cap, cur, rfl, hb, hg, r1, r2, r3, r4⟩
  · omega
  · have hx := World.ownsRow.cellAt h2 i (by omega)
    rw [List.getElem?_eq_getElem (by omega)] at hx
    exact ⟨g, cap, vs[i], rfl, hb, (Array.getElem?_eq_some_iff.1 hg).1, hx, (show Blk w g 30 cur from hg).frozen i, h3 i _ _ (List.getElem?_eq_getElem (by omega)) (List.getElem?_eq_getElem hi)⟩
theorem OwnBB.atG {w : World} {base g n c : Nat} {F : Nat → Prop} {ll : List (List UInt8)} (h : OwnBB w base F (.slice (some ⟨g, 0, none⟩) n c) ll) {i : Nat} (hi : i < ll.length) :
    ∃ x, w.cell? ⟨g, i, none⟩ = some x ∧ w.frozen? ⟨g, i, none⟩ = false := by
  obtain ⟨g', c', x, ev, _, _, hx, hfz, _⟩ := h.at_ hi
  injection ev with ev1 _ _
  injection ev1 with ev1
  injection ev1 with ev1 _ _
  subst ev1
  exact ⟨x, hx, hfz⟩
/-- an element is replaced by another that reads alike -/
theorem OwnBB.put {w : World} {base g n c i : Nat} {F : Nat → Prop} {ll : List (List UInt8)} (h : OwnBB w base F (.slice (some ⟨g, 0, none⟩) n c) ll) (hi : i < ll.length) {u : Value} (hu : RdB w (fun b => F b ∧ b < w.heap.size ∧ b ≠ g) u ll[i]) :
    OwnBB (w.setCell ⟨g, i, none⟩ u) base F (.slice (some ⟨g, 0, none⟩) n c) ll ∧ Chg (fun k => k = g) w (w.setCell ⟨g, i, none⟩ u) := by
  have hc : Chg (fun k => k = g) w (w.setCell ⟨g, i, none⟩ u) := Chg.setCell (p := ⟨g, i, none⟩) (Chg.refl (fun k => k = g) w) (fun _ => rfl) _
  obtain ⟨vs, h1, h2, h3⟩ := h
  have en : n = ll.length := by obtain ⟨A', c', e, _, _⟩ := (RdV.of_own h2).shape; injection e
  subst en
  refine ⟨⟨vs.set i u, by rw [List.length_set]; exact h1, (World.ownsRow.stored h2 i u).1, fun k x l hx hl => ?_⟩, hc⟩
  have key : ∀ {y : Value} {m : List UInt8}, RdB w (fun b => F b ∧ b < w.heap.size ∧ b ≠ g) y m → RdB (w.setCell ⟨g, i, none⟩ u) (fun b => F b ∧ b < (w.setCell ⟨g, i, none⟩ u).heap.size ∧ (Value.slice (some ⟨g, 0, none⟩) ll.length c).ownBlock ≠ some b) y m := fun hy =>
    (hy.chg hc fun b hb e => hb.2.2 e).mono fun b hb => ⟨hb.1, Nat.lt_of_lt_of_le hb.2.1 hc.size, fun e => hb.2.2 (by simp [Value.ownBlock] at e; exact e.symm)⟩
  rw [List.getElem?_set] at hx
  by_cases e : i = k
  · subst e
    rw [if_pos rfl] at hx
    split at hx
    · injection hx with hx
      subst hx
      rw [List.getElem?_eq_getElem hi] at hl
      injection hl with hl
      subst hl
      exact key hu
    · cases hx
  · rw [if_neg e] at hx
    exact key ((h3 k x l hx hl).mono fun b hb => ⟨hb.1, hb.2.1, fun e => hb.2.2 (by simp [Value.ownBlock, e])⟩)
section
variable {w w' : World} {P : Nat → Prop} {base : Nat} {kv vv : Value} {ks vs : List (List UInt8)} {S : Nat → Prop}
theorem TwP.c0 (h : TwP w P base kv vv ks vs) (hc : Chg Non w w') : TwP w' P base kv vv ks vs := ⟨h.k.c0 hc, h.v.c0 hc, h.ne⟩
theorem TwP.chg (h : TwP w P base kv vv ks vs) (hc : Chg S w w') (hb : ∀ b, base ≤ b → ¬ S b) (hP : ∀ b, P b → ¬ S b) : TwP w' P base kv vv ks vs :=
  ⟨h.k.chg hc (fun b e => hb b (h.k.lt b e).1) fun b hb => hP b hb.1, h.v.chg hc (fun b e => hb b (h.v.lt b e).1) fun b hb => hP b hb.1, h.ne⟩
theorem TwP.setK {g n c i : Nat} (h : TwP w P base (.slice (some ⟨g, 0, none⟩) n c) vv ks vs) (hi : i < ks.length) {w1 : World} (hn : TwP w1 P base (.slice (some ⟨g, 0, none⟩) n c) vv ks vs) {u : Value} (hu : OwnB w w1.heap.size u ks[i]) (hP : ∀ b, w1.heap.size ≤ b → P b) :
    TwP (w.setCell ⟨g, i, none⟩ u) P base (.slice (some ⟨g, 0, none⟩) n c) vv ks vs ∧ Chg (fun k => k = g) w (w.setCell ⟨g, i, none⟩ u) := by
  have hgl := (hn.k.lt g rfl).2
  obtain ⟨h1, h2⟩ := h.k.put hi (hu.rd.mono fun b hb => by
    have h3 := hu.lt b hb
    exact ⟨⟨hP b h3.1, fun e => by have := (hn.v.lt b e).2; omega⟩, h3.2, by omega⟩)
  refine ⟨⟨h1, h.v.chg h2 (fun b e e2 => ?_) fun b hb e2 => hb.2 (by simp [Value.ownBlock, e2]), h.ne⟩, h2⟩
  have e2 : b = g := e2
  subst e2
  exact h.ne b rfl e
theorem TwP.setV {g n c i : Nat} (h : TwP w P base kv (.slice (some ⟨g, 0, none⟩) n c) ks vs) (hi : i < vs.length) {w1 : World} (hn : TwP w1 P base kv (.slice (some ⟨g, 0, none⟩) n c) ks vs) {u : Value} (hu : OwnB w w1.heap.size u vs[i]) (hP : ∀ b, w1.heap.size ≤ b → P b) :
    TwP (w.setCell ⟨g, i, none⟩ u) P base kv (.slice (some ⟨g, 0, none⟩) n c) ks vs ∧ Chg (fun k => k = g) w (w.setCell ⟨g, i, none⟩ u) := by
  have hgl := (hn.v.lt g rfl).2
  obtain ⟨h1, h2⟩ := h.v.put hi (hu.rd.mono fun b hb => by
    have h3 := hu.lt b hb
    exact ⟨⟨hP b h3.1, fun e => by have := (hn.k.lt b e).2; omega⟩, h3.2, by omega⟩)
  refine ⟨⟨h.k.chg h2 (fun b e e2 => ?_) fun b hb e2 => hb.2 (by simp [Value.ownBlock, e2]), h1, h.ne⟩, h2⟩
  have e2 : b = g := e2
  subst e2
  exact h.ne b e rfl
end
set_option maxHeartbeats 8000000 in
theorem lfTwin {w : World} {F : Nat → Prop} {KA VA : Option Addr} {kn kc vn vc : Nat} {ks vs : List (List UInt8)} (hk0 : RdBB w F (.slice KA kn kc) ks) (hv0 : RdBB w F (.slice VA vn vc) vs) (hkl : ks.length ≤ 1000000) (hvl : vs.length ≤ 1000000) (hel : (∀ x ∈ ks, x.length ≤ 1000000) ∧ ∀ x ∈ vs, x.length ≤ 1000000) :
    Calls Tryz.prog 47 #[.agg #[.bool true, .slice KA kn kc, .slice VA vn vc, .slice none 0 0]] w fun e w' => ∃ kA kn' kc' vA vn' vc', e = .returned (.agg #[.bool true, .slice kA kn' kc', .slice vA vn' vc', .slice none 0 0]) ∧ RdBB w' (fun b => (F b ∨ w.heap.size ≤ b) ∧ b < w'.heap.size) (.slice kA kn' kc') ks ∧ RdBB w' (fun b => (F b ∨ w.heap.size ≤ b) ∧ b < w'.heap.size) (.slice vA vn' vc') vs ∧ Chg Non w w' := by
  have hk : RdBB w (fun b => F b ∧ b < w.heap.size) (.slice KA kn kc) ks := hk0.lt
  have hv : RdBB w (fun b => F b ∧ b < w.heap.size) (.slice VA vn vc) vs := hv0.lt
  clear hk0 hv0
  have hr := Blk.new (w.alloc (.cells #[.bool true, .slice KA kn kc, .slice VA vn vc, .slice none 0 0] 65)) 65 #[.bool false, .slice none 0 0, .slice none 0 0, .slice none 0 0]
  have hb := Blk.new w 65 #[.bool true, .slice KA kn kc, .slice VA vn vc, .slice none 0 0]
  have hcb := (Chg.refl Non w).alloc (.cells #[.bool true, .slice KA kn kc, .slice VA vn vc, .slice none 0 0] 65)
  have hna : (w.alloc (.cells #[.bool true, .slice KA kn kc, .slice VA vn vc, .slice none 0 0] 65)).heap.size = w.heap.size + 1 := Array.size_push ..
  have hcr := (Chg.refl Non (w.alloc (.cells #[.bool true, .slice KA kn kc, .slice VA vn vc, .slice none 0 0] 65))).alloc (.cells #[.bool false, .slice none 0 0, .slice none 0 0, .slice none 0 0] 65)
  have hnr : ((w.alloc (.cells #[.bool true, .slice KA kn kc, .slice VA vn vc, .slice none 0 0] 65)).alloc (.cells #[.bool false, .slice none 0 0, .slice none 0 0, .slice none 0 0] 65)).heap.size = (w.alloc (.cells #[.bool true, .slice KA kn kc, .slice VA vn vc, .slice none 0 0] 65)).heap.size + 1 := Array.size_push ..
  rw [hna] at hr hnr
  go_enter Tryz.func47, Tryz.ntmps47
  go_upto_region 1 with fail
  obtain ⟨N, hN⟩ : ∃ N, N = w.heap.size := ⟨_, rfl⟩
  have hc02 := hcb.trans0 hcr
  have hb2 := hb.c0 hcr
  have hk2 := hk.c0 hc02
  have hv2 := hv.c0 hc02
  rw [← hN] at hb2 hr hnr hk2 hv2 ⊢
  have HNN := hide hN
  clear hb hcb hna hcr hN hk hv
  generalize World.alloc (World.alloc w _) _ = w2 at hb2 hr hnr hk2 hv2 hc02 ⊢
  have HC02 := hide hc02
  have HR := hide hr
  have HK := hide hk2
  have HV := hide hv2
  have HB := hide hb2
  have HNR := hide hnr
  clear hb2 hr hnr hk2 hv2 hc02
  go_cut [] from 7 to 19 (fun wx => ∃ KB kbn kbc VB vbn vbc, TwP wx (fun b => (F b ∧ b < N) ∨ N + 2 ≤ b) w2.heap.size (.slice KB kbn kbc) (.slice VB vbn vbc) ks vs ∧ Blk wx N 65 #[.bool true, .slice KB kbn kbc, .slice VB vbn vbc, .slice none 0 0] ∧ Chg (fun k => k = N) w2 wx)
  case first =>
    refine wp_region_T (fun wx => Blk wx N 65 #[.bool true, .slice KA kn kc, .slice VA vn vc, .slice none 0 0]) 10 (by kernel_rfl) ?_
    have HB0 : Hid (Blk w2.drew N 65 #[.bool true, .slice KA kn kc, .slice VA vn vc, .slice none 0 0]) := hide (HB.out.c0 ((Chg.refl Non w2).drew))
    have HW0 := hide ((Chg.refl Non w2).drew)
    generalize World.drew w2 = x0 at HB0 HW0 ⊢
    refine AnyT.take (i := 0) (v := ?_) rfl (by kernel_rfl) (by kernel_rfl) (fun _ _ _ h => h) (by kernel_rfl) (by kernel_rfl) (Or.inl ⟨by rfl, ?_⟩) HB0.out ?_
    rotate_left
    · (intro w9 h9; go_simp; try with_reducible rfl)
    try simp only [List.getElem_toArray, List.getElem_cons_succ, List.getElem_cons_zero, Act.put, List.setIfInBounds_toArray, List.set_cons_zero, List.set_cons_succ]
    refine AnyT.take (i := 1) (v := ?_) rfl (by kernel_rfl) (by kernel_rfl) (fun _ _ _ h => h) (by kernel_rfl) (by kernel_rfl) (Or.inl ⟨by rfl, ?_⟩) HB0.out ?_
    rotate_left
    · (intro w9 h9; have y1 : w9.cell? ⟨N, 1, none⟩ = some (.slice KA kn kc) := h9.cell 1; go_simp; try with_reducible rfl)
    try simp only [List.getElem_toArray, List.getElem_cons_succ, List.getElem_cons_zero, Act.put, List.setIfInBounds_toArray, List.set_cons_zero, List.set_cons_succ]
    refine AnyT.take (i := 3) (v := ?_) rfl (by kernel_rfl) (by kernel_rfl) (fun _ _ _ h => h) (by kernel_rfl) (by kernel_rfl) (Or.inl ⟨by rfl, ?_⟩) HB0.out ?_
    rotate_left
    · (intro w9 h9; go_simp; try with_reducible rfl)
    try simp only [List.getElem_toArray, List.getElem_cons_succ, List.getElem_cons_zero, Act.put, List.setIfInBounds_toArray, List.set_cons_zero, List.set_cons_succ]
    refine AnyT.take (i := 4) (v := ?_) rfl (by kernel_rfl) (by kernel_rfl) (fun _ _ _ h => h) (by kernel_rfl) (by kernel_rfl) (Or.inl ⟨by rfl, ?_⟩) HB0.out ?_
    rotate_left
    · (intro w9 h9; have y1 : w9.cell? ⟨N, 2, none⟩ = some (.slice VA vn vc) := h9.cell 2; go_simp; try with_reducible rfl)
    try simp only [List.getElem_toArray, List.getElem_cons_succ, List.getElem_cons_zero, Act.put, List.setIfInBounds_toArray, List.set_cons_zero, List.set_cons_succ]
    refine AnyT.take (i := 6) (v := ?_) rfl (by kernel_rfl) (by kernel_rfl) (fun _ _ _ h => h) (by kernel_rfl) (by kernel_rfl) (Or.inl ⟨by rfl, ?_⟩) HB0.out ?_
    rotate_left
    · (intro w9 h9; go_simp; try with_reducible rfl)
    try simp only [List.getElem_toArray, List.getElem_cons_succ, List.getElem_cons_zero, Act.put, List.setIfInBounds_toArray, List.set_cons_zero, List.set_cons_succ]
    refine AnyT.take (i := 7) (v := ?_) rfl (by kernel_rfl) (by kernel_rfl) (fun _ _ _ h => h) (by kernel_rfl) (by kernel_rfl) (Or.inl ⟨by rfl, ?_⟩) HB0.out ?_
    rotate_left
    · (intro w9 h9; have y1 : w9.cell? ⟨N, 3, none⟩ = some (.slice none 0 0) := h9.cell 3; go_simp; try with_reducible rfl)
    try simp only [List.getElem_toArray, List.getElem_cons_succ, List.getElem_cons_zero, Act.put, List.setIfInBounds_toArray, List.set_cons_zero, List.set_cons_succ]
    refine AnyT.one (i := 2) (by kernel_rfl) rfl (fun K hK => ?_)
    rw [if_pos (by rfl)]
    try simp only [List.getElem_toArray, List.getElem_cons_succ, List.getElem_cons_zero, Act.put, List.setIfInBounds_toArray, List.set_cons_zero, List.set_cons_succ]
    have hcl := cloneBB (HK.out.c0 HW0.out) (fun b hb => by have := HW0.out.size; have := hb.2; have := HNN.out; have := HNR.out; omega) (by omega)
    go_wp2_with (go_at_call 82; refine hcl.mono ?_; rintro e x1 ⟨u1, rfl, hu1, hd1⟩)
    obtain ⟨KB, kbn, kbc, rfl⟩ := hu1.shapeH
    have HB1 := hide (HB0.out.c0 hd1)
    have HW1 := hide (HW0.out.trans0 hd1)
    have HU1 := hide hu1
    have n1 := hd1.size
    have n0 := HW0.out.size
    have hb1 := hide (show ∀ b, Value.ownBlock (.slice KB kbn kbc) = some b → w2.heap.size ≤ b ∧ b < x1.heap.size from fun b e => by have := hu1.lt b e; omega)
    refine hK.out _ _ (fun _ => HB1.out) ?_
    clear hcl hd1 hu1 HB0
    clear hK K
    try simp only [List.getElem_toArray, List.getElem_cons_succ, List.getElem_cons_zero, Act.put, List.setIfInBounds_toArray, List.set_cons_zero, List.set_cons_succ]
    refine AnyT.take (i := 9) (v := ?_) rfl (by kernel_rfl) (by kernel_rfl) (fun _ _ _ h => h) (by kernel_rfl) (by kernel_rfl) (Or.inl ⟨by rfl, ?_⟩) HB1.out ?_
    rotate_left
    · (intro w9 h9; go_simp; try with_reducible rfl)
    try simp only [List.getElem_toArray, List.getElem_cons_succ, List.getElem_cons_zero, Act.put, List.setIfInBounds_toArray, List.set_cons_zero, List.set_cons_succ]
    refine AnyT.one (i := 5) (by kernel_rfl) rfl (fun K hK => ?_)
    rw [if_pos (by rfl)]
    try simp only [List.getElem_toArray, List.getElem_cons_succ, List.getElem_cons_zero, Act.put, List.setIfInBounds_toArray, List.set_cons_zero, List.set_cons_succ]
    have hcl := cloneBB (HV.out.c0 HW1.out) (fun b hb => by have := HW1.out.size; have := hb.2; have := HNN.out; have := HNR.out; omega) (by omega)
    go_wp2_with (go_at_call 82; refine hcl.mono ?_; rintro e x2 ⟨u2, rfl, hu2, hd2⟩)
    obtain ⟨VB, vbn, vbc, rfl⟩ := hu2.shapeH
    have HB2 := hide (HB1.out.c0 hd2)
    have HW2 := hide (HW1.out.trans0 hd2)
    have HU2 := hide hu2
    replace HU1 := hide (HU1.out.c0 hd2)
    have n2 := hd2.size
    have hNN := HNN.out
    have hNR := HNR.out
    have HT2 : Hid (TwP x2 (fun b => (F b ∧ b < N) ∨ N + 2 ≤ b) w2.heap.size (.slice KB kbn kbc) (.slice VB vbn vbc) ks vs) := hide ⟨(HU1.out.low n0).mono fun b hb => ⟨.inl ⟨hb.1, by omega⟩, fun e => by have := HU2.out.lt b e; omega⟩, (HU2.out.low (by omega)).mono fun b hb => ⟨.inl ⟨hb.1, by omega⟩, fun e => by have := hb1.out b e; omega⟩, fun b e e2 => by have := hb1.out b e; have := HU2.out.lt b e2; omega⟩
    clear hb1 hNN hNR
    refine hK.out _ _ (fun _ => HB2.out) ?_
    clear hcl hd2 hu2 HB1 HU1 HU2
    clear hK K
    try simp only [List.getElem_toArray, List.getElem_cons_succ, List.getElem_cons_zero, Act.put, List.setIfInBounds_toArray, List.set_cons_zero, List.set_cons_succ]
    refine AnyT.one (i := 8) (by kernel_rfl) rfl (fun K hK => ?_)
    rw [if_pos (by rfl)]
    try simp only [List.getElem_toArray, List.getElem_cons_succ, List.getElem_cons_zero, Act.put, List.setIfInBounds_toArray, List.set_cons_zero, List.set_cons_succ]
    have hcl := cloneNilI x2
    go_wp2_with (go_at_call 83; refine hcl.mono ?_; rintro e x3 ⟨rfl, hx3⟩; subst x3)
    have HB3 := HB2
    refine hK.out _ _ (fun _ => HB3.out) ?_
    clear hcl HB2
    clear hK K
    try simp only [List.getElem_toArray, List.getElem_cons_succ, List.getElem_cons_zero, Act.put, List.setIfInBounds_toArray, List.set_cons_zero, List.set_cons_succ]
    refine AnyT.one (i := 10) (by kernel_rfl) rfl (fun K hK => ?_)
    rw [if_pos (by rfl)]
    try simp only [List.getElem_toArray, List.getElem_cons_succ, List.getElem_cons_zero, Act.put, List.setIfInBounds_toArray, List.set_cons_zero, List.set_cons_succ]
    have y1 : x2.cell? ⟨N, 1, none⟩ = some (.slice KA kn kc) := HB3.out.cell 1
    have fz1 := HB3.out.frozen 1
    have hb6 := HB3.out.set_ 1 (.slice KB kbn kbc)
    simp at hb6
    have hd6 : Chg (fun k => k = N) x2 (x2.setCell ⟨N, 1, none⟩ (.slice KB kbn kbc)) := Chg.setCell (p := ⟨N, 1, none⟩) (Chg.refl (fun k => k = N) x2) (fun _ => rfl) _
    have HBz1 := hide hb6
    have HTz1 := hide (HT2.out.chg hd6 (fun b hb e => by have e : b = N := e; have := HNR.out; omega) fun b hb e => by have e : b = N := e; omega)
    have HWz1 := hide ((HW2.out.mono (S' := fun k => k = N) (by first | exact fun _ _ h => h.elim | exact fun _ _ h => h)).trans hd6 fun b hb e => e)
    go_simp
    refine hK.out _ _ (fun h => absurd h (by decide)) ?_
    clear hb6 hd6 y1 fz1 HB3 HT2 HW2
    generalize World.setCell x2 _ _ = z1 at HBz1 HTz1 HWz1 ⊢
    clear hK K
    try simp only [List.getElem_toArray, List.getElem_cons_succ, List.getElem_cons_zero, Act.put, List.setIfInBounds_toArray, List.set_cons_zero, List.set_cons_succ]
    refine AnyT.takeL (i := 11) (v := ?_) rfl (by kernel_rfl) (by kernel_rfl) (fun _ _ _ h => h) (by kernel_rfl) (by kernel_rfl) (Or.inl ⟨by rfl, ?_⟩) ?_
    rotate_left
    · (intro w9; go_simp; try with_reducible rfl)
    try simp only [List.getElem_toArray, List.getElem_cons_succ, List.getElem_cons_zero, Act.put, List.setIfInBounds_toArray, List.set_cons_zero, List.set_cons_succ]
    refine AnyT.one (i := 12) (by kernel_rfl) rfl (fun K hK => ?_)
    rw [if_pos (by rfl)]
    try simp only [List.getElem_toArray, List.getElem_cons_succ, List.getElem_cons_zero, Act.put, List.setIfInBounds_toArray, List.set_cons_zero, List.set_cons_succ]
    have y1 : z1.cell? ⟨N, 2, none⟩ = some (.slice VA vn vc) := HBz1.out.cell 2
    have fz1 := HBz1.out.frozen 2
    have hb6 := HBz1.out.set_ 2 (.slice VB vbn vbc)
    simp at hb6
    have hd6 : Chg (fun k => k = N) z1 (z1.setCell ⟨N, 2, none⟩ (.slice VB vbn vbc)) := Chg.setCell (p := ⟨N, 2, none⟩) (Chg.refl (fun k => k = N) z1) (fun _ => rfl) _
    have HBz2 := hide hb6
    have HTz2 := hide (HTz1.out.chg hd6 (fun b hb e => by have e : b = N := e; have := HNR.out; omega) fun b hb e => by have e : b = N := e; omega)
    have HWz2 := hide ((HWz1.out.mono (S' := fun k => k = N) (by first | exact fun _ _ h => h.elim | exact fun _ _ h => h)).trans hd6 fun b hb e => e)
    go_simp
    refine hK.out _ _ (fun h => absurd h (by decide)) ?_
    clear hb6 hd6 y1 fz1 HBz1 HTz1 HWz1
    generalize World.setCell z1 _ _ = z2 at HBz2 HTz2 HWz2 ⊢
    clear hK K
    try simp only [List.getElem_toArray, List.getElem_cons_succ, List.getElem_cons_zero, Act.put, List.setIfInBounds_toArray, List.set_cons_zero, List.set_cons_succ]
    refine AnyT.takeL (i := 13) (v := ?_) rfl (by kernel_rfl) (by kernel_rfl) (fun _ _ _ h => h) (by kernel_rfl) (by kernel_rfl) (Or.inl ⟨by rfl, ?_⟩) ?_
    rotate_left
    · (intro w9; go_simp; try with_reducible rfl)
    try simp only [List.getElem_toArray, List.getElem_cons_succ, List.getElem_cons_zero, Act.put, List.setIfInBounds_toArray, List.set_cons_zero, List.set_cons_succ]
    refine AnyT.one (i := 14) (by kernel_rfl) rfl (fun K hK => ?_)
    rw [if_pos (by rfl)]
    try simp only [List.getElem_toArray, List.getElem_cons_succ, List.getElem_cons_zero, Act.put, List.setIfInBounds_toArray, List.set_cons_zero, List.set_cons_succ]
    have y1 : z2.cell? ⟨N, 3, none⟩ = some (.slice none 0 0) := HBz2.out.cell 3
    have fz1 := HBz2.out.frozen 3
    have hb6 := HBz2.out.set_ 3 (.slice none 0 0)
    simp at hb6
    have hd6 : Chg (fun k => k = N) z2 (z2.setCell ⟨N, 3, none⟩ (.slice none 0 0)) := Chg.setCell (p := ⟨N, 3, none⟩) (Chg.refl (fun k => k = N) z2) (fun _ => rfl) _
    have HBz3 := hide hb6
    have HTz3 := hide (HTz2.out.chg hd6 (fun b hb e => by have e : b = N := e; have := HNR.out; omega) fun b hb e => by have e : b = N := e; omega)
    have HWz3 := hide ((HWz2.out.mono (S' := fun k => k = N) (by first | exact fun _ _ h => h.elim | exact fun _ _ h => h)).trans hd6 fun b hb e => e)
    go_simp
    refine hK.out _ _ (fun h => absurd h (by decide)) ?_
    clear hb6 hd6 y1 fz1 HBz2 HTz2 HWz2
    generalize World.setCell z2 _ _ = z3 at HBz3 HTz3 HWz3 ⊢
    clear hK K
    try simp only [List.getElem_toArray, List.getElem_cons_succ, List.getElem_cons_zero, Act.put, List.setIfInBounds_toArray, List.set_cons_zero, List.set_cons_succ]
    refine AnyT.nil (by kernel_rfl) ?_
    go_wp2_with fail
    go_meet
    exact ⟨KB, kbn, kbc, VB, vbn, vbc, HTz3.out, HBz3.out, HWz3.out⟩
  case rest =>
    obtain ⟨KB, kbn, kbc, VB, vbn, vbc, hT3, hB3, hc3⟩ := hcut
    obtain ⟨w3, rfl⟩ : ∃ w', w' = wc := ⟨_, rfl⟩
    have n3 := hc3.size
    have eK : kbn = ks.length := by obtain ⟨_, _, e, _⟩ := hT3.k.shape; injection e
    have eV : vbn = vs.length := by obtain ⟨_, _, e, _⟩ := hT3.v.shape; injection e
    subst eK
    subst eV
    have b1 : w3.cell? ⟨N, 1, none⟩ = some (.slice KB ks.length kbc) := hB3.cell 1
    have HT3 := hide hT3
    have HB3 := hide hB3
    have HC3 := hide hc3
    have hnr := HNR.out
    clear hT3 hB3 hc3
    go_wp2_with fail
    go_loopw [22] (fun iv wr => ∃ i : Nat, i ≤ ks.length ∧ iv = .int .i64 (i : Int) ∧ TwP wr (fun b => (F b ∧ b < N) ∨ N + 2 ≤ b) w2.heap.size (.slice KB ks.length kbc) (.slice VB vs.length vbc) ks vs ∧ Blk wr N 65 #[.bool true, .slice KB ks.length kbc, .slice VB vs.length vbc, .slice none 0 0] ∧ Chg (fun k => w2.heap.size ≤ k) w3 wr) (fun iv _ => ks.length - (intOf iv).toNat)
    case atStart => exact ⟨0, Nat.zero_le _, rfl, HT3.out, HB3.out, Chg.refl _ _⟩
    case round =>
      obtain ⟨i, hi, rfl, hT, hB, hcw⟩ := hrel
      by_cases hil : i < ks.length
      · obtain ⟨g, c, x, ev, hg1, hg2, hx, hfz, hrx⟩ := hT.k.at_ hil
        injection ev with ev1 _ ev2
        subst ev1
        subst ev2
        obtain ⟨xA, xc, rfl, _, _⟩ := hrx.shape
        have hxl := hel.1 _ (List.getElem_mem hil)
        obtain ⟨xs, hxs⟩ : ∃ xs, xs = ks[i] := ⟨_, rfl⟩
        rw [← hxs] at hrx hxl hx
        have HXS := hide hxs
        have HIL := hide hil
        have HT := hide hT
        have HB := hide hB
        have HW := hide hcw
        have nw := hcw.size
        have b1r : wr.cell? ⟨N, 1, none⟩ = some (.slice (some ⟨g, 0, none⟩) ks.length kbc) := hB.cell 1
        clear b1 hT hB hcw hxs hi
        go_upto_region 5 with fail
        refine wp_region_T (fun wx => Blk wx N 65 #[.bool true, .slice (some ⟨g, 0, none⟩) ks.length kbc, .slice VB vs.length vbc, .slice none 0 0]) 6 (by kernel_rfl) ?_
        have HB0 : Hid (Blk wr.drew N 65 #[.bool true, .slice (some ⟨g, 0, none⟩) ks.length kbc, .slice VB vs.length vbc, .slice none 0 0]) := hide (HB.out.c0 ((Chg.refl Non wr).drew))
        have HT0 : Hid (TwP wr.drew (fun b => (F b ∧ b < N) ∨ N + 2 ≤ b) w2.heap.size (.slice (some ⟨g, 0, none⟩) ks.length kbc) (.slice VB vs.length vbc) ks vs) := hide (HT.out.c0 ((Chg.refl Non wr).drew))
        have HW0 := hide HW.out.drew
        have hrx0 := hrx.dr
        clear HB HT HW hrx b1r hx hfz nw
        generalize World.drew wr = x0 at HB0 HT0 HW0 hrx0 ⊢
        refine AnyT.take (i := 0) (v := ?_) rfl (by kernel_rfl) (by kernel_rfl) (fun _ _ _ h => h) (by kernel_rfl) (by kernel_rfl) (Or.inl ⟨by rfl, ?_⟩) HB0.out ?_
        rotate_left
        · (intro w9 h9; go_simp; try with_reducible rfl)
        try simp only [List.getElem_toArray, List.getElem_cons_succ, List.getElem_cons_zero, Act.put, List.setIfInBounds_toArray, List.set_cons_zero, List.set_cons_succ]
        refine AnyT.take (i := 1) (v := ?_) rfl (by kernel_rfl) (by kernel_rfl) (fun _ _ _ h => h) (by kernel_rfl) (by kernel_rfl) (Or.inl ⟨by rfl, ?_⟩) HB0.out ?_
        rotate_left
        · (intro w9 h9; have y1 : w9.cell? ⟨N, 1, none⟩ = some (.slice (some ⟨g, 0, none⟩) ks.length kbc) := h9.cell 1; go_simp; try with_reducible rfl)
        try simp only [List.getElem_toArray, List.getElem_cons_succ, List.getElem_cons_zero, Act.put, List.setIfInBounds_toArray, List.set_cons_zero, List.set_cons_succ]
        refine AnyT.take (i := 2) (v := ?_) rfl (by kernel_rfl) (by kernel_rfl) (fun _ _ _ h => h) (by kernel_rfl) (by kernel_rfl) (Or.inl ⟨by rfl, ?_⟩) HB0.out ?_
        rotate_left
        · (intro w9 h9; go_simp; try with_reducible rfl)
        try simp only [List.getElem_toArray, List.getElem_cons_succ, List.getElem_cons_zero, Act.put, List.setIfInBounds_toArray, List.set_cons_zero, List.set_cons_succ]
        refine AnyT.take (i := 3) (v := ?_) rfl (by kernel_rfl) (by kernel_rfl) (fun _ _ _ h => h) (by kernel_rfl) (by kernel_rfl) (Or.inl ⟨by rfl, ?_⟩) HB0.out ?_
        rotate_left
        · (intro w9 h9; go_simp; try with_reducible rfl)
        try simp only [List.getElem_toArray, List.getElem_cons_succ, List.getElem_cons_zero, Act.put, List.setIfInBounds_toArray, List.set_cons_zero, List.set_cons_succ]
        refine AnyT.one (i := 4) (by kernel_rfl) rfl (fun K hK => ?_)
        rw [if_pos (by rfl)]
        try simp only [List.getElem_toArray, List.getElem_cons_succ, List.getElem_cons_zero, Act.put, List.setIfInBounds_toArray, List.set_cons_zero, List.set_cons_succ]
        have hcl := bytesClone hrx0 (by omega)
        go_wp2_with (go_at_call 40; refine hcl.mono ?_; rintro e x1 ⟨u, rfl, hu, hd1⟩)
        obtain ⟨UA, un, uc, rfl⟩ := hu.shapeH
        have HB1 := hide (HB0.out.c0 hd1)
        have HT1 := hide (HT0.out.c0 hd1)
        have HW1 := hide (HW0.out.trans0 hd1)
        have n1 := hd1.size
        have n0 := HW0.out.size
        refine hK.out _ _ (fun _ => HB1.out) ?_
        clear hcl hd1 HB0 HW0 hrx0
        clear hK K
        try simp only [List.getElem_toArray, List.getElem_cons_succ, List.getElem_cons_zero, Act.put, List.setIfInBounds_toArray, List.set_cons_zero, List.set_cons_succ]
        refine AnyT.take (i := 5) (v := ?_) rfl (by kernel_rfl) (by kernel_rfl) (fun _ _ _ h => h) (by kernel_rfl) (by kernel_rfl) (Or.inl ⟨by rfl, ?_⟩) HB1.out ?_
        rotate_left
        · (intro w9 h9; have y1 := HIL.out; go_simp; try with_reducible rfl)
        try simp only [List.getElem_toArray, List.getElem_cons_succ, List.getElem_cons_zero, Act.put, List.setIfInBounds_toArray, List.set_cons_zero, List.set_cons_succ]
        refine AnyT.one (i := 6) (by kernel_rfl) rfl (fun K hK => ?_)
        rw [if_pos (by rfl)]
        try simp only [List.getElem_toArray, List.getElem_cons_succ, List.getElem_cons_zero, Act.put, List.setIfInBounds_toArray, List.set_cons_zero, List.set_cons_succ]
        obtain ⟨x', hx', hfz'⟩ := HT1.out.k.atG HIL.out
        rw [HXS.out] at hu
        obtain ⟨hT6, hd6⟩ := HT1.out.setK HIL.out HT0.out hu (fun b hb => .inr (by have := HNR.out; have := HW1.out.size; omega))
        have hB6 := HB1.out.chg hd6 (show ¬ N = g by have := HNR.out; omega)
        have HT6 := hide hT6
        have HB6 := hide hB6
        have HW6 := hide (HW1.out.trans hd6 fun b hb e => by have e : b = g := e; omega)
        go_simp
        refine hK.out _ _ (fun h => absurd h (by decide)) ?_
        clear hT6 hd6 hB6 hx' hfz' HT1 HB1 HT0 HW1 hu
        generalize World.setCell x1 _ _ = x6 at HT6 HB6 HW6 ⊢
        clear hK K
        try simp only [List.getElem_toArray, List.getElem_cons_succ, List.getElem_cons_zero, Act.put, List.setIfInBounds_toArray, List.set_cons_zero, List.set_cons_succ]
        refine AnyT.nil (by kernel_rfl) ?_
        go_wp2_with fail
        go_roundw
        case rel => exact ⟨i + 1, HIL.out, by go_num, HT6.out, HB6.out, HW6.out⟩
        case measure => (have := HIL.out; simp [intOf]; omega)
      · have hik : i = ks.length := by omega
        subst hik
        have b2 : wr.cell? ⟨N, 2, none⟩ = some (.slice VB vs.length vbc) := hB.cell 2
        have HT := hide hT
        have HB := hide hB
        have HW := hide hcw
        obtain ⟨w4, rfl⟩ : ∃ w', w' = wr := ⟨_, rfl⟩
        have n4 := hcw.size
        clear hT hB hcw hi b1
        go_wp2_with fail
        go_loopw [37] (fun iv wr => ∃ i : Nat, i ≤ vs.length ∧ iv = .int .i64 (i : Int) ∧ TwP wr (fun b => (F b ∧ b < N) ∨ N + 2 ≤ b) w2.heap.size (.slice KB ks.length kbc) (.slice VB vs.length vbc) ks vs ∧ Blk wr N 65 #[.bool true, .slice KB ks.length kbc, .slice VB vs.length vbc, .slice none 0 0] ∧ Chg (fun k => w2.heap.size ≤ k) w4 wr) (fun iv _ => vs.length - (intOf iv).toNat)
        case atStart => exact ⟨0, Nat.zero_le _, rfl, HT.out, HB.out, Chg.refl _ _⟩
        case round =>
          obtain ⟨i, hi, rfl, hT, hB, hcw⟩ := hrel
          by_cases hil : i < vs.length
          · obtain ⟨g, c, x, ev, hg1, hg2, hx, hfz, hrx⟩ := hT.v.at_ hil
            injection ev with ev1 _ ev2
            subst ev1
            subst ev2
            obtain ⟨xA, xc, rfl, _, _⟩ := hrx.shape
            have hxl := hel.2 _ (List.getElem_mem hil)
            obtain ⟨xs, hxs⟩ : ∃ xs, xs = vs[i] := ⟨_, rfl⟩
            rw [← hxs] at hrx hxl hx
            have HXS := hide hxs
            have HIL := hide hil
            have HT := hide hT
            have HB := hide hB
            have HW9 := hide hcw
            have nw := hcw.size
            have b2r : wr.cell? ⟨N, 2, none⟩ = some (.slice (some ⟨g, 0, none⟩) vs.length vbc) := hB.cell 2
            clear b2 hT hB hcw hxs hi
            go_upto_region 10 with fail
            refine wp_region_T (fun wx => Blk wx N 65 #[.bool true, .slice KB ks.length kbc, .slice (some ⟨g, 0, none⟩) vs.length vbc, .slice none 0 0]) 6 (by kernel_rfl) ?_
            have HB0 : Hid (Blk wr.drew N 65 #[.bool true, .slice KB ks.length kbc, .slice (some ⟨g, 0, none⟩) vs.length vbc, .slice none 0 0]) := hide (HB.out.c0 ((Chg.refl Non wr).drew))
            have HT0 : Hid (TwP wr.drew (fun b => (F b ∧ b < N) ∨ N + 2 ≤ b) w2.heap.size (.slice KB ks.length kbc) (.slice (some ⟨g, 0, none⟩) vs.length vbc) ks vs) := hide (HT.out.c0 ((Chg.refl Non wr).drew))
            have HW0 := hide HW9.out.drew
            have hrx0 := hrx.dr
            clear HB HT HW9 hrx b2r hx hfz nw
            generalize World.drew wr = x0 at HB0 HT0 HW0 hrx0 ⊢
            refine AnyT.take (i := 0) (v := ?_) rfl (by kernel_rfl) (by kernel_rfl) (fun _ _ _ h => h) (by kernel_rfl) (by kernel_rfl) (Or.inl ⟨by rfl, ?_⟩) HB0.out ?_
            rotate_left
            · (intro w9 h9; go_simp; try with_reducible rfl)
            try simp only [List.getElem_toArray, List.getElem_cons_succ, List.getElem_cons_zero, Act.put, List.setIfInBounds_toArray, List.set_cons_zero, List.set_cons_succ]
            refine AnyT.take (i := 1) (v := ?_) rfl (by kernel_rfl) (by kernel_rfl) (fun _ _ _ h => h) (by kernel_rfl) (by kernel_rfl) (Or.inl ⟨by rfl, ?_⟩) HB0.out ?_
            rotate_left
            · (intro w9 h9; have y1 : w9.cell? ⟨N, 2, none⟩ = some (.slice (some ⟨g, 0, none⟩) vs.length vbc) := h9.cell 2; go_simp; try with_reducible rfl)
            try simp only [List.getElem_toArray, List.getElem_cons_succ, List.getElem_cons_zero, Act.put, List.setIfInBounds_toArray, List.set_cons_zero, List.set_cons_succ]
            refine AnyT.take (i := 2) (v := ?_) rfl (by kernel_rfl) (by kernel_rfl) (fun _ _ _ h => h) (by kernel_rfl) (by kernel_rfl) (Or.inl ⟨by rfl, ?_⟩) HB0.out ?_
            rotate_left
            · (intro w9 h9; go_simp; try with_reducible rfl)
            try simp only [List.getElem_toArray, List.getElem_cons_succ, List.getElem_cons_zero, Act.put, List.setIfInBounds_toArray, List.set_cons_zero, List.set_cons_succ]
            refine AnyT.take (i := 3) (v := ?_) rfl (by kernel_rfl) (by kernel_rfl) (fun _ _ _ h => h) (by kernel_rfl) (by kernel_rfl) (Or.inl ⟨by rfl, ?_⟩) HB0.out ?_
            rotate_left
            · (intro w9 h9; go_simp; try with_reducible rfl)
            try simp only [List.getElem_toArray, List.getElem_cons_succ, List.getElem_cons_zero, Act.put, List.setIfInBounds_toArray, List.set_cons_zero, List.set_cons_succ]
            refine AnyT.one (i := 4) (by kernel_rfl) rfl (fun K hK => ?_)
            rw [if_pos (by rfl)]
            try simp only [List.getElem_toArray, List.getElem_cons_succ, List.getElem_cons_zero, Act.put, List.setIfInBounds_toArray, List.set_cons_zero, List.set_cons_succ]
            have hcl := bytesClone hrx0 (by omega)
            go_wp2_with (go_at_call 40; refine hcl.mono ?_; rintro e x1 ⟨u, rfl, hu, hd1⟩)
            obtain ⟨UA, un, uc, rfl⟩ := hu.shapeH
            have HB1 := hide (HB0.out.c0 hd1)
            have HT1 := hide (HT0.out.c0 hd1)
            have HW1 := hide (HW0.out.trans0 hd1)
            have n1 := hd1.size
            have n0 := HW0.out.size
            refine hK.out _ _ (fun _ => HB1.out) ?_
            clear hcl hd1 HB0 HW0 hrx0
            clear hK K
            try simp only [List.getElem_toArray, List.getElem_cons_succ, List.getElem_cons_zero, Act.put, List.setIfInBounds_toArray, List.set_cons_zero, List.set_cons_succ]
            refine AnyT.take (i := 5) (v := ?_) rfl (by kernel_rfl) (by kernel_rfl) (fun _ _ _ h => h) (by kernel_rfl) (by kernel_rfl) (Or.inl ⟨by rfl, ?_⟩) HB1.out ?_
            rotate_left
            · (intro w9 h9; have y1 := HIL.out; go_simp; try with_reducible rfl)
            try simp only [List.getElem_toArray, List.getElem_cons_succ, List.getElem_cons_zero, Act.put, List.setIfInBounds_toArray, List.set_cons_zero, List.set_cons_succ]
            refine AnyT.one (i := 6) (by kernel_rfl) rfl (fun K hK => ?_)
            rw [if_pos (by rfl)]
            try simp only [List.getElem_toArray, List.getElem_cons_succ, List.getElem_cons_zero, Act.put, List.setIfInBounds_toArray, List.set_cons_zero, List.set_cons_succ]
            obtain ⟨x', hx', hfz'⟩ := HT1.out.v.atG HIL.out
            rw [HXS.out] at hu
            obtain ⟨hT6, hd6⟩ := HT1.out.setV HIL.out HT0.out hu (fun b hb => .inr (by have := HNR.out; have := HW1.out.size; omega))
            have hB6 := HB1.out.chg hd6 (show ¬ N = g by have := HNR.out; omega)
            have HT6 := hide hT6
            have HB6 := hide hB6
            have HW6 := hide (HW1.out.trans hd6 fun b hb e => by have e : b = g := e; omega)
            go_simp
            refine hK.out _ _ (fun h => absurd h (by decide)) ?_
            clear hT6 hd6 hB6 hx' hfz' HT1 HB1 HT0 HW1 hu
            generalize World.setCell x1 _ _ = x6 at HT6 HB6 HW6 ⊢
            clear hK K
            try simp only [List.getElem_toArray, List.getElem_cons_succ, List.getElem_cons_zero, Act.put, List.setIfInBounds_toArray, List.set_cons_zero, List.set_cons_succ]
            refine AnyT.nil (by kernel_rfl) ?_
            go_wp2_with fail
            go_roundw
            case rel => exact ⟨i + 1, HIL.out, by go_num, HT6.out, HB6.out, HW6.out⟩
            case measure => (have := HIL.out; simp [intOf]; omega)
          · have hik : i = vs.length := by omega
            subst hik
            obtain ⟨w5, rfl⟩ : ∃ w', w' = wr := ⟨_, rfl⟩
            have n5 := hcw.size
            have h0 : w5.cell? ⟨N, 0, none⟩ = some (.bool true) := hB.cell 0
            have h1 : w5.cell? ⟨N, 1, none⟩ = some (.slice KB ks.length kbc) := hB.cell 1
            have h2 : w5.cell? ⟨N, 2, none⟩ = some (.slice VB vs.length vbc) := hB.cell 2
            have h3 : w5.cell? ⟨N, 3, none⟩ = some (.slice none 0 0) := hB.cell 3
            have hr5 := ((HR.out.chg HC3.out (show ¬ N + 1 = N by omega)).chg HW.out (show ¬ w2.heap.size ≤ N + 1 by omega)).chg hcw (show ¬ w2.heap.size ≤ N + 1 by omega)
            have r0 : w5.cell? ⟨N + 1, 0, none⟩ = some (.bool false) := hr5.cell 0
            have r1 : w5.cell? ⟨N + 1, 1, none⟩ = some (.slice none 0 0) := hr5.cell 1
            have r2 : w5.cell? ⟨N + 1, 2, none⟩ = some (.slice none 0 0) := hr5.cell 2
            have r3 : w5.cell? ⟨N + 1, 3, none⟩ = some (.slice none 0 0) := hr5.cell 3
            have f0 := hr5.frozen 0
            have f1 := hr5.frozen 1
            have f2 := hr5.frozen 2
            have f3 := hr5.frozen 3
            have hr8 := (((hr5.set_ 0 (.bool true)).set_ 1 (.slice KB ks.length kbc)).set_ 2 (.slice VB vs.length vbc)).set_ 3 (.slice none 0 0)
            simp at hr8
            have hc8 : Chg (fun k => k = N + 1) w5 ((((w5.setCell ⟨N + 1, 0, none⟩ (.bool true)).setCell ⟨N + 1, 1, none⟩ (.slice KB ks.length kbc)).setCell ⟨N + 1, 2, none⟩ (.slice VB vs.length vbc)).setCell ⟨N + 1, 3, none⟩ (.slice none 0 0)) :=
              Chg.setCell (p := ⟨N + 1, 3, none⟩) (Chg.setCell (p := ⟨N + 1, 2, none⟩) (Chg.setCell (p := ⟨N + 1, 1, none⟩) (Chg.setCell (p := ⟨N + 1, 0, none⟩) (Chg.refl (fun k => k = N + 1) w5) (fun _ => rfl) _) (fun _ => rfl) _) (fun _ => rfl) _) (fun _ => rfl) _
            have HR8 := hide hr8
            have HC8 := hide hc8
            have HTz := hide hT
            have HWz := hide hcw
            clear hr5 hr8 hc8 hT hB hcw hi b2
            go_wp2_with fail
            generalize World.setCell _ _ _ = w9 at HR8 HC8 ⊢
            have q0 := HR8.out.cell 0
            have q1 := HR8.out.cell 1
            have q2 := HR8.out.cell 2
            have q3 := HR8.out.cell 3
            simp at q0 q1 q2 q3
            have n9 := HC8.out.size
            have hNw := HNN.out
            have hKz := HTz.out.k.rd
            have hVz := HTz.out.v.rd
            refine bodyPost_ret (v := .agg #[.bool true, .slice KB ks.length kbc, .slice VB vs.length vbc, .slice none 0 0]) (by simp [results, Tryz.results47, go_sem, q0, q1, q2, q3]) rfl ⟨_, _, _, _, _, _, rfl, ?_, ?_, ?_⟩
            · refine (hKz.chg HC8.out fun b hb e => ?_).mono fun b hb => ⟨?_, by omega⟩
              · have e : b = N + 1 := e
                rcases hb.1 with h | h
                · rcases h.1 with h | h <;> omega
                · have := HTz.out.k.lt b h; omega
              · rcases hb.1 with h | h
                · rcases h.1 with h | h
                  · exact .inl h.1
                  · exact .inr (by omega)
                · have := HTz.out.k.lt b h; exact .inr (by omega)
            · refine (hVz.chg HC8.out fun b hb e => ?_).mono fun b hb => ⟨?_, by omega⟩
              · have e : b = N + 1 := e
                rcases hb.1 with h | h
                · rcases h.1 with h | h <;> omega
                · have := HTz.out.v.lt b h; omega
              · rcases hb.1 with h | h
                · rcases h.1 with h | h
                  · exact .inl h.1
                  · exact .inr (by omega)
                · have := HTz.out.v.lt b h; exact .inr (by omega)
            · exact (((HC02.out.trans HC3.out fun b hb e => by have e : b = N := e; omega).trans HW.out fun b hb e => by have e : w2.heap.size ≤ b := e; omega).trans HWz.out fun b hb e => by have e : w2.heap.size ≤ b := e; omega).trans HC8.out fun b hb e => by have e : b = N + 1 := e; omega
end Go.Proofs.YtfgecgmgbngeaaaGreat
