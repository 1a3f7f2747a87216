/- The walks of the pool's Ids and table. -/
import Derived.Test.YtfgecgmgbngeaaaGreatPlJ
import Derived.Test.YtfgecgmgbngeaaaGreatOrdX
import Derived.Test.YtfgecgmgbngeaaaGreatInts
import Derived.Test.YtfgecgmgbngeaaaGreatPackM
import Derived.Test.YtfgecgmgbngeaaaGreatPkM
import Derived.Test.YtfgecgmgbngeaaaGreatWtr
import Derived.Test.YtfgecgmgbngeaaaGreatBBM
set_option maxRecDepth 100000
namespace Go.Proofs.YtfgecgmgbngeaaaGreat
open Go.RowKit Go.Maps Go.Sort
set_option linter.unusedVariables false
set_option linter.unusedSimpArgs false

theorem OwnI.low {w : World} {v : Value} {l : List Int} {base b' : Nat} (h : OwnI w base v l) (hb : b' ≤ base) : OwnI w b' v l := by
  unfold OwnI at h ⊢
  obtain ⟨h0, h | ⟨g, c, cur, h1, h2, h3⟩⟩ := h
  · exact ⟨h0, .inl h⟩
  · exact ⟨h0, .inr ⟨g, c, cur, h1, by omega, h3⟩⟩
theorem rise_ints {α : Type} {l : List (Nat × α)} (h : Rise l) : (l.map fun p => (p.1 : Int)).Pairwise fun x y => leI x y = true := by
  rw [List.pairwise_map]
  exact h.imp fun h => decide_eq_true (by omega)
theorem keys_of_sort {α H : Type} {e : α → DataW H} {l : List (Nat × α)} (hr : Rise l) {ss : List Int} (h : ss.Perm (intKeys (dat klI e l))) : ss.mergeSort leI = l.map fun p => (p.1 : Int) := by
  have tr : ∀ a b c : Int, leI a b = true → leI b c = true → leI a c = true := fun a b c h1 h2 => by simp only [leI, decide_eq_true_eq] at *; exact Int.le_trans h1 h2
  have tt : ∀ a b : Int, (leI a b || leI b a) = true := fun a b => by simp only [leI, Bool.or_eq_true, decide_eq_true_eq]; exact Int.le_total a b
  have e1 : intKeys (dat klI e l) = l.map fun p => (p.1 : Int) := by
    show (l.map fun p => (klI p.1, e p.2)).map (fun p => Go.intOf p.1) = _
    rw [List.map_map]
    exact List.map_congr_left fun p _ => rfl
  rw [e1] at h
  refine List.Perm.eq_of_pairwise (le := fun a b => leI a b = true) (fun a b _ _ h1 h2 => ?_) (List.pairwise_mergeSort tr tt ss) (rise_ints hr) ((List.mergeSort_perm ss leI).trans h)
  simp only [leI, decide_eq_true_eq] at h1 h2
  exact Int.le_antisymm h1 h2
/-- the sorted keys as the call gives them -/
theorem own_keys {α H : Type} {e : α → DataW H} {l : List (Nat × α)} {w : World} {base : Nat} {v : Value} (hr : Rise l) {ss : List Int} (h : ss.Perm (intKeys (dat klI e l))) (ho : w.ownsRow base 3 1 v ss.length ((ss.mergeSort leI).map encZ)) : OwnI w base v (l.map fun p => (p.1 : Int)) := by
  have e1 := keys_of_sort hr h
  have e2 : ss.length = (l.map fun p => (p.1 : Int)).length := by rw [← e1, List.length_mergeSort]
  rw [e1, e2] at ho
  exact ho
theorem plIds {w : World} {TD TP G : Nat → Prop} {gd g hand bs bf ba : Nat} {pre : ByteArray} {S : DSt} {sl : Slots} {sf : List (Int × Int)} {at_ : Ats} {cl h1 h2 h3 : Int} (h : PoolM w TD TP G gd g pre hand S sl sf at_ bs bf ba cl h1 h2 h3) (hr : Rise sl) (hn : sl.length ≤ 65536) :
    Calls Tryz.prog 9 #[.pointer (some ⟨g, 0, none⟩)] w fun e w' => ∃ v, e = .returned v ∧ OwnI w' w.heap.size v (sl.map fun p => (p.1 : Int)) ∧ Chg Non w w' := by
  have k3 : w.cell? ⟨g, 3, none⟩ = some (.map (some bs)) := h.blk.cell 3
  have hkeys := (callsIn_wide (n := 5)).1 (Tryz.maps_Keys_32 (some bs) w)
  have hsort := (callsIn_wide (n := 5)).1 (Tryz.slices_Sorted_keys_25_32 bs sl.length (dat klI eZ sl) RI w h.ms (by rw [dat_size]; unfold maxLen; omega) (by rw [dat_size]; omega))
  have HR := hide hr
  clear h hr
  go_enter Tryz.func9, Tryz.ntmps9
  go_wp2_with (first
    | (go_at_call 32; refine hkeys.mono ?_; rintro e w1 ⟨rfl, hw1⟩; subst w1)
    | (go_at_call 25; refine hsort.mono ?_; rintro e w2 ⟨v, ss, rfl, hss, hrow, _, hbel⟩))
  go_ret
  have hc1 := (Chg.refl Non w).alloc (.cells #[.map (some bs)] 52)
  exact ⟨v, rfl, (own_keys HR.out hss hrow).low (Nat.le_of_lt (sizeAl _ _)), hc1.trans0 (Chg.of_below hbel)⟩

/-- a table of pages as bytes -/
def rowB (p : Nat × Int) : List UInt8 := numB p.1 ++ numB (p.2 + 1).toNat
def tabB (sl : Slots) : List UInt8 := sl.flatMap rowB
theorem tabB_take (sl : Slots) (k : Nat) (h : k < sl.length) : tabB (sl.take (k + 1)) = tabB (sl.take k) ++ rowB sl[k] := by
  rw [List.take_succ_eq_append_getElem h, tabB, List.flatMap_append]; simp [tabB]
theorem rowB_length (p : Nat × Int) : (rowB p).length ≤ 18 := by
  have h1 := numB_length p.1
  have h2 := numB_length (p.2 + 1).toNat
  rw [rowB, List.length_append]; omega
theorem tabB_length (sl : Slots) : (tabB sl).length ≤ 18 * sl.length := by
  induction sl with
  | nil => simp [tabB]
  | cons p l ih =>
    have h1 := rowB_length p
    rw [tabB, List.flatMap_cons, List.length_append, List.length_cons]
    unfold tabB at ih
    omega
theorem numsB_one (n : Nat) : numsB [n] = numB n := by simp [numsB]
theorem packNum1' {w : World} {b n : Nat} (hb : Blk w b 101 #[.int .u64 (n : Int)]) (hn : U64 n) :
    Calls Tryz.prog 60 #[.slice (some ⟨b, 0, none⟩) 1 1] w fun e w' => ∃ u, e = .returned u ∧ OwnB w' w.heap.size u (numB n) ∧ Chg Non w w' := by
  have hr : RdU w (fun _ => True) (.slice (some ⟨b, 0, none⟩) 1 1) [n] := ⟨fun x hx => by rw [List.mem_singleton.1 hx]; exact hn, rfl, some ⟨b, 0, none⟩, 1, rfl, Nat.le_refl _, by simp [maxLen], fun _ => ⟨_, rfl, trivial, fun j u hu => by
    rw [add_none, Nat.zero_add, hb.cell j]
    match j, hu with
    | 0, hu => exact hu⟩⟩
  have := packNumber hr (by simp)
  rw [numsB_one] at this
  exact this
theorem wrapU {n : Int} (h0 : 0 ≤ n) (h1 : n ≤ 9223372036854775807) : IntKind.u64.wrap n = n := by
  have := wrap_u64n (n := n.toNat) (by unfold U64; omega)
  rwa [Int.toNat_of_nonneg h0] at this

set_option maxHeartbeats 8000000 in
theorem plTable {w : World} {TD TP G : Nat → Prop} {gd g hand bs bf ba : Nat} {pre : ByteArray} {S : DSt} {sl : Slots} {sf : List (Int × Int)} {at_ : Ats} {cl h1 h2 h3 : Int} (h : PoolM w TD TP G gd g pre hand S sl sf at_ bs bf ba cl h1 h2 h3) (hr : Rise sl) (hn : sl.length ≤ 65536) (hb : ∀ p ∈ sl, p.1 < 65536 ∧ -1 ≤ p.2 ∧ p.2 ≤ 1000000) :
    Calls Tryz.prog 30 #[.pointer (some ⟨g, 0, none⟩)] w fun e w' => ∃ v, e = .returned v ∧ OwnB w' w.heap.size v (tabB sl) ∧ Chg Non w w' := by
  have k3 : w.cell? ⟨g, 3, none⟩ = some (.map (some bs)) := h.blk.cell 3
  have hids := plIds h hr hn
  have hms := h.ms
  have HM := hide hms
  have HR := hide hr
  have HB := hide hb
  clear h hr hb hms
  go_enter Tryz.func30, Tryz.ntmps30
  go_wp2_with fail
  refine hids.mono ?_
  rintro e w1 ⟨iv, rfl, hiv, hc1⟩
  clear hids
  obtain ⟨IA, ic, rfl, hic, hicm⟩ := hiv.shape
  have hil : (sl.map fun p => (p.1 : Int)).length = sl.length := List.length_map ..
  rw [hil] at hiv hic ⊢
  have HIV := hide hiv
  have n1 := hc1.size
  clear hiv hil
  go_wp2_with fail
  go_loopw [3, 9] (fun ov kv wr => ∃ k : Nat, kv = .int .i64 (k : Int) ∧ k ≤ sl.length ∧ OwnB wr w1.heap.size ov (tabB (sl.take k)) ∧ Chg Non w1 wr) (fun _ kv _ => sl.length - (intOf kv).toNat)
  case atStart => exact ⟨0, rfl, Nat.zero_le _, OwnB.nil_ _ _, Chg.refl _ _⟩
  case round =>
    obtain ⟨k, rfl, hk, hov, hcw⟩ := hrel
    by_cases hkl : k < sl.length
    · obtain ⟨p, hp⟩ : ∃ p, p = sl[k] := ⟨_, rfl⟩
      have hpm : p ∈ sl := by rw [hp]; exact List.getElem_mem hkl
      obtain ⟨hb1, hb2, hb3⟩ := HB.out p hpm
      have hil : (sl.map fun p => (p.1 : Int)).length = sl.length := List.length_map ..
      have hiv : OwnI wr w.heap.size (.slice IA sl.length ic) (sl.map fun p => (p.1 : Int)) := HIV.out.chg hcw fun _ _ h => h
      obtain ⟨gi, ci, ei, hgi, hcell⟩ := hiv.at_ (k := k) (by rw [hil]; exact hkl)
      rw [List.getElem_map, ← hp] at hcell
      rw [hil] at ei
      injection ei with ei1 _ ei2
      subst ei1
      subst ei2
      obtain ⟨OA, on, oc, rfl⟩ := hov.shapeH
      have hdk : decide ((k : Int) < (sl.length : Int)) = true := decide_eq_true (by omega)
      have hls := fun {wx : World} (hc : Chg Non w1 wx) => (lookZ (ownsMap_chg HM.out (hc1.trans0 hc) fun h => h) (keyOf_i (i := p.1) (by omega))).1
      have hgt : (aGet klI sl p.1).getD 0 = p.2 := by rw [mem_get keyI HR.out.once (k := p.1) (v := p.2) hpm]; rfl
      rw [hgt] at hls
      obtain ⟨q, hq⟩ : ∃ q : Nat, p.2 + 1 = (q : Int) := ⟨(p.2 + 1).toNat, by omega⟩
      have hq1 : IntKind.i64.wrap (p.2 + 1) = (q : Int) := by rw [hq]; exact IntWalk.i64_in _ (by omega)
      have hu1 : IntKind.u64.wrap (p.1 : Int) = (p.1 : Int) := wrapU (by omega) (by omega)
      have hu2 : IntKind.u64.wrap (q : Int) = (q : Int) := wrapU (by omega) (by omega)
      have hrow := tabB_take sl k hkl
      rw [← hp] at hrow
      have hrq : rowB p = numB p.1 ++ numB q := by
        unfold rowB; rw [show (p.2 + 1).toNat = q by omega]
      rw [hrq, ← List.append_assoc] at hrow
      have htl : (tabB (sl.take k)).length ≤ 18 * sl.length := by
        have h1 := tabB_length (sl.take k)
        have h2 : (sl.take k).length ≤ sl.length := by rw [List.length_take]; omega
        omega
      obtain ⟨p1, hp1⟩ : ∃ p1, p1 = p.1 := ⟨_, rfl⟩
      obtain ⟨p2, hp2⟩ : ∃ p2, p2 = p.2 := ⟨_, rfl⟩
      rw [← hp1] at hcell hls hu1 hrow hb1
      rw [← hp2] at hls hq1 hb2 hb3
      obtain ⟨tb, htb⟩ : ∃ tb, tb = tabB (sl.take k) := ⟨_, rfl⟩
      rw [← htb] at hrow htl hov
      have HROW := hide hrow
      have n0 := hcw.size
      have HKL := hide hkl
      have hl1 := numB_length p1
      have hl2 := numB_length q
      have hU1 : U64 p1 := by unfold U64; omega
      have hU2 : U64 q := by unfold U64; omega
      clear hiv hil hp hpm hgt hq hrow hrq hp1 hp2 htb hic
      go_upto_region 5 with fail
      clear hcell hdk hkl
      have HOV := hide hov
      clear hov
      refine wp_region_T (Chg Non w1) 99 (by kernel_rfl) ?_
      have HS0 := hide (hcw.drew)
      have HO0 : Hid (OwnB wr.drew w1.heap.size (.slice OA on oc) tb) := hide HOV.out.dr
      generalize World.drew wr = x0 at HS0 HO0 ⊢
      clear HOV hcw n0
      refine AnyT.take (i := 0) (v := ?_) rfl (by kernel_rfl) (by kernel_rfl) (fun _ _ _ h => h) (by kernel_rfl) (by kernel_rfl) (Or.inl ⟨by rfl, ?_⟩) HS0.out ?_
      rotate_left
      · (intro w9 h9; go_simp; try with_reducible rfl)
      try simp only [List.getElem_toArray, List.getElem_cons_succ, List.getElem_cons_zero, Act.put, List.setIfInBounds_toArray, List.set_cons_zero, List.set_cons_succ]
      refine AnyT.take (i := 1) (v := ?_) rfl (by kernel_rfl) (by kernel_rfl) (fun _ _ _ h => h) (by kernel_rfl) (by kernel_rfl) (Or.inl ⟨by rfl, ?_⟩) HS0.out ?_
      rotate_left
      · (intro w9 h9; go_simp; try with_reducible rfl)
      try simp only [List.getElem_toArray, List.getElem_cons_succ, List.getElem_cons_zero, Act.put, List.setIfInBounds_toArray, List.set_cons_zero, List.set_cons_succ]
      refine AnyT.take (i := 2) (v := ?_) rfl (by kernel_rfl) (by kernel_rfl) (fun _ _ _ h => h) (by kernel_rfl) (by kernel_rfl) (Or.inl ⟨by rfl, ?_⟩) HS0.out ?_
      rotate_left
      · (intro w9 h9; go_simp; try with_reducible rfl)
      try simp only [List.getElem_toArray, List.getElem_cons_succ, List.getElem_cons_zero, Act.put, List.setIfInBounds_toArray, List.set_cons_zero, List.set_cons_succ]
      refine AnyT.take (i := 6) (v := ?_) rfl (by kernel_rfl) (by kernel_rfl) (fun _ _ _ h => h) (by kernel_rfl) (by kernel_rfl) (Or.inl ⟨by rfl, ?_⟩) HS0.out ?_
      rotate_left
      · (intro w9 h9; go_simp; try with_reducible rfl)
      try simp only [List.getElem_toArray, List.getElem_cons_succ, List.getElem_cons_zero, Act.put, List.setIfInBounds_toArray, List.set_cons_zero, List.set_cons_succ]
      refine AnyT.take (i := 7) (v := ?_) rfl (by kernel_rfl) (by kernel_rfl) (fun _ _ _ h => h) (by kernel_rfl) (by kernel_rfl) (Or.inl ⟨by rfl, ?_⟩) HS0.out ?_
      rotate_left
      · (intro w9 h9; go_simp; try with_reducible rfl)
      try simp only [List.getElem_toArray, List.getElem_cons_succ, List.getElem_cons_zero, Act.put, List.setIfInBounds_toArray, List.set_cons_zero, List.set_cons_succ]
      refine AnyT.take (i := 8) (v := ?_) rfl (by kernel_rfl) (by kernel_rfl) (fun _ _ _ h => h) (by kernel_rfl) (by kernel_rfl) (Or.inl ⟨by rfl, ?_⟩) HS0.out ?_
      rotate_left
      · (intro w9 h9; go_simp; try with_reducible rfl)
      try simp only [List.getElem_toArray, List.getElem_cons_succ, List.getElem_cons_zero, Act.put, List.setIfInBounds_toArray, List.set_cons_zero, List.set_cons_succ]
      refine AnyT.take (i := 9) (v := ?_) rfl (by kernel_rfl) (by kernel_rfl) (fun _ _ _ h => h) (by kernel_rfl) (by kernel_rfl) (Or.inl ⟨by rfl, ?_⟩) HS0.out ?_
      rotate_left
      · (intro w9 h9; have y0 := (hc1.trans0 h9).cell k3 (fun h => h); go_simp; try with_reducible rfl)
      try simp only [List.getElem_toArray, List.getElem_cons_succ, List.getElem_cons_zero, Act.put, List.setIfInBounds_toArray, List.set_cons_zero, List.set_cons_succ]
      refine AnyT.take (i := 10) (v := ?_) rfl (by kernel_rfl) (by kernel_rfl) (fun _ _ _ h => h) (by kernel_rfl) (by kernel_rfl) (Or.inl ⟨by rfl, ?_⟩) HS0.out ?_
      rotate_left
      · (intro w9 h9; go_simp; try with_reducible rfl)
      try simp only [List.getElem_toArray, List.getElem_cons_succ, List.getElem_cons_zero, Act.put, List.setIfInBounds_toArray, List.set_cons_zero, List.set_cons_succ]
      refine AnyT.take (i := 11) (v := ?_) rfl (by kernel_rfl) (by kernel_rfl) (fun _ _ _ h => h) (by kernel_rfl) (by kernel_rfl) (Or.inl ⟨by rfl, ?_⟩) HS0.out ?_
      rotate_left
      · (intro w9 h9; have y0 := hls h9; go_simp; try with_reducible rfl)
      try simp only [List.getElem_toArray, List.getElem_cons_succ, List.getElem_cons_zero, Act.put, List.setIfInBounds_toArray, List.set_cons_zero, List.set_cons_succ]
      refine AnyT.take (i := 12) (v := ?_) rfl (by kernel_rfl) (by kernel_rfl) (fun _ _ _ h => h) (by kernel_rfl) (by kernel_rfl) (Or.inl ⟨by rfl, ?_⟩) HS0.out ?_
      rotate_left
      · (intro w9 h9; go_simp; try with_reducible rfl)
      try simp only [List.getElem_toArray, List.getElem_cons_succ, List.getElem_cons_zero, Act.put, List.setIfInBounds_toArray, List.set_cons_zero, List.set_cons_succ]
      refine AnyT.take (i := 13) (v := ?_) rfl (by kernel_rfl) (by kernel_rfl) (fun _ _ _ h => h) (by kernel_rfl) (by kernel_rfl) (Or.inl ⟨by rfl, ?_⟩) HS0.out ?_
      rotate_left
      · (intro w9 h9; go_simp; try with_reducible rfl)
      try simp only [List.getElem_toArray, List.getElem_cons_succ, List.getElem_cons_zero, Act.put, List.setIfInBounds_toArray, List.set_cons_zero, List.set_cons_succ]
      refine AnyT.pair (i := 3) (j := 14) (by kernel_rfl) rfl rfl (fun K hK => ?_) (fun K hK => ?_)
      · rw [if_pos (by rfl)]
        try simp only [List.getElem_toArray, List.getElem_cons_succ, List.getElem_cons_zero, Act.put, List.setIfInBounds_toArray, List.set_cons_zero, List.set_cons_succ]
        go_simp
        have hdx1 := (Chg.refl Non x0).alloc (.cells #[.int .u64 (p1 : Int)] 101)
        have hbA1 := Blk.new x0 101 #[.int .u64 (p1 : Int)]
        obtain ⟨gA1, hgA1⟩ : ∃ g, g = x0.heap.size := ⟨_, rfl⟩
        rw [← hgA1] at hbA1 ⊢
        have hneA1 : Hid (∀ j, Value.ownBlock (.slice OA on oc) = some j → j ≠ gA1) := hide (fun j hj e => by have h1 := HO0.out.lt j hj; omega)
        generalize hww : World.alloc x0 _ = x1
        rw [show x0.alloc (.cells #[.int .u64 (p1 : Int)] 101) = x1 from hww] at hdx1 hbA1
        clear hww hgA1
        have HO1 := hide (HO0.out.chg hdx1 fun _ _ h => h)
        have HS1 := hide (HS0.out.trans0 hdx1)
        refine hK.out _ _ (fun _ => HS1.out) ?_
        clear HS0 HO0 hdx1
        clear hK K
        try simp only [List.getElem_toArray, List.getElem_cons_succ, List.getElem_cons_zero, Act.put, List.setIfInBounds_toArray, List.set_cons_zero, List.set_cons_succ]
        refine AnyT.pair (i := 4) (j := 14) (by kernel_rfl) rfl rfl (fun K hK => ?_) (fun K hK => ?_)
        · rw [if_pos (by rfl)]
          try simp only [List.getElem_toArray, List.getElem_cons_succ, List.getElem_cons_zero, Act.put, List.setIfInBounds_toArray, List.set_cons_zero, List.set_cons_succ]
          go_wp2_with (go_at_call 60; refine (packNum1' (n := p1) hbA1 hU1).mono ?_; rintro e x2 ⟨uA1, rfl, huA1, hdx2⟩)
          obtain ⟨UA1, mA1, cA1, rfl⟩ : ∃ A m c, uA1 = .slice A m c := huA1.shapeH
          have HO2 := hide (HO1.out.chg hdx2 fun _ _ h => h)
          have HS2 := hide (HS1.out.trans0 hdx2)
          refine hK.out _ _ (fun _ => HS2.out) ?_
          clear HS1 HO1 hdx2 hbA1
          clear hK K
          try simp only [List.getElem_toArray, List.getElem_cons_succ, List.getElem_cons_zero, Act.put, List.setIfInBounds_toArray, List.set_cons_zero, List.set_cons_succ]
          refine AnyT.pair (i := 5) (j := 14) (by kernel_rfl) rfl rfl (fun K hK => ?_) (fun K hK => ?_)
          · rw [if_pos (by rfl)]
            try simp only [List.getElem_toArray, List.getElem_cons_succ, List.getElem_cons_zero, Act.put, List.setIfInBounds_toArray, List.set_cons_zero, List.set_cons_succ]
            refine oper_B _ _ rfl HO2.out rfl huA1.rd rfl (by first | omega | (simp only [List.length_append]; omega)) HS2.out.size ?_
            intro ov3 x3 how3 hgr3 hat3
            obtain ⟨OA3, on3, oc3, rfl⟩ : ∃ A m c, ov3 = .slice A m c := how3.shapeH
            have hdx3 : Chg (fun j => Value.ownBlock (.slice OA on oc) = some j) x2 x3 := (Chg.of_grown hgr3).mono fun j _ e => e.symm
            have HO3 := hide how3
            have HS3 := hide (HS2.out.trans hdx3 fun j hj e => by have h1 := HO2.out.lt j e; omega)
            refine hK.out _ _ (fun _ => HS3.out) ?_
            clear HS2 HO2 hdx3 huA1 how3
            clear hK K
            try simp only [List.getElem_toArray, List.getElem_cons_succ, List.getElem_cons_zero, Act.put, List.setIfInBounds_toArray, List.set_cons_zero, List.set_cons_succ]
            refine AnyT.one (i := 14) (by kernel_rfl) rfl (fun K hK => ?_)
            rw [if_pos (by rfl)]
            try simp only [List.getElem_toArray, List.getElem_cons_succ, List.getElem_cons_zero, Act.put, List.setIfInBounds_toArray, List.set_cons_zero, List.set_cons_succ]
            go_simp
            have hdx4 := (Chg.refl Non x3).alloc (.cells #[.int .u64 (q : Int)] 101)
            have hbB2 := Blk.new x3 101 #[.int .u64 (q : Int)]
            obtain ⟨gB2, hgB2⟩ : ∃ g, g = x3.heap.size := ⟨_, rfl⟩
            rw [← hgB2] at hbB2 ⊢
            have hneB2 : Hid (∀ j, Value.ownBlock (.slice OA3 on3 oc3) = some j → j ≠ gB2) := hide (fun j hj e => by have h1 := HO3.out.lt j hj; omega)
            generalize hww : World.alloc x3 _ = x4
            rw [show x3.alloc (.cells #[.int .u64 (q : Int)] 101) = x4 from hww] at hdx4 hbB2
            clear hww hgB2
            have HO4 := hide (HO3.out.chg hdx4 fun _ _ h => h)
            have HS4 := hide (HS3.out.trans0 hdx4)
            refine hK.out _ _ (fun _ => HS4.out) ?_
            clear HS3 HO3 hdx4
            clear hK K
            try simp only [List.getElem_toArray, List.getElem_cons_succ, List.getElem_cons_zero, Act.put, List.setIfInBounds_toArray, List.set_cons_zero, List.set_cons_succ]
            refine AnyT.one (i := 15) (by kernel_rfl) rfl (fun K hK => ?_)
            rw [if_pos (by rfl)]
            try simp only [List.getElem_toArray, List.getElem_cons_succ, List.getElem_cons_zero, Act.put, List.setIfInBounds_toArray, List.set_cons_zero, List.set_cons_succ]
            go_wp2_with (go_at_call 60; refine (packNum1' (n := q) hbB2 hU2).mono ?_; rintro e x5 ⟨uB2, rfl, huB2, hdx5⟩)
            obtain ⟨UB2, mB2, cB2, rfl⟩ : ∃ A m c, uB2 = .slice A m c := huB2.shapeH
            have HO5 := hide (HO4.out.chg hdx5 fun _ _ h => h)
            have HS5 := hide (HS4.out.trans0 hdx5)
            refine hK.out _ _ (fun _ => HS5.out) ?_
            clear HS4 HO4 hdx5 hbB2
            clear hK K
            try simp only [List.getElem_toArray, List.getElem_cons_succ, List.getElem_cons_zero, Act.put, List.setIfInBounds_toArray, List.set_cons_zero, List.set_cons_succ]
            refine AnyT.one (i := 16) (by kernel_rfl) rfl (fun K hK => ?_)
            rw [if_pos (by rfl)]
            try simp only [List.getElem_toArray, List.getElem_cons_succ, List.getElem_cons_zero, Act.put, List.setIfInBounds_toArray, List.set_cons_zero, List.set_cons_succ]
            refine oper_B _ _ rfl HO5.out rfl huB2.rd rfl (by first | omega | (simp only [List.length_append]; omega)) HS5.out.size ?_
            intro ov6 x6 how6 hgr6 hat6
            obtain ⟨OA6, on6, oc6, rfl⟩ : ∃ A m c, ov6 = .slice A m c := how6.shapeH
            have hdx6 : Chg (fun j => Value.ownBlock (.slice OA3 on3 oc3) = some j) x5 x6 := (Chg.of_grown hgr6).mono fun j _ e => e.symm
            have HO6 := hide how6
            have HS6 := hide (HS5.out.trans hdx6 fun j hj e => by have h1 := HO5.out.lt j e; omega)
            refine hK.out _ _ (fun _ => HS6.out) ?_
            clear HS5 HO5 hdx6 huB2 how6
            clear hK K
            try simp only [List.getElem_toArray, List.getElem_cons_succ, List.getElem_cons_zero, Act.put, List.setIfInBounds_toArray, List.set_cons_zero, List.set_cons_succ]
            refine AnyT.take (i := 17) (v := ?_) rfl (by kernel_rfl) (by kernel_rfl) (fun _ _ _ h => h) (by kernel_rfl) (by kernel_rfl) (Or.inl ⟨by rfl, ?_⟩) HS6.out ?_
            rotate_left
            · (intro w9 h9; go_simp; try with_reducible rfl)
            try simp only [List.getElem_toArray, List.getElem_cons_succ, List.getElem_cons_zero, Act.put, List.setIfInBounds_toArray, List.set_cons_zero, List.set_cons_succ]
            refine AnyT.nil (by kernel_rfl) ?_
            go_wp2_with fail
            go_roundw
            case rel => exact ⟨k + 1, by go_num, HKL.out, by rw [HROW.out]; exact HO6.out, HS6.out⟩
            case measure => (have := HKL.out; simp [intOf]; omega)
          · rw [if_pos (by rfl)]
            try simp only [List.getElem_toArray, List.getElem_cons_succ, List.getElem_cons_zero, Act.put, List.setIfInBounds_toArray, List.set_cons_zero, List.set_cons_succ]
            go_simp
            have hdx3 := (Chg.refl Non x2).alloc (.cells #[.int .u64 (q : Int)] 101)
            have hbB2 := Blk.new x2 101 #[.int .u64 (q : Int)]
            obtain ⟨gB2, hgB2⟩ : ∃ g, g = x2.heap.size := ⟨_, rfl⟩
            rw [← hgB2] at hbB2 ⊢
            have hneB2 : Hid (∀ j, Value.ownBlock (.slice OA on oc) = some j → j ≠ gB2) := hide (fun j hj e => by have h1 := HO2.out.lt j hj; omega)
            generalize hww : World.alloc x2 _ = x3
            rw [show x2.alloc (.cells #[.int .u64 (q : Int)] 101) = x3 from hww] at hdx3 hbB2
            clear hww hgB2
            have HO3 := hide (HO2.out.chg hdx3 fun _ _ h => h)
            have HS3 := hide (HS2.out.trans0 hdx3)
            replace huA1 := huA1.chg hdx3 fun _ _ h => h
            refine hK.out _ _ (fun _ => HS3.out) ?_
            clear HS2 HO2 hdx3
            clear hK K
            try simp only [List.getElem_toArray, List.getElem_cons_succ, List.getElem_cons_zero, Act.put, List.setIfInBounds_toArray, List.set_cons_zero, List.set_cons_succ]
            refine AnyT.one (i := 5) (by kernel_rfl) rfl (fun K hK => ?_)
            rw [if_pos (by rfl)]
            try simp only [List.getElem_toArray, List.getElem_cons_succ, List.getElem_cons_zero, Act.put, List.setIfInBounds_toArray, List.set_cons_zero, List.set_cons_succ]
            refine oper_B _ _ rfl HO3.out rfl huA1.rd rfl (by first | omega | (simp only [List.length_append]; omega)) HS3.out.size ?_
            intro ov4 x4 how4 hgr4 hat4
            obtain ⟨OA4, on4, oc4, rfl⟩ : ∃ A m c, ov4 = .slice A m c := how4.shapeH
            have hdx4 : Chg (fun j => Value.ownBlock (.slice OA on oc) = some j) x3 x4 := (Chg.of_grown hgr4).mono fun j _ e => e.symm
            have HO4 := hide how4
            have HS4 := hide (HS3.out.trans hdx4 fun j hj e => by have h1 := HO3.out.lt j e; omega)
            replace hbB2 := hbB2.chg hdx4 fun e => hneB2.out _ e rfl
            refine hK.out _ _ (fun _ => HS4.out) ?_
            clear HS3 HO3 hdx4 huA1 how4
            clear hK K
            try simp only [List.getElem_toArray, List.getElem_cons_succ, List.getElem_cons_zero, Act.put, List.setIfInBounds_toArray, List.set_cons_zero, List.set_cons_succ]
            refine AnyT.one (i := 15) (by kernel_rfl) rfl (fun K hK => ?_)
            rw [if_pos (by rfl)]
            try simp only [List.getElem_toArray, List.getElem_cons_succ, List.getElem_cons_zero, Act.put, List.setIfInBounds_toArray, List.set_cons_zero, List.set_cons_succ]
            go_wp2_with (go_at_call 60; refine (packNum1' (n := q) hbB2 hU2).mono ?_; rintro e x5 ⟨uB2, rfl, huB2, hdx5⟩)
            obtain ⟨UB2, mB2, cB2, rfl⟩ : ∃ A m c, uB2 = .slice A m c := huB2.shapeH
            have HO5 := hide (HO4.out.chg hdx5 fun _ _ h => h)
            have HS5 := hide (HS4.out.trans0 hdx5)
            refine hK.out _ _ (fun _ => HS5.out) ?_
            clear HS4 HO4 hdx5 hbB2
            clear hK K
            try simp only [List.getElem_toArray, List.getElem_cons_succ, List.getElem_cons_zero, Act.put, List.setIfInBounds_toArray, List.set_cons_zero, List.set_cons_succ]
            refine AnyT.one (i := 16) (by kernel_rfl) rfl (fun K hK => ?_)
            rw [if_pos (by rfl)]
            try simp only [List.getElem_toArray, List.getElem_cons_succ, List.getElem_cons_zero, Act.put, List.setIfInBounds_toArray, List.set_cons_zero, List.set_cons_succ]
            refine oper_B _ _ rfl HO5.out rfl huB2.rd rfl (by first | omega | (simp only [List.length_append]; omega)) HS5.out.size ?_
            intro ov6 x6 how6 hgr6 hat6
            obtain ⟨OA6, on6, oc6, rfl⟩ : ∃ A m c, ov6 = .slice A m c := how6.shapeH
            have hdx6 : Chg (fun j => Value.ownBlock (.slice OA4 on4 oc4) = some j) x5 x6 := (Chg.of_grown hgr6).mono fun j _ e => e.symm
            have HO6 := hide how6
            have HS6 := hide (HS5.out.trans hdx6 fun j hj e => by have h1 := HO5.out.lt j e; omega)
            refine hK.out _ _ (fun _ => HS6.out) ?_
            clear HS5 HO5 hdx6 huB2 how6
            clear hK K
            try simp only [List.getElem_toArray, List.getElem_cons_succ, List.getElem_cons_zero, Act.put, List.setIfInBounds_toArray, List.set_cons_zero, List.set_cons_succ]
            refine AnyT.take (i := 17) (v := ?_) rfl (by kernel_rfl) (by kernel_rfl) (fun _ _ _ h => h) (by kernel_rfl) (by kernel_rfl) (Or.inl ⟨by rfl, ?_⟩) HS6.out ?_
            rotate_left
            · (intro w9 h9; go_simp; try with_reducible rfl)
            try simp only [List.getElem_toArray, List.getElem_cons_succ, List.getElem_cons_zero, Act.put, List.setIfInBounds_toArray, List.set_cons_zero, List.set_cons_succ]
            refine AnyT.nil (by kernel_rfl) ?_
            go_wp2_with fail
            go_roundw
            case rel => exact ⟨k + 1, by go_num, HKL.out, by rw [HROW.out]; exact HO6.out, HS6.out⟩
            case measure => (have := HKL.out; simp [intOf]; omega)
        · rw [if_pos (by rfl)]
          try simp only [List.getElem_toArray, List.getElem_cons_succ, List.getElem_cons_zero, Act.put, List.setIfInBounds_toArray, List.set_cons_zero, List.set_cons_succ]
          go_simp
          have hdx2 := (Chg.refl Non x1).alloc (.cells #[.int .u64 (q : Int)] 101)
          have hbB2 := Blk.new x1 101 #[.int .u64 (q : Int)]
          obtain ⟨gB2, hgB2⟩ : ∃ g, g = x1.heap.size := ⟨_, rfl⟩
          rw [← hgB2] at hbB2 ⊢
          have hneB2 : Hid (∀ j, Value.ownBlock (.slice OA on oc) = some j → j ≠ gB2) := hide (fun j hj e => by have h1 := HO1.out.lt j hj; omega)
          generalize hww : World.alloc x1 _ = x2
          rw [show x1.alloc (.cells #[.int .u64 (q : Int)] 101) = x2 from hww] at hdx2 hbB2
          clear hww hgB2
          have HO2 := hide (HO1.out.chg hdx2 fun _ _ h => h)
          have HS2 := hide (HS1.out.trans0 hdx2)
          replace hbA1 := hbA1.c0 hdx2
          refine hK.out _ _ (fun _ => HS2.out) ?_
          clear HS1 HO1 hdx2
          clear hK K
          try simp only [List.getElem_toArray, List.getElem_cons_succ, List.getElem_cons_zero, Act.put, List.setIfInBounds_toArray, List.set_cons_zero, List.set_cons_succ]
          refine AnyT.one (i := 4) (by kernel_rfl) rfl (fun K hK => ?_)
          rw [if_pos (by rfl)]
          try simp only [List.getElem_toArray, List.getElem_cons_succ, List.getElem_cons_zero, Act.put, List.setIfInBounds_toArray, List.set_cons_zero, List.set_cons_succ]
          go_wp2_with (go_at_call 60; refine (packNum1' (n := p1) hbA1 hU1).mono ?_; rintro e x3 ⟨uA1, rfl, huA1, hdx3⟩)
          obtain ⟨UA1, mA1, cA1, rfl⟩ : ∃ A m c, uA1 = .slice A m c := huA1.shapeH
          have HO3 := hide (HO2.out.chg hdx3 fun _ _ h => h)
          have HS3 := hide (HS2.out.trans0 hdx3)
          replace hbB2 := hbB2.c0 hdx3
          refine hK.out _ _ (fun _ => HS3.out) ?_
          clear HS2 HO2 hdx3 hbA1
          clear hK K
          try simp only [List.getElem_toArray, List.getElem_cons_succ, List.getElem_cons_zero, Act.put, List.setIfInBounds_toArray, List.set_cons_zero, List.set_cons_succ]
          refine AnyT.one (i := 5) (by kernel_rfl) rfl (fun K hK => ?_)
          rw [if_pos (by rfl)]
          try simp only [List.getElem_toArray, List.getElem_cons_succ, List.getElem_cons_zero, Act.put, List.setIfInBounds_toArray, List.set_cons_zero, List.set_cons_succ]
          refine oper_B _ _ rfl HO3.out rfl huA1.rd rfl (by first | omega | (simp only [List.length_append]; omega)) HS3.out.size ?_
          intro ov4 x4 how4 hgr4 hat4
          obtain ⟨OA4, on4, oc4, rfl⟩ : ∃ A m c, ov4 = .slice A m c := how4.shapeH
          have hdx4 : Chg (fun j => Value.ownBlock (.slice OA on oc) = some j) x3 x4 := (Chg.of_grown hgr4).mono fun j _ e => e.symm
          have HO4 := hide how4
          have HS4 := hide (HS3.out.trans hdx4 fun j hj e => by have h1 := HO3.out.lt j e; omega)
          replace hbB2 := hbB2.chg hdx4 fun e => hneB2.out _ e rfl
          refine hK.out _ _ (fun _ => HS4.out) ?_
          clear HS3 HO3 hdx4 huA1 how4
          clear hK K
          try simp only [List.getElem_toArray, List.getElem_cons_succ, List.getElem_cons_zero, Act.put, List.setIfInBounds_toArray, List.set_cons_zero, List.set_cons_succ]
          refine AnyT.one (i := 15) (by kernel_rfl) rfl (fun K hK => ?_)
          rw [if_pos (by rfl)]
          try simp only [List.getElem_toArray, List.getElem_cons_succ, List.getElem_cons_zero, Act.put, List.setIfInBounds_toArray, List.set_cons_zero, List.set_cons_succ]
          go_wp2_with (go_at_call 60; refine (packNum1' (n := q) hbB2 hU2).mono ?_; rintro e x5 ⟨uB2, rfl, huB2, hdx5⟩)
          obtain ⟨UB2, mB2, cB2, rfl⟩ : ∃ A m c, uB2 = .slice A m c := huB2.shapeH
          have HO5 := hide (HO4.out.chg hdx5 fun _ _ h => h)
          have HS5 := hide (HS4.out.trans0 hdx5)
          refine hK.out _ _ (fun _ => HS5.out) ?_
          clear HS4 HO4 hdx5 hbB2
          clear hK K
          try simp only [List.getElem_toArray, List.getElem_cons_succ, List.getElem_cons_zero, Act.put, List.setIfInBounds_toArray, List.set_cons_zero, List.set_cons_succ]
          refine AnyT.one (i := 16) (by kernel_rfl) rfl (fun K hK => ?_)
          rw [if_pos (by rfl)]
          try simp only [List.getElem_toArray, List.getElem_cons_succ, List.getElem_cons_zero, Act.put, List.setIfInBounds_toArray, List.set_cons_zero, List.set_cons_succ]
          refine oper_B _ _ rfl HO5.out rfl huB2.rd rfl (by first | omega | (simp only [List.length_append]; omega)) HS5.out.size ?_
          intro ov6 x6 how6 hgr6 hat6
          obtain ⟨OA6, on6, oc6, rfl⟩ : ∃ A m c, ov6 = .slice A m c := how6.shapeH
          have hdx6 : Chg (fun j => Value.ownBlock (.slice OA4 on4 oc4) = some j) x5 x6 := (Chg.of_grown hgr6).mono fun j _ e => e.symm
          have HO6 := hide how6
          have HS6 := hide (HS5.out.trans hdx6 fun j hj e => by have h1 := HO5.out.lt j e; omega)
          refine hK.out _ _ (fun _ => HS6.out) ?_
          clear HS5 HO5 hdx6 huB2 how6
          clear hK K
          try simp only [List.getElem_toArray, List.getElem_cons_succ, List.getElem_cons_zero, Act.put, List.setIfInBounds_toArray, List.set_cons_zero, List.set_cons_succ]
          refine AnyT.take (i := 17) (v := ?_) rfl (by kernel_rfl) (by kernel_rfl) (fun _ _ _ h => h) (by kernel_rfl) (by kernel_rfl) (Or.inl ⟨by rfl, ?_⟩) HS6.out ?_
          rotate_left
          · (intro w9 h9; go_simp; try with_reducible rfl)
          try simp only [List.getElem_toArray, List.getElem_cons_succ, List.getElem_cons_zero, Act.put, List.setIfInBounds_toArray, List.set_cons_zero, List.set_cons_succ]
          refine AnyT.nil (by kernel_rfl) ?_
          go_wp2_with fail
          go_roundw
          case rel => exact ⟨k + 1, by go_num, HKL.out, by rw [HROW.out]; exact HO6.out, HS6.out⟩
          case measure => (have := HKL.out; simp [intOf]; omega)
      · rw [if_pos (by rfl)]
        try simp only [List.getElem_toArray, List.getElem_cons_succ, List.getElem_cons_zero, Act.put, List.setIfInBounds_toArray, List.set_cons_zero, List.set_cons_succ]
        go_simp
        have hdx1 := (Chg.refl Non x0).alloc (.cells #[.int .u64 (q : Int)] 101)
        have hbB2 := Blk.new x0 101 #[.int .u64 (q : Int)]
        obtain ⟨gB2, hgB2⟩ : ∃ g, g = x0.heap.size := ⟨_, rfl⟩
        rw [← hgB2] at hbB2 ⊢
        have hneB2 : Hid (∀ j, Value.ownBlock (.slice OA on oc) = some j → j ≠ gB2) := hide (fun j hj e => by have h1 := HO0.out.lt j hj; omega)
        generalize hww : World.alloc x0 _ = x1
        rw [show x0.alloc (.cells #[.int .u64 (q : Int)] 101) = x1 from hww] at hdx1 hbB2
        clear hww hgB2
        have HO1 := hide (HO0.out.chg hdx1 fun _ _ h => h)
        have HS1 := hide (HS0.out.trans0 hdx1)
        refine hK.out _ _ (fun _ => HS1.out) ?_
        clear HS0 HO0 hdx1
        clear hK K
        try simp only [List.getElem_toArray, List.getElem_cons_succ, List.getElem_cons_zero, Act.put, List.setIfInBounds_toArray, List.set_cons_zero, List.set_cons_succ]
        refine AnyT.one (i := 3) (by kernel_rfl) rfl (fun K hK => ?_)
        rw [if_pos (by rfl)]
        try simp only [List.getElem_toArray, List.getElem_cons_succ, List.getElem_cons_zero, Act.put, List.setIfInBounds_toArray, List.set_cons_zero, List.set_cons_succ]
        go_simp
        have hdx2 := (Chg.refl Non x1).alloc (.cells #[.int .u64 (p1 : Int)] 101)
        have hbA1 := Blk.new x1 101 #[.int .u64 (p1 : Int)]
        obtain ⟨gA1, hgA1⟩ : ∃ g, g = x1.heap.size := ⟨_, rfl⟩
        rw [← hgA1] at hbA1 ⊢
        have hneA1 : Hid (∀ j, Value.ownBlock (.slice OA on oc) = some j → j ≠ gA1) := hide (fun j hj e => by have h1 := HO1.out.lt j hj; omega)
        generalize hww : World.alloc x1 _ = x2
        rw [show x1.alloc (.cells #[.int .u64 (p1 : Int)] 101) = x2 from hww] at hdx2 hbA1
        clear hww hgA1
        have HO2 := hide (HO1.out.chg hdx2 fun _ _ h => h)
        have HS2 := hide (HS1.out.trans0 hdx2)
        replace hbB2 := hbB2.c0 hdx2
        refine hK.out _ _ (fun _ => HS2.out) ?_
        clear HS1 HO1 hdx2
        clear hK K
        try simp only [List.getElem_toArray, List.getElem_cons_succ, List.getElem_cons_zero, Act.put, List.setIfInBounds_toArray, List.set_cons_zero, List.set_cons_succ]
        refine AnyT.one (i := 4) (by kernel_rfl) rfl (fun K hK => ?_)
        rw [if_pos (by rfl)]
        try simp only [List.getElem_toArray, List.getElem_cons_succ, List.getElem_cons_zero, Act.put, List.setIfInBounds_toArray, List.set_cons_zero, List.set_cons_succ]
        go_wp2_with (go_at_call 60; refine (packNum1' (n := p1) hbA1 hU1).mono ?_; rintro e x3 ⟨uA1, rfl, huA1, hdx3⟩)
        obtain ⟨UA1, mA1, cA1, rfl⟩ : ∃ A m c, uA1 = .slice A m c := huA1.shapeH
        have HO3 := hide (HO2.out.chg hdx3 fun _ _ h => h)
        have HS3 := hide (HS2.out.trans0 hdx3)
        replace hbB2 := hbB2.c0 hdx3
        refine hK.out _ _ (fun _ => HS3.out) ?_
        clear HS2 HO2 hdx3 hbA1
        clear hK K
        try simp only [List.getElem_toArray, List.getElem_cons_succ, List.getElem_cons_zero, Act.put, List.setIfInBounds_toArray, List.set_cons_zero, List.set_cons_succ]
        refine AnyT.one (i := 5) (by kernel_rfl) rfl (fun K hK => ?_)
        rw [if_pos (by rfl)]
        try simp only [List.getElem_toArray, List.getElem_cons_succ, List.getElem_cons_zero, Act.put, List.setIfInBounds_toArray, List.set_cons_zero, List.set_cons_succ]
        refine oper_B _ _ rfl HO3.out rfl huA1.rd rfl (by first | omega | (simp only [List.length_append]; omega)) HS3.out.size ?_
        intro ov4 x4 how4 hgr4 hat4
        obtain ⟨OA4, on4, oc4, rfl⟩ : ∃ A m c, ov4 = .slice A m c := how4.shapeH
        have hdx4 : Chg (fun j => Value.ownBlock (.slice OA on oc) = some j) x3 x4 := (Chg.of_grown hgr4).mono fun j _ e => e.symm
        have HO4 := hide how4
        have HS4 := hide (HS3.out.trans hdx4 fun j hj e => by have h1 := HO3.out.lt j e; omega)
        replace hbB2 := hbB2.chg hdx4 fun e => hneB2.out _ e rfl
        refine hK.out _ _ (fun _ => HS4.out) ?_
        clear HS3 HO3 hdx4 huA1 how4
        clear hK K
        try simp only [List.getElem_toArray, List.getElem_cons_succ, List.getElem_cons_zero, Act.put, List.setIfInBounds_toArray, List.set_cons_zero, List.set_cons_succ]
        refine AnyT.one (i := 15) (by kernel_rfl) rfl (fun K hK => ?_)
        rw [if_pos (by rfl)]
        try simp only [List.getElem_toArray, List.getElem_cons_succ, List.getElem_cons_zero, Act.put, List.setIfInBounds_toArray, List.set_cons_zero, List.set_cons_succ]
        go_wp2_with (go_at_call 60; refine (packNum1' (n := q) hbB2 hU2).mono ?_; rintro e x5 ⟨uB2, rfl, huB2, hdx5⟩)
        obtain ⟨UB2, mB2, cB2, rfl⟩ : ∃ A m c, uB2 = .slice A m c := huB2.shapeH
        have HO5 := hide (HO4.out.chg hdx5 fun _ _ h => h)
        have HS5 := hide (HS4.out.trans0 hdx5)
        refine hK.out _ _ (fun _ => HS5.out) ?_
        clear HS4 HO4 hdx5 hbB2
        clear hK K
        try simp only [List.getElem_toArray, List.getElem_cons_succ, List.getElem_cons_zero, Act.put, List.setIfInBounds_toArray, List.set_cons_zero, List.set_cons_succ]
        refine AnyT.one (i := 16) (by kernel_rfl) rfl (fun K hK => ?_)
        rw [if_pos (by rfl)]
        try simp only [List.getElem_toArray, List.getElem_cons_succ, List.getElem_cons_zero, Act.put, List.setIfInBounds_toArray, List.set_cons_zero, List.set_cons_succ]
        refine oper_B _ _ rfl HO5.out rfl huB2.rd rfl (by first | omega | (simp only [List.length_append]; omega)) HS5.out.size ?_
        intro ov6 x6 how6 hgr6 hat6
        obtain ⟨OA6, on6, oc6, rfl⟩ : ∃ A m c, ov6 = .slice A m c := how6.shapeH
        have hdx6 : Chg (fun j => Value.ownBlock (.slice OA4 on4 oc4) = some j) x5 x6 := (Chg.of_grown hgr6).mono fun j _ e => e.symm
        have HO6 := hide how6
        have HS6 := hide (HS5.out.trans hdx6 fun j hj e => by have h1 := HO5.out.lt j e; omega)
        refine hK.out _ _ (fun _ => HS6.out) ?_
        clear HS5 HO5 hdx6 huB2 how6
        clear hK K
        try simp only [List.getElem_toArray, List.getElem_cons_succ, List.getElem_cons_zero, Act.put, List.setIfInBounds_toArray, List.set_cons_zero, List.set_cons_succ]
        refine AnyT.take (i := 17) (v := ?_) rfl (by kernel_rfl) (by kernel_rfl) (fun _ _ _ h => h) (by kernel_rfl) (by kernel_rfl) (Or.inl ⟨by rfl, ?_⟩) HS6.out ?_
        rotate_left
        · (intro w9 h9; go_simp; try with_reducible rfl)
        try simp only [List.getElem_toArray, List.getElem_cons_succ, List.getElem_cons_zero, Act.put, List.setIfInBounds_toArray, List.set_cons_zero, List.set_cons_succ]
        refine AnyT.nil (by kernel_rfl) ?_
        go_wp2_with fail
        go_roundw
        case rel => exact ⟨k + 1, by go_num, HKL.out, by rw [HROW.out]; exact HO6.out, HS6.out⟩
        case measure => (have := HKL.out; simp [intOf]; omega)
    · have hdk : decide ((k : Int) < (sl.length : Int)) = false := decide_eq_false (by omega)
      have hkk : k = sl.length := by omega
      have HKK := hide hkk
      have HOV := hide hov
      clear hkk hk hov
      go_wp2_with fail
      go_ret
      have h9 := HOV.out
      rw [HKK.out, List.take_length] at h9
      exact ⟨_, rfl, h9.low n1, hc1.trans0 hcw⟩
end Go.Proofs.YtfgecgmgbngeaaaGreat
