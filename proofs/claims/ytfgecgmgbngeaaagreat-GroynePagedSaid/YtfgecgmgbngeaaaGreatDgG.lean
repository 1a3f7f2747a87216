/- The walks of drive's List and Replace. -/
import Derived.Test.YtfgecgmgbngeaaaGreatDgF
import Derived.Test.YtfgecgmgbngeaaaGreatShelfPg
import Derived.Shelf.SlicesE.Compact
import Derived.Lib.SlicesS
set_option linter.unusedSimpArgs false
set_option maxRecDepth 100000
namespace Go.Proofs.YtfgecgmgbngeaaaGreat
open Go.RowKit Go.Maps Go.Sort Go.Lib
set_option linter.unusedVariables false

theorem listPred {bx : Nat} {p : ByteArray} {W : World} (hb : W.cell? ⟨bx, 0, none⟩ = some (.string p)) (x : List UInt8) :
    FnGives Tryz.prog 101 #[.pointer (some ⟨bx, 0, none⟩)] #[encStr x] (.bool (!Lib.hasPrefix x p.data.toList)) W := by
  show Calls Tryz.prog 101 #[.string ⟨x.toArray⟩, .pointer (some ⟨bx, 0, none⟩)] W _
  have hp := Tryz.strings_HasPrefix ⟨x.toArray⟩ p W
  go_enter Tryz.func101, Tryz.ntmps101
  go_wp2_with fail
  refine hp.mono ?_
  rintro e w1 ⟨rfl, hw⟩
  subst w1
  clear hp
  go_wp2_with fail
  go_ret
  exact ⟨rfl, 0, rfl⟩

/-- a slice of names, each of them good -/
def RdNm (w : World) (v : Value) (ok : List UInt8 → Prop) : Prop :=
  (∃ A c, v = .slice A 0 c) ∨ ∃ (blk c : Nat) (xs : List (List UInt8)), v = .slice (some ⟨blk, 0, none⟩) xs.length c ∧ xs.length ≤ maxLen ∧ (∀ x ∈ xs, ok x) ∧ ∀ j, j < xs.length → w.cell? ⟨blk, j, none⟩ = some (encStr xs[j]!)

theorem strKeys_dat (l : FL) : strKeys (datS l) = l.map (·.1) := by
  show (l.map fun p => (klS p.1, (DataW.held p.2.1 : DataW Value))).map (fun p => strOf p.1) = _
  rw [List.map_map]
  exact List.map_congr_left fun p _ => rfl
theorem chg_putRow {w : World} {blk q : Nat} {d : Array (List UInt8)} : Chg (fun k => k = blk) w (putRow encStr (Sort.ahead w q) blk 0 d) := by
  have h := grownBy_sorted (w := w) (g := blk) (n := q) (os := #[]) d
  rw [grow_empty] at h
  exact (Chg.of_grown h).mono fun k _ e => by injection e

theorem deleteNil (fv : Value) (w : World) : Calls Tryz.prog 100 #[.slice none 0 0, fv] w fun e w' => e = .returned (.slice none 0 0) ∧ w' = w := by
  have hi := Tryz.slices_IndexFunc_empty_f129 (α := List UInt8) none 0 fv w
  go_enter Tryz.func100, Tryz.ntmps100
  go_wp2_with fail
  refine hi.mono ?_
  rintro e w1 ⟨rfl, hw⟩
  subst w1
  clear hi
  go_wp2_with fail
  go_ret
  exact ⟨rfl, rfl⟩

set_option maxHeartbeats 4000000 in
theorem dgList {w : World} {sup : List Nm} {T : Nat → Prop} {g : Nat} {S : DSt} (h : DrvAt w sup T g S) (hd : S.dead = false) (hsl : sup.length ≤ 1000000) (p : ByteArray) :
    Calls Tryz.prog 62 #[.pointer (some ⟨g, 0, none⟩), .string p] w fun e w' => ∃ v, e = .returned v ∧ RdNm w' v (fun x => (S.seen x).isSome = true) ∧ Chg Non w w' := by
  obtain ⟨sv, nv, qv, lv, F, h⟩ := h
  have k1 : w.cell? ⟨g, 1, none⟩ = some nv := h.blk.cell 1
  have k6 : w.cell? ⟨g, 6, none⟩ = some (.bool false) := by rw [← hd]; exact h.blk.cell 6
  obtain ⟨l, hl, hf⟩ := h.n
  have hlen := hl.len
  have hok : ∀ x ∈ l.map (·.1), (S.seen x).isSome = true := fun x hx => by
    obtain ⟨q, hq, rfl⟩ := List.mem_map.1 hx
    rw [hf]
    unfold fOf
    rw [mem_get keyS hl.once (k := q.1) (v := q.2) hq]
    rfl
  obtain ⟨r, rfl⟩ := hl.form
  have hbx := (Chg.refl Non w).alloc (.cells #[.string p] 9)
  have k1b := hbx.cell k1 (fun h => h)
  have k6b := hbx.cell k6 (fun h => h)
  have hbc : (w.alloc (.cells #[.string p] 9)).cell? ⟨w.heap.size, 0, none⟩ = some (.string p) := (Blk.new w 9 #[.string p]).cell 0
  have hlb := hl.chg hbx (fun _ _ h => h) (fun _ _ h => h)
  have hbs : (w.alloc (.cells #[.string p] 9)).heap.size = w.heap.size + 1 := by simp
  have HOK := hide hok
  clear h hd hl hf k1 k6 hok
  go_enter Tryz.func62, Tryz.ntmps62
  go_upto_region 1 with fail
  generalize w.alloc (.cells #[.string p] 9) = wb at hbx k1b k6b hbc hlb hbs ⊢
  have hkeys := (callsIn_wide (n := 5)).1 (Tryz.maps_Keys_99 r wb)
  have hsort : Calls Tryz.prog 98 #[.func (.func 128) #[] #[.pointer (some ⟨wb.heap.size, 0, none⟩)]] (wb.alloc (.cells #[.map r] 46)) fun e w' => ∃ (v : Value) (ss : List (List UInt8)), e = .returned v ∧ (∀ x ∈ ss, x ∈ l.map (·.1)) ∧
      w'.ownsRow (wb.alloc (.cells #[.map r] 46)).heap.size 9 1 v ss.length ((ss.mergeSort (fun x y => decide (x ≤ y))).map encStr) ∧ Below (wb.alloc (.cells #[.map r] 46)).heap.size (wb.alloc (.cells #[.map r] 46)) w' := by
    rcases hlb.map with ⟨e, rfl⟩ | ⟨B, e, hm⟩
    · injection e with e
      subst e
      refine ((callsIn_wide (n := 5)).1 (Tryz.slices_Sorted_keys_nil_98_99 wb)).mono ?_
      rintro e w' ⟨v, ss, rfl, rfl, h1, _, h2⟩
      exact ⟨v, [], rfl, fun x hx => by simp at hx, h1, h2⟩
    · injection e with e
      subst e
      refine ((callsIn_wide (n := 5)).1 (Tryz.slices_Sorted_keys_98_99 B l.length (datS l) heldR wb hm (by rw [dat_size]; unfold maxLen; omega) (by rw [dat_size]; omega))).mono ?_
      rintro e w' ⟨v, ss, rfl, hp, h1, _, h2⟩
      exact ⟨v, ss, rfl, fun x hx => by rw [← strKeys_dat]; exact hp.mem_iff.1 hx, h1, h2⟩
  have HBS := hide hbs
  clear hlb hlen hbs
  go_upto_region 4 with (first
    | (go_at_call 99; refine hkeys.mono ?_; rintro e w1 ⟨rfl, hw1⟩; subst w1)
    | (go_at_call 98; refine hsort.mono ?_; rintro e w2 ⟨v, ss, rfl, hss, hrow, hbel⟩))
  have hcw2 : Chg Non w w2 := (hbx.alloc _).trans0 (Chg.of_below hbel)
  have hbl : w.heap.size < w2.heap.size := by
    have h1 := hbel.size
    have h2 : (wb.alloc (.cells #[.map r] 46)).heap.size = wb.heap.size + 1 := by simp
    have h3 := HBS.out
    omega
  have hbc2 : w2.cell? ⟨w.heap.size, 0, none⟩ = some (.string p) := (((Chg.refl Non wb).alloc (.cells #[.map r] 46)).trans0 (Chg.of_below hbel)).cell hbc (fun h => h)
  rcases hrow.2 with ⟨rfl, hz⟩ | ⟨gb, cap, cur, rfl, hbase, hgb, r1, r2, r3, r4⟩
  · -- no name at all
    have hdn := fun fv => deleteNil fv w2
    clear hkeys hsort hrow
    go_wp2_with fail
    refine (hdn _).mono ?_
    rintro e w3 ⟨rfl, hw⟩
    subst w3
    clear hdn
    go_wp2_with fail
    go_ret
    exact ⟨_, rfl, .inl ⟨_, _, rfl⟩, hcw2⟩
  · obtain ⟨so, hso⟩ : ∃ so, so = ss.mergeSort (fun x y => decide (x ≤ y)) := ⟨_, rfl⟩
    have hsl2 : so.length = ss.length := by rw [hso, List.length_mergeSort]
    have hsm : ∀ x ∈ so, (S.seen x).isSome = true := fun x hx => HOK.out x (hss x (by rw [hso] at hx; exact List.mem_mergeSort.1 hx))
    rw [← hso, ← hsl2] at r4
    rw [← hsl2] at r1
    rw [Nat.mul_one] at r4
    have hH := holds_of_block hgb r4
    have hgl : wb.heap.size < gb := by
      have h2 : (wb.alloc (.cells #[.map r] 46)).heap.size = wb.heap.size + 1 := by simp
      omega
    have hgw : w.heap.size < gb := by have h3 := HBS.out; omega
    have hp : PredAt Tryz.prog 101 #[.pointer (some ⟨w.heap.size, 0, none⟩)] encStr (fun x => !Lib.hasPrefix x p.data.toList) w2 := fun W x hb => listPred ((Chg.of_below hb).cell hbc2 (fun h => h)) x
    have hpo : PredOver Tryz.prog 101 #[.pointer (some ⟨w.heap.size, 0, none⟩)] encStr (fun x => !Lib.hasPrefix x p.data.toList) gb 0 so.toArray.size w2 := fun n os dk x _ => listPred (((Chg.of_grown (grownBy_sorted (w := w2) (g := gb) (n := n) (os := os) dk))).cell hbc2 (fun e => by injection e with e; exact Nat.ne_of_lt hgw (show w.heap.size = gb from e))) x
    have hdf := Tryz.slices_DeleteFunc encStr (fun _ => rfl) (fun x => !Lib.hasPrefix x p.data.toList) 101 #[.pointer (some ⟨w.heap.size, 0, none⟩)] (enters_of Tryz.func101 (by kernel_rfl) rfl) [] (fun w => by kernel_rfl) gb 0 cap so.toArray w2 hp hpo hH (by rw [List.size_toArray]; unfold maxLen at r2; omega) (by rw [List.size_toArray]; exact r1)
    rw [List.size_toArray, hsl2] at hdf
    simp only [Bool.not_not] at hdf
    obtain ⟨fl, hfl⟩ : ∃ fl, fl = so.filter (fun x => Lib.hasPrefix x p.data.toList) := ⟨_, rfl⟩
    rw [← hfl] at hdf
    have HFL := hide hfl
    have HM := hide hsm
    have HH := hide hH
    have HSO := hide hsl2
    clear hkeys hsort hrow hp hpo hH hsm hso hss r4 hgb r3 hsl2 hfl
    go_wp2_with fail
    refine hdf.mono ?_
    rintro e w3 ⟨rfl, hq⟩
    have HQ := hide hq
    clear hdf hq
    go_wp2_with fail
    go_ret
    obtain ⟨q, hw3⟩ := HQ.out
    have hfl := HFL.out
    have hfll : fl.length ≤ so.length := by rw [hfl]; exact List.length_filter_le _ so
    have hsz3 : (fl ++ List.replicate (ss.length - fl.length) []).toArray.size = so.toArray.size := by
      have := HSO.out
      simp only [List.size_toArray, List.length_append, List.length_replicate]; omega
    refine ⟨_, rfl, .inr ⟨gb, cap, fl, rfl, by omega, fun x hx => HM.out x ?_, fun j hj => ?_⟩, hcw2.trans (by rw [hw3]; exact chg_putRow) fun k hk e => by
      have e : k = gb := e
      omega⟩
    · rw [hfl] at hx
      exact (List.mem_filter.1 hx).1
    · have h0 : Holds encStr (Sort.ahead w2 q) gb 0 so.toArray := HH.out
      have h1 := cell?_putRow encStr (Sort.ahead w2 q) gb 0 so.toArray _ h0 hsz3 j (by rw [hsz3, List.size_toArray]; omega)
      rw [Nat.zero_add] at h1
      rw [hw3, h1]
      congr 2
      rw [getElem!_pos fl j hj, getElem!_pos _ j (by rw [hsz3, List.size_toArray]; omega)]
      simp [List.getElem_append_left hj]

theorem containsNm {w : World} {v : Value} {ok : List UInt8 → Prop} (h : RdNm w v ok) (t : ByteArray) (hno : ¬ ok t.data.toList) :
    Calls Tryz.prog 61 #[v, .string t] w fun e w' => e = .returned (.bool false) ∧ w' = w := by
  rcases h with ⟨A, c, rfl⟩ | ⟨blk, c, xs, rfl, hl, hok, hc⟩
  · exact Tryz.slices_Contains_string_empty A c t w
  · have h1 := Tryz.slices_Contains_string blk 0 xs.length c (xs.map fun x => ⟨x.toArray⟩) t w (by simp) (by unfold maxLen at hl; omega) (fun j hj => by
      rw [List.length_map] at hj
      rw [Nat.zero_add, hc j hj]
      simp [List.getD, hj])
    refine h1.mono ?_
    rintro e w' ⟨rfl, hw⟩
    refine ⟨?_, hw⟩
    have : Lib.containsS ((xs.map fun x => (⟨x.toArray⟩ : ByteArray)).take xs.length) t = false := by
      rw [List.take_of_length_le (by simp)]
      cases e : Lib.containsS (xs.map fun x => (⟨x.toArray⟩ : ByteArray)) t with
      | false => rfl
      | true =>
        have hm := (Lib.containsS_iff _ _).1 e
        obtain ⟨x, hx, e2⟩ := List.mem_map.1 hm
        refine absurd (hok x hx) ?_
        rw [← e2] at hno
        exact hno
    rw [this]

/-- what a drive is behind 'Replace' -/
def Replaced (S S' : DSt) (d1 d2 : Deed) (ev : Int) : Prop :=
  (ev = 9 ∧ S.arm ≠ none ∧ S'.dead = true ∧ S'.safe = S.safe ∧ (S'.queue = S.queue ++ [d1] ∨ S'.queue = S.queue ++ [d1, d2])) ∨
  (ev = 0 ∧ S'.dead = false ∧ S'.safe = d2.all (d1.all S.seen) ∧ S'.seen = d2.all (d1.all S.seen) ∧ S'.queue = [] ∧ (S.arm = none → S'.arm = none))
theorem er9 {S : DSt} (h : S.kl = true) : S.er = 9 := by unfold DSt.er; rw [if_pos h]
theorem er0 {S : DSt} (h : S.kl = false) : S.er = 0 := by unfold DSt.er; rw [h]; rfl
theorem did_dead {S : DSt} {d : Deed} : (S.did d).dead = S.kl := rfl
theorem did_arm {S : DSt} {d : Deed} (h : (S.did d).arm ≠ none) : S.arm ≠ none := fun e => h (by unfold DSt.did; rw [e]; rfl)
theorem did_arm0 {S : DSt} {d : Deed} (h : S.arm = none) : (S.did d).arm = none := by unfold DSt.did; rw [h]; rfl
theorem kl_some {S : DSt} (h : S.kl = true) : S.arm ≠ none := fun e => by unfold DSt.kl at h; rw [e] at h; cases h
theorem kl_arm {S : DSt} (h : S.kl = true) : S.arm = some 0 := by unfold DSt.kl at h; exact beq_iff_eq.1 h
theorem all_seen (f : Fls) (nm : Nm) (a : Nat) (dt : List UInt8) : ((Deed.wr nm a dt).all f nm).isSome = true := by rw [Deed.all_wr, setF_same]; rfl

set_option maxHeartbeats 4000000 in
theorem dgReplace {w : World} {sup : List Nm} {T G : Nat → Prop} {g : Nat} {S : DSt} {s t : ByteArray} {bv : Value} {dt : List UInt8} (ht : t = s ++ ⟨#[126]⟩) (h : DrvAt w sup T g S) (hd : S.dead = false) (hsup : sup.Pairwise (· ≠ ·)) (hsl : sup.length ≤ 1000000) (hs : s.size ≤ 900) (hin : s.data.toList ∈ sup) (hint : t.data.toList ∈ sup)
    (hno : S.seen t.data.toList = none) (hb : RdB w G bv dt) (hsz : totF sup S.seen + dt.length ≤ 500000000) (hq : S.queue.length ≤ 900000) :
    Calls Tryz.prog 31 #[.pointer (some ⟨g, 0, none⟩), .string s, bv] w fun e w' => ∃ ev S', e = .returned (.int .i64 ev) ∧ DrvAt w' sup (Ext T w w') g S' ∧ Chg T w w' ∧ Replaced S S' (.wr t.data.toList 0 dt) (.mv t.data.toList s.data.toList) ev := by
  have htz : t.size ≤ 1000 := by
    rw [ht, ByteArray.size_append, show (⟨#[126]⟩ : ByteArray).size = 1 from rfl]
    omega
  have hTg := h.tg
  have hT0 := fun b (hb : T b) => h.lt hb
  have hdead := dgDead h
  rw [hd] at hdead
  have hlist := dgList h hd hsl t
  obtain ⟨B1, cb, rfl, hcb, hmb⟩ := hb.shape
  have hadd : s ++ (⟨#[126]⟩ : ByteArray) = t := ht.symm
  have HT := hide ht
  clear ht
  go_enter Tryz.func31, Tryz.ntmps31
  go_wp2_with fail
  refine hdead.mono ?_
  rintro e w1 ⟨rfl, hw⟩
  subst w1
  clear hdead
  go_wp2_with fail
  refine hlist.mono ?_
  rintro e w2 ⟨v, rfl, hnm, hc2⟩
  have hcon := containsNm hnm t (by rw [hno]; simp)
  clear hlist hnm
  go_wp2_with fail
  refine hcon.mono ?_
  rintro e w3 ⟨rfl, hw⟩
  subst w3
  have h2 := h.c0 hc2
  have n2 := hc2.size
  have happ := dgAppend h2 hd hsup hsl htz hint (hb.c0 hc2) hsz (by rw [hno]; simp) (by omega)
  rw [hno] at happ
  have happ : Calls Tryz.prog 64 #[.pointer (some ⟨g, 0, none⟩), .string t, .slice B1 dt.length cb] w2 fun e w' => e = .returned (.int .i64 S.er) ∧ DrvAt w' sup (Ext T w2 w') g (S.did (.wr t.data.toList 0 dt)) ∧ Chg T w2 w' := happ
  clear hcon h h2 hb
  cases hk : S.kl with
  | true =>
    rw [er9 hk] at happ
    have HK := hide hk
    clear hk
    go_wp2_with fail
    refine happ.mono ?_
    rintro e w4 ⟨rfl, h4, hc4⟩
    clear happ
    go_wp2_with fail
    go_ret
    have n4 := hc4.size
    exact ⟨9, _, rfl, h4.up (fun b hb => hb.back n2) (Ext.lt hT0 (by omega)), (hc2.mono fun _ _ h => h.elim).trans hc4 fun _ _ h => h, .inl ⟨rfl, kl_some HK.out, HK.out, rfl, .inl rfl⟩⟩
  | false =>
    rw [er0 hk] at happ
    have HK := hide hk
    have hd1 : (S.did (.wr t.data.toList 0 dt)).dead = false := hk
    clear hk
    go_wp2_with fail
    refine happ.mono ?_
    rintro e w4 ⟨rfl, h4, hc4⟩
    clear happ
    have n4 := hc4.size
    have hren := dgRename (s := t) (t := s) h4 hd1 hsl htz (by omega) hin (all_seen _ _ _ _) (by show (S.queue ++ [_]).length ≤ _; rw [List.length_append]; simp only [List.length_cons, List.length_nil]; omega)
    cases hk1 : (S.did (.wr t.data.toList 0 dt)).kl with
    | true =>
      rw [er9 hk1] at hren
      have HK1 := hide hk1
      clear hk1 hd1 h4
      go_wp2_with fail
      refine hren.mono ?_
      rintro e w5 ⟨rfl, h5, hc5⟩
      clear hren
      go_wp2_with fail
      go_ret
      have n5 := hc5.size
      refine ⟨9, _, rfl, h5.up (fun b hb => (hb.trans n4 n5).back n2) (Ext.lt hT0 (by omega)), ((hc2.mono fun _ _ h => h.elim).trans hc4 fun _ _ h => h).trans hc5 fun k hk e => ?_, .inl ⟨rfl, did_arm (kl_some HK1.out), HK1.out, rfl, .inr ?_⟩⟩
      · rcases e with e | e
        · exact e
        · omega
      · show S.queue ++ [_] ++ [_] = _
        rw [List.append_assoc]; rfl
    | false =>
      rw [er0 hk1] at hren
      have HK1 := hide hk1
      have hd2 : ((S.did (.wr t.data.toList 0 dt)).did (.mv t.data.toList s.data.toList)).dead = false := hk1
      clear hk1 hd1 h4
      go_wp2_with fail
      refine hren.mono ?_
      rintro e w5 ⟨rfl, h5, hc5⟩
      clear hren
      have n5 := hc5.size
      have hfl := dgFlush h5 hd2
      obtain ⟨ev, hev⟩ : ∃ ev, ev = ((S.did (.wr t.data.toList 0 dt)).did (.mv t.data.toList s.data.toList)).er := ⟨_, rfl⟩
      rw [← hev] at hfl
      have HEV := hide hev
      clear hev hd2 h5
      go_wp2_with fail
      refine hfl.mono ?_
      rintro e w6 ⟨rfl, h6, hc6⟩
      clear hfl
      go_wp2_with fail
      go_ret
      have n6 := hc6.size
      refine ⟨ev, _, rfl, h6.up (fun b hb => ((Ext.trans (by omega) n6 (by
        rcases hb with hb | hb
        · exact .inl (hb.trans n4 n5)
        · exact .inr hb)) : Ext T w2 w6 b).back n2) (Ext.lt hT0 (by omega)), (((hc2.mono fun _ _ h => h.elim).trans hc4 fun _ _ h => h).trans hc5 fun k hk e => ?_).trans hc6 fun k hk e => ?_, ?_⟩
      · rcases e with e | e
        · exact e
        · omega
      · rcases e with (e | e) | e
        · exact e
        · omega
        · omega
      · rw [HEV.out]
        cases hk2 : ((S.did (.wr t.data.toList 0 dt)).did (.mv t.data.toList s.data.toList)).kl with
        | true =>
          left
          refine ⟨er9 hk2, did_arm (did_arm (kl_some hk2)), ?_, ?_, .inr ?_⟩
          · unfold DSt.flushed; rw [if_pos hk2]; exact hk2
          · unfold DSt.flushed; rw [if_pos hk2]; rfl
          · unfold DSt.flushed; rw [if_pos hk2]
            show S.queue ++ [_] ++ [_] = _
            rw [List.append_assoc]; rfl
        | false =>
          right
          refine ⟨er0 hk2, ?_, ?_, ?_, ?_, fun e => ?_⟩
          · unfold DSt.flushed; rw [hk2]; rfl
          · unfold DSt.flushed; rw [hk2]; rfl
          · unfold DSt.flushed; rw [hk2]; rfl
          · unfold DSt.flushed; rw [hk2]; rfl
          · unfold DSt.flushed; rw [hk2]
            show Option.map _ _ = none
            rw [did_arm0 (did_arm0 e)]; rfl
end Go.Proofs.YtfgecgmgbngeaaaGreat
