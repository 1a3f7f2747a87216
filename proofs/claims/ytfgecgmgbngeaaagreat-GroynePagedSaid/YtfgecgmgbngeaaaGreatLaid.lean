/- The walk of groynetop.laid: a leaf in as many pages as it needs. -/
import Derived.Test.YtfgecgmgbngeaaaGreatPlOM
import Derived.Test.YtfgecgmgbngeaaaGreatLfK
set_option maxRecDepth 100000
namespace Go.Proofs.YtfgecgmgbngeaaaGreat
open Go.RowKit Go.Maps
set_option linter.unusedVariables false
set_option linter.unusedSimpArgs false

theorem PG.alloc {pre : ByteArray} {S : DSt} {sl tab : Slots} {sf : List (Int × Int)} {at_ : Ats} {sv : Option (List UInt8 × (Nat → List UInt8))} (h : PG pre S sl sf at_ tab sv) {i : Nat} (hi : ∀ p ∈ sl, p.1 ≠ i) (hn : sl.length < 65536) (hb : i < 65536) :
    PG pre S (aPut klI i (-1) sl) sf at_ tab sv ∧ ∀ j, cont ((S.seen (nf pre)).getD []) (aPut klI i (-1) sl) at_ j = if j = i then zeros else cont ((S.seen (nf pre)).getD []) sl at_ j := by
  obtain ⟨h1, h2⟩ := h.inv.alloc hi hn hb
  exact ⟨⟨h1, h.sf, h.dead, h.out, h.seen, h.nt, h.mt, h.bs, h.hold⟩, h2⟩
/-- the length of the slice in a block's second cell -/
def lenAt (w : World) (b : Nat) : Nat := match w.cell? ⟨b, 1, none⟩ with
  | some (.slice _ n _) => n
  | _ => 0
theorem lenAt_eq {w : World} {b n c : Nat} {A : Option Addr} (h : w.cell? ⟨b, 1, none⟩ = some (.slice A n c)) : lenAt w b = n := by unfold lenAt; rw [h]
theorem lim_kv {l : List KV} (hg : GoodKV l) (hn : l.length ≤ 120) : Lim (ksL l) (vsL l) :=
  ⟨by rw [ksL_length]; omega, by rw [ksL_length, vsL_length], fun x hx => by obtain ⟨p, hp, rfl⟩ := List.mem_map.1 hx; have := (hg.len p hp).1; omega, fun x hx => by obtain ⟨p, hp, rfl⟩ := List.mem_map.1 hx; have := (hg.len p hp).2; omega⟩
/-- what laid has laid so far -/
structure LaidP (l : List KV) (r : Nat) (PL : List (List KV)) (pre : ByteArray) (S : DSt) (sl : Slots) (at_ : Ats) : Prop where
  flat : PL.flatten = l.take r
  le : r ≤ l.length
  n : PL.length ≤ r + 1
  size : ∀ x ∈ PL, sizeKV x ≤ 512
  keys : sl.map (·.1) = List.range PL.length
  ct : ∀ (j : Nat) (x : List KV), PL[j]? = some x → cont ((S.seen (nf pre)).getD []) sl at_ j = pageKV x
theorem range_new {sl : Slots} {k i : Nat} (hk : sl.map (·.1) = List.range k) (h1 : ∀ p ∈ sl, p.1 ≠ i) (h2 : ∀ j, j < i → ∃ p ∈ sl, p.1 = j) : i = k := by
  have a : ¬ i < k := fun h => by
    have : i ∈ sl.map (·.1) := by rw [hk]; exact List.mem_range.2 h
    obtain ⟨p, hp, e⟩ := List.mem_map.1 this
    exact h1 p hp e
  have b : ¬ k < i := fun h => by
    obtain ⟨p, hp, e⟩ := h2 k h
    have : p.1 ∈ List.range k := by rw [← hk]; exact List.mem_map.2 ⟨p, hp, rfl⟩
    rw [e] at this
    have := List.mem_range.1 this
    omega
  omega
theorem range_put {sl : Slots} {k : Nat} {v : Int} (hk : sl.map (·.1) = List.range k) : (aPut klI k v sl).map (·.1) = List.range (k + 1) := by
  rw [put_last, List.map_append, hk, List.range_succ]; rfl
  intro p hp
  have : p.1 ∈ List.range k := by rw [← hk]; exact List.mem_map.2 ⟨p, hp, rfl⟩
  exact List.mem_range.1 this
/-- the facts of a pool under way, all but its memory -/
structure PlUp (pre : ByteArray) (hand : Nat) (S0 S : DSt) (q : Nat) (sl tab : Slots) (sf : List (Int × Int)) (at_ : Ats) (sv : Option (List UInt8 × (Nat → List UInt8))) : Prop where
  g : PG pre S sl sf at_ tab sv
  le : at_.length ≤ hand
  q : S.queue.length ≤ q
  arm : S0.arm = none → S.arm = none

theorem LaidP.step {l : List KV} {r m : Nat} {PL : List (List KV)} {pre : ByteArray} {S S' : DSt} {sl sl' : Slots} {at_ at' : Ats} (h : LaidP l r PL pre S sl at_) (hpr : PL.length ≤ r) (hm : m ≤ (l.drop r).length) (hs : sizeKV ((l.drop r).take m) ≤ 512) (hk : sl'.map (·.1) = List.range (PL.length + 1))
    (hct : ∀ j, cont ((S'.seen (nf pre)).getD []) sl' at' j = if j = PL.length then pageKV ((l.drop r).take m) else cont ((S.seen (nf pre)).getD []) sl at_ j) : LaidP l (r + m) (PL ++ [(l.drop r).take m]) pre S' sl' at' := by
  have hdl : (l.drop r).length = l.length - r := List.length_drop
  refine ⟨?_, by have := h.le; omega, ?_, fun x hx => ?_, by rw [hk, List.length_append]; rfl, fun j x hx => ?_⟩
  · rw [List.flatten_append, h.flat, List.take_add]
    simp
  · rw [List.length_append]; simp; omega
  · rcases List.mem_append.1 hx with hx | hx
    · exact h.size x hx
    · rw [List.mem_singleton.1 hx]; exact hs
  · rw [hct j]
    rw [List.getElem?_append] at hx
    by_cases hj : j < PL.length
    · rw [if_pos hj] at hx
      rw [if_neg (by omega)]
      exact h.ct j x hx
    · rw [if_neg hj] at hx
      have e : j = PL.length := by
        have := (List.getElem?_eq_some_iff.1 hx).1
        simp at this; omega
      rw [if_pos e]
      subst e
      simp at hx
      rw [hx]
set_option maxHeartbeats 32000000 in
theorem laidW {w : World} {TD TP G F : Nat → Prop} {gd g hand bs bf ba : Nat} {pre : ByteArray} {S : DSt} {tab : Slots} {sf : List (Int × Int)} {cl h1 h2 h3 : Int} {sv : Option (List UInt8 × (Nat → List UInt8))} {sl : Slots} {at_ : Ats}
    (h : PoolM w TD TP G gd g pre hand S sl sf at_ bs bf ba cl h1 h2 h3) (hU : PlUp pre hand S S S.queue.length sl tab sf at_ sv) (h0 : sl = []) (h1h : 1 ≤ hand) (hhb : hand ≤ 1000) (hq : S.queue.length ≤ 500000)
    {KA VA NA : Option Addr} {kn kc vn vc nn nc : Nat} {l : List KV} (hk : RdBB w F (.slice KA kn kc) (ksL l)) (hv : RdBB w F (.slice VA vn vc) (vsL l)) (hg : GoodKV l) (hln : l.length ≤ 120) (hF : ∀ b, F b → b < w.heap.size ∧ ¬ (TD b ∨ TP b)) :
    Calls Tryz.prog 7 #[.pointer (some ⟨g, 0, none⟩), .agg #[.bool true, .slice KA kn kc, .slice VA vn vc, .slice NA nn nc]] w fun e w' => Chg (fun b => TD b ∨ TP b) w w' ∧
      ((e = .returned (.bool false) ∧ S.arm ≠ none ∧ ∃ S', DrvAt w' (supP pre) (Ext TD w w') gd S' ∧ PDead pre S' (Last pre tab sv)) ∨
       (e = .returned (.bool true) ∧ ∃ S' sl' at' TD' TP' G' cl' a3 PL, PoolM w' TD' TP' G' gd g pre hand S' sl' sf at' bs bf ba cl' h1 h2 a3 ∧ PlUp pre hand S S' (S.queue.length + 200) sl' tab sf at' sv ∧ (LaidP l l.length PL pre S' sl' at' ∧ PL ≠ []) ∧ (∀ b, TD' b → Ext TD w w' b) ∧ ∀ b, TP' b → Ext TP w w' b)) := by
  have hTl := h.drv.lt'
  have hPl := h.lt
  have hb3 := Blk.new w 25 #[.bool true, .slice KA kn kc, .slice VA vn vc, .slice NA nn nc]
  have hc3 := (Chg.refl Non w).alloc (.cells #[.bool true, .slice KA kn kc, .slice VA vn vc, .slice NA nn nc] 25)
  have hn3 := sizeAl' w (.cells #[.bool true, .slice KA kn kc, .slice VA vn vc, .slice NA nn nc] 25)
  have hb5 := Blk.new (w.alloc (.cells #[.bool true, .slice KA kn kc, .slice VA vn vc, .slice NA nn nc] 25)) 65 #[.bool true, .slice KA kn kc, .slice VA vn vc, .slice none 0 0]
  have hc5 := (Chg.refl Non (w.alloc (.cells #[.bool true, .slice KA kn kc, .slice VA vn vc, .slice NA nn nc] 25))).alloc (.cells #[.bool true, .slice KA kn kc, .slice VA vn vc, .slice none 0 0] 65)
  have hn5 := sizeAl' (w.alloc (.cells #[.bool true, .slice KA kn kc, .slice VA vn vc, .slice NA nn nc] 25)) (.cells #[.bool true, .slice KA kn kc, .slice VA vn vc, .slice none 0 0] 65)
  rw [hn3] at hb5 hn5
  have HP := hide h
  have HU := hide hU
  have HL := hide (And.intro hTl hPl)
  have HF := hide hF
  have H0 := hide h0
  have y1 : (w.alloc (.cells #[.bool true, .slice KA kn kc, .slice VA vn vc, .slice NA nn nc] 25)).cell? ⟨w.heap.size, 1, none⟩ = some (.slice KA kn kc) := hb3.cell 1
  have y2 : (w.alloc (.cells #[.bool true, .slice KA kn kc, .slice VA vn vc, .slice NA nn nc] 25)).cell? ⟨w.heap.size, 2, none⟩ = some (.slice VA vn vc) := hb3.cell 2
  clear h hU hTl hPl hF h0
  go_enter Tryz.func7, Tryz.ntmps7
  go_wp2_with fail
  obtain ⟨rb, hrb⟩ : ∃ rb, rb = w.heap.size + 1 := ⟨_, rfl⟩
  have hc2 := hc3.trans0 hc5
  have hk2 := hk.c0 hc2
  have hv2 := hv.c0 hc2
  have HP2 := hide (HP.out.c0 hc2)
  rw [← hrb] at hb5 hn5 ⊢
  clear y1 y2 hb3 hc3 hn3 hc5 hk hv
  generalize World.alloc (World.alloc w _) _ = w2 at hb5 hn5 hc2 hk2 hv2 HP2 ⊢
  have HC2 := hide hc2
  have HB5 := hide hb5
  have HKV := hide (And.intro hk2 hv2)
  have HRB := hide (And.intro hrb hn5)
  have HP0 := HP
  clear hb5 hn5 hc2 hk2 hv2 hrb HP
  go_loopw [] (fun wr => ∃ (r : Nat) (PL : List (List KV)) (S1 : DSt) (sl1 : Slots) (at1 : Ats) (TD1 TP1 G1 : Nat → Prop) (cl1 a3 : Int) (KA : Option Addr) (kn kc : Nat) (VA : Option Addr) (vn vc : Nat), Hid (LaidP l r PL pre S1 sl1 at1 ∧ PL.length ≤ r ∧ (r < l.length ∨ l.length = 0)) ∧ Hid (PlUp pre hand S S1 (S.queue.length + PL.length) sl1 tab sf at1 sv) ∧ PoolM wr TD1 TP1 G1 gd g pre hand S1 sl1 sf at1 bs bf ba cl1 h1 h2 a3 ∧ Hid ((∀ b, TD1 b → Ext TD w2 wr b) ∧ ∀ b, TP1 b → Ext TP w2 wr b) ∧ Blk wr rb 65 #[.bool true, .slice KA kn kc, .slice VA vn vc, .slice none 0 0] ∧ Hid (RdBB wr F (.slice KA kn kc) (ksL (l.drop r)) ∧ RdBB wr F (.slice VA vn vc) (vsL (l.drop r))) ∧ Chg (fun b => (TD b ∨ TP b) ∨ b = rb) w2 wr) (fun wr => lenAt wr rb)
  case atStart =>
    have e0 := H0.out
    subst e0
    exact ⟨0, [], S, [], at_, TD, TP, G, cl, h3, KA, kn, kc, VA, vn, vc, hide ⟨⟨rfl, Nat.zero_le _, by simp, fun x hx => by simp at hx, rfl, fun j x hx => by simp at hx⟩, Nat.le_refl _, by omega⟩, hide ⟨HU.out.g, HU.out.le, Nat.le_refl _, fun e => e⟩, HP2.out, hide ⟨fun b hb => .inl hb, fun b hb => .inl hb⟩, HB5.out, HKV, Chg.refl _ _⟩
  case round =>
    obtain ⟨r, PL, S1, sl1, at1, TD1, TP1, G1, cl1, a3, KA, kn, kc, VA, vn, vc, hLP, hU1, hP1, hT1, hB1, hR1, hcw⟩ := hrel
    have nr := hcw.size
    have hlr : PL.length ≤ 120 := by have := hLP.out.2.1; have := hLP.out.1.le; omega
    have hslen : sl1.length = PL.length := by
      have := congrArg List.length hLP.out.1.keys
      rwa [List.length_map, List.length_range] at this
    have hal := plAlloc hP1 (by omega) hU1.out.g.inv.rs
    have HB1 := hide hB1
    have HCW := hide hcw
    have HP1 := hide hP1
    have HSL := hide hslen
    clear hP1 hB1 hcw hslen
    go_upto_region 2 with fail
    go_upto_region 3 with (go_at_call 20; refine hal.mono ?_; rintro e w3 ⟨ix, rfl, hi1, hi2, hi3, hP3, hc3⟩)
    have hix : ix = PL.length := range_new hLP.out.1.keys hi1 hi3
    have hkeys := range_put (v := -1) hLP.out.1.keys
    rw [← hix] at hkeys
    obtain ⟨hG3, hct3⟩ := hU1.out.g.alloc hi1 (by rw [HSL.out]; omega) hi2
    have HIX := hide (And.intro hix (And.intro hkeys hct3))
    have HG3 := hide hG3
    have HP3 := hide hP3
    have hbs1 := HP1.out.tg.2.1
    have hrb9 := HRB.out
    have hTP1rb : ¬ TP1 rb := fun e => by
      rcases hT1.out.2 rb e with e | e
      · have := HL.out.2 rb e; omega
      · omega
    have hTD1rb : ¬ TD1 rb := fun e => by
      rcases hT1.out.1 rb e with e | e
      · have := HL.out.1 rb e; omega
      · omega
    have hB3 := HB1.out.chg hc3 (fun e => hTP1rb (by have e : rb = bs := e; rw [e]; exact hbs1))
    have hF1 : ∀ b, F b → ¬ (TD1 b ∨ TP1 b) ∧ b < w2.heap.size := fun b hb => by
      have h9 := HF.out b hb
      refine ⟨fun e => ?_, by omega⟩
      rcases e with e | e
      · rcases hT1.out.1 b e with e | e
        · exact h9.2 (.inl e)
        · omega
      · rcases hT1.out.2 b e with e | e
        · exact h9.2 (.inr e)
        · omega
    have HF1 := hide hF1
    have HR3 := hide (And.intro (hR1.out.1.chg hc3 (fun b hb e => (hF1 b hb).1 (.inr (by have e : b = bs := e; rw [e]; exact hbs1)))) (hR1.out.2.chg hc3 (fun b hb e => (hF1 b hb).1 (.inr (by have e : b = bs := e; rw [e]; exact hbs1)))))
    have HRBT := hide (And.intro hTP1rb hTD1rb)
    have HB3 := hide hB3
    have HC3 := hide hc3
    have n3 := hc3.size
    have p0 : w3.cell? ⟨rb, 0, none⟩ = some (.bool true) := hB3.cell 0
    have p1 : w3.cell? ⟨rb, 1, none⟩ = some (.slice KA kn kc) := hB3.cell 1
    have p2 : w3.cell? ⟨rb, 2, none⟩ = some (.slice VA vn vc) := hB3.cell 2
    have p3 : w3.cell? ⟨rb, 3, none⟩ = some (.slice none 0 0) := hB3.cell 3
    have hb8 := Blk.new w3 65 #[.bool true, .slice KA kn kc, .slice VA vn vc, .slice none 0 0]
    have hc8 := (Chg.refl Non w3).alloc (.cells #[.bool true, .slice KA kn kc, .slice VA vn vc, .slice none 0 0] 65)
    have hn8 := sizeAl' w3 (.cells #[.bool true, .slice KA kn kc, .slice VA vn vc, .slice none 0 0] 65)
    clear hal hi1 hi2 hi3 hix hkeys hct3 hG3 hP3 hbs1 hTP1rb hTD1rb hB3 hF1 hc3 hrb9
    go_wp2_with fail
    obtain ⟨sb, hsb⟩ : ∃ sb, sb = w3.heap.size := ⟨_, rfl⟩
    rw [← hsb] at hb8 hn8 ⊢
    have HSB := hide (And.intro hsb hn8)
    have HC8 := hide hc8
    have HB8 := hide hb8
    clear p0 p1 p2 p3 hsb hn8 hc8 hb8
    generalize World.alloc w3 _ = w4 at HC8 HB8 HSB ⊢
    have hDn : ∀ m, (l.drop r).take m = (l.drop r).take m := fun _ => rfl
    have hGd : GoodKV (l.drop r) := hg.drop r
    have hDl : (l.drop r).length = l.length - r := List.length_drop
    go_loopw [] (fun wz => ∃ (m : Nat) (Fs : Nat → Prop) (KB : Option Addr) (kbn kbc : Nat) (VB : Option Addr) (vbn vbc : Nat), m ≤ (l.drop r).length ∧ (1 ≤ m ∨ l.length = 0) ∧ Blk wz sb 65 #[.bool true, .slice KB kbn kbc, .slice VB vbn vbc, .slice none 0 0] ∧ Hid (RdBB wz Fs (.slice KB kbn kbc) (ksL ((l.drop r).take m)) ∧ RdBB wz Fs (.slice VB vbn vbc) (vsL ((l.drop r).take m)) ∧ ∀ b, Fs b → b < wz.heap.size ∧ b ≠ sb) ∧ Chg (fun k => k = sb) w4 wz) (fun wz => lenAt wz sb)
    case atStart =>
      have e9 : (l.drop r).take (l.drop r).length = l.drop r := List.take_length
      refine ⟨(l.drop r).length, F, KA, kn, kc, VA, vn, vc, Nat.le_refl _, by have := hLP.out.2.2; omega, HB8.out, hide ⟨by rw [e9]; exact HR3.out.1.c0 HC8.out, by rw [e9]; exact HR3.out.2.c0 HC8.out, fun b hb => ?_⟩, Chg.refl _ _⟩
      have h9 := HF1.out b hb
      have h8 := HSB.out
      have h7 := HC8.out.size
      omega
    case round =>
      obtain ⟨m, Fs, KB, kbn, kbc, VB, vbn, vbc, hm, hm1, hBz, hRz, hcz⟩ := hrel
      obtain ⟨sm, hsm⟩ : ∃ sm, sm = (l.drop r).take m := ⟨_, rfl⟩
      have hsml : sm.length = m := by rw [hsm, List.length_take]; omega
      have hGs : GoodKV sm := by rw [hsm]; exact hGd.take m
      rw [← hsm] at hRz
      have q0 : wr.cell? ⟨sb, 0, none⟩ = some (.bool true) := hBz.cell 0
      have q1 : wr.cell? ⟨sb, 1, none⟩ = some (.slice KB kbn kbc) := hBz.cell 1
      have q2 : wr.cell? ⟨sb, 2, none⟩ = some (.slice VB vbn vbc) := hBz.cell 2
      have q3 : wr.cell? ⟨sb, 3, none⟩ = some (.slice none 0 0) := hBz.cell 3
      have hszl := size_le hGs
      have hsz0 := size_split sm
      have hsz := lfSize (NA := none) (nc := 0) hRz.out.1 hRz.out.2.1 (by omega)
      rw [← hsz0] at hsz
      obtain ⟨z, hz⟩ : ∃ z, z = sizeKV sm := ⟨_, rfl⟩
      rw [← hz] at hsz
      have HM := hide (And.intro hm (And.intro hm1 (And.intro hsml hz)))
      have HSM := hide hsm
      have HSZ := hide (And.intro hszl hsz0)
      have HBz := hide hBz
      have HCz := hide hcz
      have nz := hcz.size
      clear hm hm1 hsml hz hsm hBz hcz hszl hsz0
      by_cases hbig : 512 < z
      · have hd : decide ((512 : Int) < (z : Int)) = true := decide_eq_true (by omega)
        have hL3 := big_three hGs (by have := HM.out.2.2.2; omega)
        have hcs : ∀ w9, Chg Non wr w9 → Calls Tryz.prog 22 #[.agg #[.bool true, .slice KB kbn kbc, .slice VB vbn vbc, .slice none 0 0]] w9 _ := fun w9 h9 => lfSplit (hRz.out.1.c0 h9) (hRz.out.2.1.c0 h9) (lim_kv hGs (by have := HM.out; omega)) (fun b hb => Nat.lt_of_lt_of_le (hRz.out.2.2 b hb).1 h9.size) (by rw [ksL_length]; omega) (by have := HSZ.out; have := HM.out; omega)
        go_wp2_with fail
        refine hsz.mono ?_
        rintro e w5 ⟨rfl, hc5⟩
        have hsp := hcs w5 hc5
        have hb5 := HBz.out.c0 hc5
        have q05 : w5.cell? ⟨sb, 0, none⟩ = some (.bool true) := hb5.cell 0
        have q15 : w5.cell? ⟨sb, 1, none⟩ = some (.slice KB kbn kbc) := hb5.cell 1
        have q25 : w5.cell? ⟨sb, 2, none⟩ = some (.slice VB vbn vbc) := hb5.cell 2
        have q35 : w5.cell? ⟨sb, 3, none⟩ = some (.slice none 0 0) := hb5.cell 3
        have HC5 := hide hc5
        clear hsz hcs q0 q1 q2 q3 hb5 hc5
        go_wp2_with fail
        refine hsp.mono ?_
        rintro e w6 ⟨k, kA, kn', kc', vA, vn', vc', x, y, hk1, hk2, rfl, hrk, hrv, hc6⟩
        have hb6 := (HBz.out.c0 HC5.out).c0 hc6
        have y0 : w6.cell? ⟨sb, 0, none⟩ = some (.bool true) := hb6.cell 0
        have y1 : w6.cell? ⟨sb, 1, none⟩ = some (.slice KB kbn kbc) := hb6.cell 1
        have y2 : w6.cell? ⟨sb, 2, none⟩ = some (.slice VB vbn vbc) := hb6.cell 2
        have y3 : w6.cell? ⟨sb, 3, none⟩ = some (.slice none 0 0) := hb6.cell 3
        have f0 := hb6.frozen 0
        have f1 := hb6.frozen 1
        have f2 := hb6.frozen 2
        have f3 := hb6.frozen 3
        have hr8 := (((hb6.set_ 0 (.bool true)).set_ 1 (.slice kA kn' kc')).set_ 2 (.slice vA vn' vc')).set_ 3 (.slice none 0 0)
        simp at hr8
        have hc8 : Chg (fun k => k = sb) w6 ((((w6.setCell ⟨sb, 0, none⟩ (.bool true)).setCell ⟨sb, 1, none⟩ (.slice kA kn' kc')).setCell ⟨sb, 2, none⟩ (.slice vA vn' vc')).setCell ⟨sb, 3, none⟩ (.slice none 0 0)) :=
          Chg.setCell (p := ⟨sb, 3, none⟩) (Chg.setCell (p := ⟨sb, 2, none⟩) (Chg.setCell (p := ⟨sb, 1, none⟩) (Chg.setCell (p := ⟨sb, 0, none⟩) (Chg.refl (fun k => k = sb) w6) (fun _ => rfl) _) (fun _ => rfl) _) (fun _ => rfl) _) (fun _ => rfl) _
        have n5 := HC5.out.size
        have hsbl : sb < wr.heap.size := HBz.out.lt
        have n8 := hc8.size
        have hfn : ∀ b, (Fs b ∨ w5.heap.size ≤ b) ∧ b < w6.heap.size → b < w6.heap.size ∧ b ≠ sb := fun b hb => ⟨hb.2, fun e => by
          rcases hb.1 with h | h
          · exact (hRz.out.2.2 b h).2 e
          · omega⟩
        have HR8 := hide (And.intro (hrk.chg hc8 fun b hb e => (hfn b hb).2 e) (And.intro (hrv.chg hc8 fun b hb e => (hfn b hb).2 e) (show ∀ b, (Fs b ∨ w5.heap.size ≤ b) ∧ b < w6.heap.size → b < ((((w6.setCell ⟨sb, 0, none⟩ (.bool true)).setCell ⟨sb, 1, none⟩ (.slice kA kn' kc')).setCell ⟨sb, 2, none⟩ (.slice vA vn' vc')).setCell ⟨sb, 3, none⟩ (.slice none 0 0)).heap.size ∧ b ≠ sb from fun b hb => ⟨Nat.lt_of_lt_of_le hb.2 n8, (hfn b hb).2⟩)))
        have HB8' := hide hr8
        have HC8' := hide (((HCz.out.trans0 HC5.out).trans0 hc6).trans hc8 fun b hb e => e)
        have HKK := hide (And.intro hk1 hk2)
        have hkn : kn' = k := by
          obtain ⟨_, _, e, _⟩ := hrk.shape
          injection e with _ e _
          rw [e, List.length_take]
          rw [ksL_length] at hk2 ⊢
          omega
        have hkbn : kbn = m := by
          obtain ⟨_, _, e, _⟩ := hRz.out.1.shape
          injection e with _ e _
          rw [e, ksL_length]; exact HM.out.2.2.1
        have HKN := hide (And.intro hkn hkbn)
        clear hsp q05 q15 q25 q35 hrk hrv hc6 hb6 hr8 hc8 hfn hk1 hk2 hkn hkbn n8
        go_wp2_with fail
        generalize World.setCell _ _ _ = w9 at HR8 HB8' HC8' ⊢
        have hkm : k < m := by
          have h9 := HKK.out.2
          rw [ksL_length] at h9
          have := HM.out
          omega
        have etk : (l.drop r).take k = sm.take k := by
          rw [HSM.out, List.take_take, Nat.min_eq_left (Nat.le_of_lt hkm)]
        go_roundw
        case rel => exact ⟨k, fun b => (Fs b ∨ w5.heap.size ≤ b) ∧ b < w6.heap.size, kA, kn', kc', vA, vn', vc', by have := HM.out; omega, .inl HKK.out.1, HB8'.out, hide ⟨by rw [etk, ksL_take]; exact HR8.out.1, by rw [etk, vsL_take]; exact HR8.out.2.1, HR8.out.2.2⟩, HC8'.out⟩
        case measure =>
          rw [lenAt_eq (HB8'.out.cell 1), lenAt_eq (HBz.out.cell 1), HKN.out.1, HKN.out.2]
          exact hkm
      · have hd : decide ((512 : Int) < (z : Int)) = false := decide_eq_false (by omega)
        have hen : ∀ w9, Chg Non wr w9 → Calls Tryz.prog 23 #[.agg #[.bool true, .slice KB kbn kbc, .slice VB vbn vbc, .slice none 0 0]] w9 _ := fun w9 h9 => lfEncode (NA := none) (nc := 0) (hRz.out.1.c0 h9) (hRz.out.2.1.c0 h9) hGs (by have := HM.out; omega)
        obtain ⟨w5z, hw5z⟩ : ∃ w', w' = wr := ⟨_, rfl⟩
        subst hw5z
        go_wp2_with fail
        refine hsz.mono ?_
        rintro e w5 ⟨rfl, hc5⟩
        have hens := hen w5 hc5
        have hb5 := HBz.out.c0 hc5
        have q05 : w5.cell? ⟨sb, 0, none⟩ = some (.bool true) := hb5.cell 0
        have q15 : w5.cell? ⟨sb, 1, none⟩ = some (.slice KB kbn kbc) := hb5.cell 1
        have q25 : w5.cell? ⟨sb, 2, none⟩ = some (.slice VB vbn vbc) := hb5.cell 2
        have q35 : w5.cell? ⟨sb, 3, none⟩ = some (.slice none 0 0) := hb5.cell 3
        have HC5 := hide hc5
        clear hsz hen q0 q1 q2 q3 hb5 hc5
        go_wp2_with fail
        refine hens.mono ?_
        rintro e w6 ⟨u, rfl, hu, hc6⟩
        obtain ⟨UA, un, uc, rfl⟩ := hu.shapeH
        have hpt := HP3.out.drv.lt'
        have hpl := HP3.out.lt
        have hsb := HSB.out
        have hc46 := (HCz.out.trans0 HC5.out).trans0 hc6
        have hP6 := (HP3.out.c0 HC8.out).chg hc46 (fun b hb e => by have := hpt b hb; have e : b = sb := e; omega) (fun b hb e => by have := hpl b hb; have e : b = sb := e; omega)
        have hput := plPut (i := ix) (s := -1) hP6 HG3.out ((mem_put keyI).2 (.inl rfl)) h1h hU1.out.le (by omega) (by have := hU1.out.q; omega) hu.rdB (pageKV_length (by have := HM.out; omega))
        have n6 := hc46.size
        have n4 := HC8.out.size
        have hb6 := (HBz.out.c0 HC5.out).c0 hc6
        have hne : rb ≠ sb := by have := HRB.out; omega
        have hB6 := ((HB3.out.c0 HC8.out).chg hc46 hne)
        have HB6 := hide (And.intro hb6 hB6)
        have hR6 := And.intro ((HR3.out.1.c0 HC8.out).chg hc46 fun b hb e => by have := (HF1.out b hb).2; have e : b = sb := e; omega) ((HR3.out.2.c0 HC8.out).chg hc46 fun b hb e => by have := (HF1.out b hb).2; have e : b = sb := e; omega)
        have HR6 := hide hR6
        have HC26 := hide (((HCW.out.trans HC3.out fun b hb e => by
          have e : b = bs := e
          rcases hT1.out.2 b (by rw [e]; exact HP1.out.tg.2.1) with h | h
          · exact .inl (.inr h)
          · omega).trans0 HC8.out).trans hc46 fun b hb e => by have e : b = sb := e; omega)
        have HLT := hide (And.intro hpt hpl)
        have HP6 := hide hP6
        clear hens q05 q15 q25 q35 hu hc6 hpt hpl hc46 hP6 hb6 hB6 hR6 hsb hne
        go_wp2_with fail
        refine hput.mono ?_
        rintro e w7 ⟨hc7, ⟨rfl, harm, hdead⟩ | ⟨rfl, hrest⟩⟩
        · have HA := hide harm
          have HDD := hide hdead
          have HC7 := hide hc7
          clear hput harm hdead hc7
          go_wp2_with fail
          go_ret
          obtain ⟨S', hd1, hd2⟩ := HDD.out
          have n7 := HC7.out.size
          have hrbx := HRB.out
          have hT1' : ∀ b, TD1 b → TD b ∨ (w.heap.size ≤ b ∧ b < w7.heap.size) := fun b hb => by
            rcases hT1.out.1 b hb with h | h
            · exact .inl h
            · exact .inr (by omega)
          have hT2' : ∀ b, TP1 b → TP b ∨ (w.heap.size ≤ b ∧ b < w7.heap.size) := fun b hb => by
            rcases hT1.out.2 b hb with h | h
            · exact .inl h
            · exact .inr (by omega)
          refine ⟨((HC2.out.mono (S' := fun b => TD b ∨ TP b) fun _ _ h => h.elim).trans HC26.out fun b hb h => h.elim id fun e => by omega).trans HC7.out fun b hb e => ?_, .inl ⟨rfl, fun e => HA.out (hU1.out.arm e), S', hd1.up (fun b hb => ?_) (Ext.lt HL.out.1 (by omega)), hd2⟩⟩
          · rcases e with e | e
            · rcases hT1' b e with h | h
              · exact .inl h
              · omega
            · rcases hT2' b e with h | h
              · exact .inr h
              · omega
          · rcases hb with hb | hb
            · exact hT1' b hb
            · exact .inr (by omega)
        · obtain ⟨S', sl', at', TD', TP', G', cl', a3', hM, hG', e1, e2, e3, e4, e5, e6, e7⟩ := hrest
          have n7 := hc7.size
          have hsb := HSB.out
          have hb7 := HB6.out.1.chg hc7 (fun e => by rcases e with e | e; (· have := HLT.out.1 _ e; omega); (· have := HLT.out.2 _ e; omega))
          have hB7 := HB6.out.2.chg hc7 (fun e => by rcases e with e | e; (· exact HRBT.out.2 e); (· exact HRBT.out.1 e))
          have hR7 := And.intro (HR6.out.1.chg hc7 fun b hb => (HF1.out b hb).1) (HR6.out.2.chg hc7 fun b hb => (HF1.out b hb).1)
          have hkn : kn = (l.drop r).length := by
            obtain ⟨_, _, e, _⟩ := hR7.1.shape
            injection e with _ e _
            rw [e, ksL_length]
          have hkbn : kbn = m := by
            obtain ⟨_, _, e, _⟩ := hRz.out.1.shape
            injection e with _ e _
            rw [e, ksL_length]; exact HM.out.2.2.1
          subst hkbn
          have y1 : w7.cell? ⟨sb, 1, none⟩ = some (.slice KB kbn kbc) := hb7.cell 1
          have p1 : w7.cell? ⟨rb, 1, none⟩ = some (.slice KA kn kc) := hB7.cell 1
          have p2 : w7.cell? ⟨rb, 2, none⟩ = some (.slice VA vn vc) := hB7.cell 2
          have HM7 := hide hM
          have hLP' : LaidP l (r + kbn) (PL ++ [sm]) pre S' sl' at' := by
            rw [HSM.out]
            refine LaidP.step hLP.out.1 hLP.out.2.1 (by have := HM.out; omega) (by rw [← HSM.out]; have := HM.out; omega) (by rw [e1, HIX.out.2.1, HIX.out.1]) (fun j => ?_)
            have hix := HIX.out.1
            rw [e2 j]
            by_cases hj : j = PL.length
            · rw [if_pos (by rw [hix]; exact hj), if_pos hj, HSM.out]
            · rw [if_neg (by rw [hix]; exact hj), if_neg hj, HIX.out.2.2 j, if_neg (by rw [hix]; exact hj)]
          have HLP' := hide hLP'
          have HUP' := hide (show PlUp pre hand S S' (S.queue.length + (PL ++ [sm]).length) sl' tab sf at' sv from ⟨hG', e5, by rw [List.length_append]; have := hU1.out.q; simp; omega, fun e => e3 (hU1.out.arm e)⟩)
          have HEX := hide (And.intro e6 e7)
          have HC7 := hide hc7
          have HB7 := hide (And.intro hB7 hR7)
          have HKN := hide hkn
          have HMM := hide (show (PL ++ [sm]).length ≤ r + kbn ∨ l.length = 0 by
            have := HM.out.2.1
            have := hLP.out.2.1
            rw [List.length_append, List.length_singleton]
            omega)
          have hTDx : ∀ b, TD' b → Ext TD w2 w7 b := fun b hb => by
            rcases e6 b hb with h | h
            · rcases hT1.out.1 b h with h | h
              · exact .inl h
              · exact .inr ⟨h.1, by omega⟩
            · exact .inr ⟨by have := HCW.out.size; omega, h.2⟩
          have hTPx : ∀ b, TP' b → Ext TP w2 w7 b := fun b hb => by
            rcases e7 b hb with h | h
            · rcases hT1.out.2 b h with h | h
              · exact .inl h
              · exact .inr ⟨h.1, by omega⟩
            · exact .inr ⟨by have := HCW.out.size; omega, h.2⟩
          have HTX := hide (And.intro hTDx hTPx)
          have HC27 := hide (HC26.out.trans HC7.out fun b hb e => by
            rcases e with e | e
            · rcases hT1.out.1 b e with h | h
              · exact .inl (.inl h)
              · omega
            · rcases hT1.out.2 b e with h | h
              · exact .inl (.inr h)
              · omega)
          clear hput hc7 hM hG' e1 e2 e3 e4 e5 e6 e7 hb7 hB7 hR7 hkn hLP' hsb hTDx hTPx
          by_cases hend : kbn < kn
          · have hdk : decide ((kn : Int) ≤ (kbn : Int)) = false := decide_eq_false (by omega)
            have hdk2 : ¬ kn ≤ kbn := by omega
            have hkl : kbn ≤ (ksL (l.drop r)).length := by rw [ksL_length, ← HKN.out]; omega
            have hvl : kbn ≤ (vsL (l.drop r)).length := by rw [vsL_length, ← HKN.out]; omega
            obtain ⟨CA, cn, cc, hcr, hcf⟩ := run_cutBB_l HB7.out.2.1 hkl
            obtain ⟨DA, dn, dc, hdr, hdf⟩ := run_cutBB_l HB7.out.2.2 hvl
            rw [← ksL_drop, List.drop_drop] at hcr
            rw [← vsL_drop, List.drop_drop] at hdr
            have hcn : cn = l.length - (r + kbn) := by
              obtain ⟨_, _, e, _⟩ := hcr.shape
              injection e with _ e _
              rw [e, ksL_length, List.length_drop]
            have z1 := HB7.out.1.frozen 1
            have z2 := HB7.out.1.frozen 2
            have hr8 := (HB7.out.1.set_ 1 (.slice CA cn cc)).set_ 2 (.slice DA dn dc)
            simp at hr8
            have hc8 : Chg (fun k => k = rb) w7 ((w7.setCell ⟨rb, 1, none⟩ (.slice CA cn cc)).setCell ⟨rb, 2, none⟩ (.slice DA dn dc)) := Chg.setCell (p := ⟨rb, 2, none⟩) (Chg.setCell (p := ⟨rb, 1, none⟩) (Chg.refl (fun k => k = rb) w7) (fun _ => rfl) _) (fun _ => rfl) _
            have HR8 := hide hr8
            have HC8' := hide hc8
            have HCD := hide (And.intro hcr hdr)
            have HCN := hide hcn
            clear hr8 hc8 hcr hdr hcn hkl hvl
            go_upto_region 14 with fail
            go_region
            all_goals
              try simp only [List.getElem_toArray, List.getElem_cons_succ, List.getElem_cons_zero, Act.put, List.setIfInBounds_toArray, List.set_cons_zero, List.set_cons_succ]
              generalize World.setCell _ _ _ = wz at HR8 HC8' ⊢
              have HR9 : Hid (Blk wz.drew rb 65 #[.bool true, .slice CA cn cc, .slice DA dn dc, .slice none 0 0]) := HR8
              have HC9 := hide HC8'.out.drew
              clear HR8 HC8'
              generalize World.drew wz = wz at HR9 HC9 ⊢
              have HR8 := HR9
              have HC8' := HC9
              have hrbx := HRB.out
              have hTD'rb : ∀ b, TD' b → ¬ b = rb := fun b hb e => by
                rcases HTX.out.1 b hb with h | h
                · have := HL.out.1 b h; omega
                · omega
              have hTP'rb : ∀ b, TP' b → ¬ b = rb := fun b hb e => by
                rcases HTX.out.2 b hb with h | h
                · have := HL.out.2 b h; omega
                · omega
              have n8 := HC8'.out.size
              have hFrb : ∀ b, F b → ¬ b = rb := fun b hb e => by have := (HF.out b hb).1; omega
              go_roundw
              case rel =>
                repeat apply Exists.intro
                refine ⟨⟨r + kbn, PL ++ [sm], S', sl', at', TD', TP', G', cl', a3', CA, cn, cc, DA, dn, dc, hide ⟨HLP'.out, ?_, ?_⟩, HUP', HM7.out.chg HC8'.out hTD'rb hTP'rb, hide ⟨fun b hb => (HTX.out.1 b hb).up n8, fun b hb => (HTX.out.2 b hb).up n8⟩, HR8.out, hide ⟨HCD.out.1.chg HC8'.out hFrb, HCD.out.2.chg HC8'.out hFrb⟩, HC27.out.trans HC8'.out fun b hb e => ?_⟩, rfl⟩
                · have h1 := HMM.out
                  have h2 := HKN.out
                  have h3 := hLP.out.2.2
                  omega
                · have h2 := HKN.out
                  have h3 := hLP.out.1.le
                  omega
                · exact .inr e
              case measure =>
                rw [lenAt_eq (HR8.out.cell 1), lenAt_eq (HB1.out.cell 1), HCN.out]
                have h1 := HMM.out
                have h2 := HKN.out
                have h3 := hLP.out.2
                have h4 := HM.out.2.1
                omega
          · have hdk : decide ((kn : Int) ≤ (kbn : Int)) = true := decide_eq_true (by omega)
            have hdk2 : kn ≤ kbn := by omega
            go_wp2_with fail
            go_ret
            have hrl : r + kbn = l.length := by have := HKN.out; have := HM.out; have := hLP.out.1.le; omega
            have hL9 := HLP'.out
            rw [hrl] at hL9
            have hrbx := HRB.out
            refine ⟨(HC2.out.mono (S' := fun b => TD b ∨ TP b) fun _ _ h => h.elim).trans HC27.out fun b hb h => h.elim id fun e => by omega, .inr ⟨rfl, S', sl', at', TD', TP', G', cl', a3', PL ++ [sm], HM7.out, ⟨HUP'.out.g, HUP'.out.le, by have := HUP'.out.q; have := hL9.n; omega, HUP'.out.arm⟩, ⟨hL9, by simp⟩, fun b hb => ?_, fun b hb => ?_⟩⟩
            · rcases HTX.out.1 b hb with h | h
              · exact .inl h
              · exact .inr (by omega)
            · rcases HTX.out.2 b hb with h | h
              · exact .inl h
              · exact .inr (by omega)
end Go.Proofs.YtfgecgmgbngeaaaGreat
