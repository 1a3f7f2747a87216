/- rpc's wire, where it reads: an outcome (the walk). -/
import Derived.Test.YtncchbcoldgpbaaRoM
open List (getElem_toArray getElem_cons_succ getElem_cons_zero setIfInBounds_toArray set_cons_zero set_cons_succ)
namespace Go.Proofs.Ytncchbcoldgpbaa
open Go.RowKit
set_option linter.unusedVariables false
set_option linter.unusedSimpArgs false

theorem set_get {vs : Array Value} {i j : Nat} {v u : Value} (h : vs[j]? = some u) (hij : i ≠ j) : (vs.setIfInBounds i v)[j]? = some u := by
  rw [Array.getElem?_setIfInBounds_ne hij]; exact h

theorem putL_get {p : Nat} {u : Value} : ∀ {os : List Nat} {xs : List Value} {vs : Array Value}, vs[p]? = some u → (∀ o ∈ os, o ≠ p) → (putL vs os xs)[p]? = some u
  | [], xs, vs, h, _ => by cases xs <;> exact h
  | o :: os, [], vs, h, _ => h
  | o :: os, v :: xs, vs, h, hn => putL_get (os := os) (set_get h (hn o (by simp))) fun o' h' => hn o' (List.mem_cons_of_mem _ h')

set_option maxHeartbeats 16000000 in
set_option maxRecDepth 100000 in
theorem rvOutcome {x g a b i : Nat} {er : Int} {l : List UInt8} {F : Nat → Prop} {vs : Array Value} {ty : TypeId} {z0 z1 : Int} {A0 A1 : Option Addr} {n0 c0 n1 c1 : Nat} {w : World} (h : WRd w F x g l a er) (hB : Blk w b ty vs) (hf : Free F x g b)
    (h0 : vs[i]? = some (.int .i64 z0)) (h1 : vs[i + 1]? = some (.int .i64 z1)) (h2 : vs[i + 2]? = some (.slice A0 n0 c0)) (h3 : vs[i + 3]? = some (.slice A1 n1 c1)) :
    Calls Try.prog 77 #[.pointer (some ⟨x, 0, none⟩), .pointer (some ⟨b, i, none⟩)] w fun e w' =>
      (e = .returned (.tuple #[]) ∧ ∃ (y : OutS) (vr vw : Value) (a' : Nat) (e' : Int), WRd w' F x g l a' e' ∧ OutV w' w.heap.size y vr vw ∧
        Blk w' b ty ((((vs.setIfInBounds i (iv y.err)).setIfInBounds (i + 1) (iv y.at_)).setIfInBounds (i + 2) vr).setIfInBounds (i + 3) vw) ∧ Chg (fun k => k = g ∨ k = b) w w' ∧ Took DOut outB l a er y a' e') ∨
      (∃ er' : Int, er' ≠ 0 ∧ e = .panicked [{ v := .iface 39 (.int .i64 er'), recovered := false }] ∧ Fell DOut outB l a er ∧ (∃ q, Blk w' b ty q ∧ q.size = vs.size) ∧ Chg (fun k => k = g ∨ k = b) w w') := by
  have hgl := h.rd.lt
  have hbl := hB.lt
  have hol : i + 3 < vs.size := (Array.getElem?_eq_some_iff.1 h3).1
  go_enter Try.func77, Try.ntmps77
  go_upto_region 1 with (go_at_call 59; refine (rvErrno h hB hf h0).mono ?_; rintro e w1 ⟨rfl, ze, a1, e1, hW1, hze, hB1, hc1, hT1⟩)
  have hpt := RdPt.lit w1 133 #[.pointer (some ⟨b, i + 1, none⟩)] [⟨b, i + 1, none⟩] 1 rfl rfl (by simp [maxLen])
  have hcL := (Chg.refl Non w1).alloc (.cells #[.pointer (some ⟨b, i + 1, none⟩)] 133)
  have hWL := hW1.c0 hcL
  have hBL := hB1.c0 hcL
  have hFp : ∀ k, k = w1.heap.size → k ≠ g ∧ k ≠ b := fun k e => by have := hW1.rd.lt; have := hB1.lt; omega
  have hos : ∀ o ∈ [i + 1], ∃ z, (vs.setIfInBounds i (iv ze))[o]? = some (.int .i64 z) := fun o ho => by
    rw [List.mem_singleton] at ho
    subst ho
    exact ⟨z1, set_get h1 (by omega)⟩
  go_upto_region 2 with (go_at_call 52; refine (rvWhole (os := [i + 1]) hWL hpt hFp hBL hf hos).mono ?_; rintro e w2 ⟨rfl, zs, a2, e2, hW2, hn2, hu2, hB2, hc2, hT2⟩)
  obtain ⟨zt, rfl⟩ : ∃ n, zs = [n] := List.length_eq_one_iff.1 hn2
  have hB2 : Blk w2 b ty ((vs.setIfInBounds i (iv ze)).setIfInBounds (i + 1) (iv zt)) := hB2
  have hT2 := hT2.single
  have hc2' := hc1.trans ((chgX (S := fun k => k = g ∨ k = b) hcL).trans hc2 fun _ _ h => h) fun _ _ h => h
  have HT12 := hide (And.intro hT1 hT2)
  have HZ := hide hze
  clear hW1 hB1 hc1 hT1 hpt hcL hWL hBL hFp hos hn2 hu2 hc2 hT2 hze
  go_upto_region 3 with (go_at_call 92; refine (rvRows (o := i + 2) hW2 hB2 hf (set_get (set_get h2 (by omega)) (by omega))).mono ?_; rintro e w3 (⟨rfl, rs, vr, a3, e3, hW3, hrn, hrr, hR3, hB3, hc3, hT3⟩ | ⟨er1, he1, rfl, hno, ⟨q, hq1, hq2⟩, hc3⟩))
  rotate_left
  · exact ⟨rfl, .inr ⟨er1, he1, rfl, out_fell (HT12.out.1.fell (HT12.out.2.fell hno.left)), ⟨q, hq1, by rw [hq2]; simp only [Array.size_setIfInBounds]⟩, hc2'.trans hc3 fun _ _ h => h⟩⟩
  have hc3' := hc2'.trans hc3 fun _ _ h => h
  have h3' := set_get (i := i + 2) (v := vr) (set_get (i := i + 1) (v := iv zt) (set_get (i := i) (v := iv ze) h3 (by omega)) (by omega)) (by omega)
  have c3 := (hB3.cell (i + 3)).trans h3'
  have HT3 := hide hT3
  have hs2 := hc2'.size
  have HR3 := hide (hR3.mono (F' := fun k => w.heap.size ≤ k ∧ k < w3.heap.size) fun k hk => ⟨by omega, hk.2⟩)
  clear hW2 hB2 hc2' hc3 hT3 h0 h1 h2 h hB hR3 hs2
  obtain ⟨arr, harr⟩ : ∃ arr, arr = ((vs.setIfInBounds i (iv ze)).setIfInBounds (i + 1) (iv zt)).setIfInBounds (i + 2) vr := ⟨_, rfl⟩
  rw [← harr] at hB3 h3'
  have hoa : i + 3 < arr.size := (Array.getElem?_eq_some_iff.1 h3').1
  have HARR := hide harr
  clear harr
  go_upto_region 4 with (go_at_call 78; refine (rvCount hW3).mono ?_; rintro e w4 (⟨n, a4, rfl, hW4, hC, hc4⟩ | ⟨er1, he1, rfl, hno, hc4⟩))
  rotate_left
  · exact ⟨rfl, .inr ⟨er1, he1, rfl, out_fell (HT12.out.1.fell (HT12.out.2.fell (HT3.out.fell (hno.fell wrB_pos)))), ⟨_, hB3.chg hc4 hf.2.2, by rw [HARR.out]; simp only [Array.size_setIfInBounds]⟩, hc3'.trans hc4 fun _ _ h => .inl h⟩⟩
  have k1 := hW4.k1
  have hB4 := hB3.chg hc4 hf.2.2
  have c4 := (hB4.cell (i + 3)).trans h3'
  have f4 := hB4.frozen (i + 3)
  have hn : n ≤ 1000000000 := by have := hC.le; have := hW4.lim; omega
  have hmk := run_mkWr n hn
  obtain ⟨ar0, har0⟩ : ∃ ar : Array Value, ar = (List.replicate n [Value.slice none 0 0, .slice none 0 0, .bool false]).flatten.toArray := ⟨_, rfl⟩
  simp only [← har0] at hmk
  have HAR0 := hide har0
  clear har0
  have hc4' := hc3'.trans hc4 fun _ _ h => .inl h
  have hc4s := hc4'.size
  have hc34 := hc4.size
  have hR4 := HR3.out.chg hc4 fun k hk e => by have := hk.1; omega
  have HR4 := hide (hR4.mono (F' := fun k => w.heap.size ≤ k ∧ k < w4.heap.size) fun k hk => ⟨hk.1, by omega⟩)
  have hcA := (Chg.refl Non w4).alloc (.cells ar0 125)
  have c4A := hcA.cell c4 (fun h => h)
  have f4A := hcA.frz c4 (fun h => h) f4
  clear hW3 hB3 hc3' hc4 hR4 c3 HR3
  go_upto_region 6 with fail
  clear hmk k1 c4 f4 c4A f4A
  obtain ⟨B, hBk⟩ : ∃ B, B = w4.heap.size := ⟨_, rfl⟩
  have hX := Blk.new w4 125 ar0
  obtain ⟨ad, had⟩ : ∃ ad : Addr, ad = ⟨w4.heap.size, 0, none⟩ := ⟨_, rfl⟩
  rw [← hBk] at hX
  rw [← had]
  have hWA := hW4.c0 hcA
  have hBA := hB4.c0 hcA
  have hXs := hX.lt
  have hRA := HR4.out.chg hcA fun _ _ h => h
  generalize World.alloc _ _ = wA at hX hcA hWA hBA hXs hRA ⊢
  have hBb : B ≠ b := by omega
  have hW2 := hWA.set (i := i + 3) hf (.slice (some ad) n n)
  have hB2 := hBA.set_ (i + 3) (.slice (some ad) n n)
  have hX2 := hX.far (p := ⟨b, i + 3, none⟩) hBb (.slice (some ad) n n)
  have hcS : Chg (fun k => k = b) wA (wA.setCell ⟨b, i + 3, none⟩ (.slice (some ad) n n)) := Chg.setCell (Chg.refl (fun k => k = b) wA) (p := ⟨b, i + 3, none⟩) (fun _ => rfl) _
  have hc2 : Chg (fun k => k = g ∨ k = b) w (wA.setCell ⟨b, i + 3, none⟩ (.slice (some ad) n n)) := (hc4'.trans0 hcA).trans hcS fun _ _ h => .inr h
  have hR2 := hRA.chg hcS fun k hk e => by have := hk.1; omega
  have hsz2 : (wA.setCell ⟨b, i + 3, none⟩ (.slice (some ad) n n)).heap.size = wA.heap.size := by simp [World.setCell]
  generalize World.setCell _ _ _ = w2 at hW2 hB2 hX2 hc2 hsz2 hR2 hcS ⊢
  have hB2s : B < w2.heap.size := by omega
  have hBw : w.heap.size ≤ B := by omega
  have HAD := hide (And.intro had (And.intro hB2s (And.intro hBw hBk)))
  have hpt : ∀ k : Nat, ad.add (k * 3) = ⟨B, k * 3, none⟩ := fun k => by rw [had, ← hBk, add_none, Nat.zero_add]
  have HPT := hide hpt
  have HR2 := hide hR2
  have hfB : Free F x g B := hW4.free (by omega)
  have hBg : B ≠ g := hfB.2.2
  clear hWA hBA hX hcA hXs had hBk hpt hsz2 hB2s hBw hB4 hW4 hRA hR2 hcS hc4' hc4s
  have c1 := (hB2.cell (i + 3)).trans (Array.getElem?_setIfInBounds_self_of_lt hoa)
  rw [HAR0.out] at hX2
  have HW2 := hide hW2
  have HB2 := hide hB2
  have HX2 := hide hX2
  clear hW2 hB2 hX2
  go_wp2_with fail
  clear c1
  go_loopw [41] (fun jv wr => ∃ (os : List WrO) (xs : List (Value × Value)) (ac : Nat) (ec : Int), jv = .int .i64 (os.length : Int) ∧ os.length ≤ n ∧ Hid (xs.length = os.length) ∧ Hid (WRd wr F x g l ac ec) ∧ Hid (Blk wr b ty (arr.setIfInBounds (i + 3) (.slice (some ad) n n))) ∧ Hid (Blk wr B 125 (arW xs os (n - os.length))) ∧
    Hid (OwnQs wr w2.heap.size (pcWr xs os)) ∧ Chg (fun k => k = g ∨ k = b) w wr ∧ Chg (fun k => k = g ∨ k = B) w2 wr ∧ Took (fun os' : List WrO => os'.length = os.length ∧ ∀ z ∈ os', DWr z) (fun os => os.flatMap wrB) l a4 0 os ac ec) (fun jv _ => n - (intOf jv).toNat)
  case atStart => exact ⟨[], [], a4, 0, rfl, Nat.zero_le _, hide rfl, HW2, HB2, HX2, hide (OwnQs.nil_ _ _), hc2, Chg.refl _ _, Took.nil_⟩
  case round =>
    obtain ⟨os, xs, ac, ec, rfl, hk, HL, HW, HBr, HXr, HQ, hcw, hcv, hT⟩ := hrel
    obtain ⟨k, hkn⟩ : ∃ k, k = os.length := ⟨_, rfl⟩
    rw [← hkn] at hk HXr ⊢
    by_cases hkl : k < n
    · have hki : (k : Int) < (n : Int) := by omega
      have h0i : (0 : Int) ≤ (k : Int) := by omega
      obtain ⟨m, hm⟩ : ∃ m, n - k = m + 1 := ⟨n - k - 1, by omega⟩
      have hmn : n - (k + 1) = m := by omega
      rw [hm] at HXr
      have c1 := (HBr.out.cell (i + 3)).trans (Array.getElem?_setIfInBounds_self_of_lt hoa)
      have hps := HPT.out k
      have HK := hide (And.intro hkl (And.intro hmn hkn))
      clear hkl hk hm hmn hkn
      go_upto_region 10 with fail
      clear hps c1
      have hcd : Chg Non wr wr.drew := (Chg.refl Non wr).drew
      have hpt := RdPt.lit wr.drew 149 #[.pointer (some ⟨B, k * 3, none⟩), .pointer (some ⟨B, k * 3 + 1, none⟩)] [⟨B, k * 3, none⟩, ⟨B, k * 3 + 1, none⟩] 2 rfl rfl (by simp [maxLen])
      have hcM := (Chg.refl Non wr.drew).alloc (.cells #[.pointer (some ⟨B, k * 3, none⟩), .pointer (some ⟨B, k * 3 + 1, none⟩)] 149)
      have hcx := hcd.trans0 hcM
      have hWA := HW.out.c0 hcx
      have hXA := HXr.out.c0 hcx
      have hXl := HXr.out.lt
      have hFp : ∀ k, k = wr.drew.heap.size → k ≠ g ∧ k ≠ B := fun k e => by have := HW.out.rd.lt; have : wr.drew.heap.size = wr.heap.size := rfl; omega
      have hos : ∀ j ∈ [k * 3, k * 3 + 1], j < (arW xs os (m + 1)).size := fun j hj => by
        rw [size_arW HL.out, ← HK.out.2.2]
        simp at hj
        omega
      have HC := hide (rvData (os := [k * 3, k * 3 + 1]) hWA hpt hFp hXA hfB hos)
      clear hos hFp hpt hWA hXA
      refine wp_region_T (fun _ => True) 99 (by kernel_rfl) ?_
      have HS := hide True.intro
      refine AnyT.take (i := 0) (v := ?_) rfl (by kernel_rfl) (by kernel_rfl) (fun _ _ _ h => h) (by kernel_rfl) (by kernel_rfl) (Or.inl ⟨by rfl, ?_⟩) HS.out ?_
      rotate_left
      · (intro w9 h9; go_simp; try with_reducible rfl)
      try simp only [getElem_toArray, getElem_cons_succ, getElem_cons_zero, Act.put, setIfInBounds_toArray, set_cons_zero, set_cons_succ]
      refine AnyT.take (i := 1) (v := ?_) rfl (by kernel_rfl) (by kernel_rfl) (fun _ _ _ h => h) (by kernel_rfl) (by kernel_rfl) (Or.inl ⟨by rfl, ?_⟩) HS.out ?_
      rotate_left
      · (intro w9 h9; go_simp; try with_reducible rfl)
      try simp only [getElem_toArray, getElem_cons_succ, getElem_cons_zero, Act.put, setIfInBounds_toArray, set_cons_zero, set_cons_succ]
      refine AnyT.take (i := 2) (v := ?_) rfl (by kernel_rfl) (by kernel_rfl) (fun _ _ _ h => h) (by kernel_rfl) (by kernel_rfl) (Or.inl ⟨by rfl, ?_⟩) HS.out ?_
      rotate_left
      · (intro w9 h9; go_simp; try with_reducible rfl)
      try simp only [getElem_toArray, getElem_cons_succ, getElem_cons_zero, Act.put, setIfInBounds_toArray, set_cons_zero, set_cons_succ]
      refine AnyT.take (i := 3) (v := ?_) rfl (by kernel_rfl) (by kernel_rfl) (fun _ _ _ h => h) (by kernel_rfl) (by kernel_rfl) (Or.inl ⟨by rfl, ?_⟩) HS.out ?_
      rotate_left
      · (intro w9 h9; go_simp; try with_reducible rfl)
      try simp only [getElem_toArray, getElem_cons_succ, getElem_cons_zero, Act.put, setIfInBounds_toArray, set_cons_zero, set_cons_succ]
      refine AnyT.take (i := 4) (v := ?_) rfl (by kernel_rfl) (by kernel_rfl) (fun _ _ _ h => h) (by kernel_rfl) (by kernel_rfl) (Or.inl ⟨by rfl, ?_⟩) HS.out ?_
      rotate_left
      · (intro w9 h9; go_simp; try with_reducible rfl)
      try simp only [getElem_toArray, getElem_cons_succ, getElem_cons_zero, Act.put, setIfInBounds_toArray, set_cons_zero, set_cons_succ]
      refine AnyT.take (i := 5) (v := ?_) rfl (by kernel_rfl) (by kernel_rfl) (fun _ _ _ h => h) (by kernel_rfl) (by kernel_rfl) (Or.inl ⟨by rfl, ?_⟩) HS.out ?_
      rotate_left
      · (intro w9 h9; go_simp; try with_reducible rfl)
      try simp only [getElem_toArray, getElem_cons_succ, getElem_cons_zero, Act.put, setIfInBounds_toArray, set_cons_zero, set_cons_succ]
      refine AnyT.take (i := 6) (v := ?_) rfl (by kernel_rfl) (by kernel_rfl) (fun _ _ _ h => h) (by kernel_rfl) (by kernel_rfl) (Or.inl ⟨by rfl, ?_⟩) HS.out ?_
      rotate_left
      · (intro w9 h9; go_simp; try with_reducible rfl)
      try simp only [getElem_toArray, getElem_cons_succ, getElem_cons_zero, Act.put, setIfInBounds_toArray, set_cons_zero, set_cons_succ]
      refine AnyT.one (i := 7) (by kernel_rfl) rfl (fun K hK => ?_)
      go_simp
      refine hK.out _ _ (fun _ => trivial) ?_
      clear hK K
      try simp only [getElem_toArray, getElem_cons_succ, getElem_cons_zero, Act.put, setIfInBounds_toArray, set_cons_zero, set_cons_succ]
      refine AnyT.one (i := 8) (by kernel_rfl) rfl (fun K hK => ?_)
      go_simp
      go_wp2_with (go_at_call 60; refine HC.out.mono ?_; rintro e w5 ⟨rfl, ps, a5, e5, hW5, hn5, hu5, hX5, hc5, hT5⟩)
      refine hK.out _ _ (fun _ => trivial) ?_
      clear hK K
      try simp only [getElem_toArray, getElem_cons_succ, getElem_cons_zero, Act.put, setIfInBounds_toArray, set_cons_zero, set_cons_succ]
      refine AnyT.nil (by kernel_rfl) ?_
      clear HS
      obtain ⟨⟨u1, t1⟩, ⟨u2, t2⟩, rfl⟩ : ∃ p1 p2, ps = [p1, p2] := by
        match ps, hn5 with
        | [p1, p2], _ => exact ⟨p1, p2, rfl⟩
      have hcy := (chgX (S := fun k => k = g ∨ k = B) hcx).trans hc5 fun _ _ h => h
      have hB5 := HBr.out.chg hcy (fun h => by rcases h with h | h; exact hf.2.2 h; exact hBb h.symm)
      have hQ5 := HQ.out.more hcy (fun k h1 h2 h3 => by have := HAD.out; have := hc2.size; omega) hu5 hcx.size hcv.size
      rw [show [((u1, t1) : Value × List UInt8), (u2, t2)] = [(((u1, u2) : Value × Value).1, (⟨t1, t2, false⟩ : WrO).a), (((u1, u2) : Value × Value).2, (⟨t1, t2, false⟩ : WrO).b)] from rfl] at hQ5
      have hcw5 := hcw.trans hcy (fun k hk h => by have := HAD.out; omega)
      have hcv5 := hcv.trans hcy (fun k hk h => h)
      have hlt : k * 3 + 2 < (putL (arW xs os (m + 1)) [k * 3, k * 3 + 1] ([(u1, t1), (u2, t2)].map (·.1))).size := by
        rw [putL_size, size_arW HL.out, ← HK.out.2.2]; omega
      have HC6 := hide (rvFlag hW5 hX5 hfB hlt)
      have HT5 := hide hT5
      have HW5 := hide hW5
      clear hW5 hn5 hu5 hX5 hc5 hT5 hcx hcM hcd HC hcy HBr HXr HQ HW hXl hcw hcv hlt
      go_wp2_with (go_at_call 76; refine HC6.out.mono ?_; rintro e w6 ⟨rfl, fz, a6, e6, hW6, hX6, hc6, hT6⟩)
      have HW6 := hide hW6
      have HX6 := hide (show Blk w6 B 125 (arW (xs ++ [(u1, u2)]) (os ++ [⟨t1, t2, fz⟩]) (n - (k + 1))) by rw [HK.out.2.1, ← arW_step HL.out fz u1 u2 t1 t2 HK.out.2.2]; exact hX6)
      have HB6 := hide (hB5.chg hc6 (fun h => by rcases h with h | h; exact hf.2.2 h; exact hBb h.symm))
      have hQ6 := hQ5.chg hc6 (fun k h1 h2 h3 => by have := HAD.out; have := hc2.size; omega)
      have HQ6 := hide (show OwnQs w6 w2.heap.size (pcWr (xs ++ [(u1, u2)]) (os ++ [⟨t1, t2, fz⟩])) by rw [pcWr_snoc HL.out]; exact hQ6)
      have hcw6 := hcw5.trans hc6 (fun k hk h => by have := HAD.out; omega)
      have hcv6 := hcv5.trans hc6 (fun k hk h => h)
      have HT6 := hide (hT.snoc (wr_took HT5.out hT6))
      clear hW6 hX6 hc6 hT6 hB5 hQ5 hQ6 hcw5 hcv5 hT HT5 HC6 HW5
      go_roundw
      case rel => exact ⟨os ++ [⟨t1, t2, fz⟩], xs ++ [(u1, u2)], a6, e6, by rw [List.length_append, ← HK.out.2.2]; go_num, by have := HK.out.1; rw [List.length_append, ← HK.out.2.2]; exact this, hide (by rw [List.length_append, List.length_append, HL.out]; rfl), HW6, HB6, by rw [List.length_append, ← HK.out.2.2]; exact HX6, HQ6, hcw6, hcv6, by rw [List.length_append]; exact HT6.out⟩
      case measure => (have h := HK.out.1; simp [intOf]; omega)
    · have hge : ¬ ((k : Int) < (n : Int)) := by omega
      have HKE := hide (show k = n by omega)
      have HKN := hide hkn
      clear hk hkl hkn
      go_wp2_with fail
      have hX5 := HXr.out
      have hkn := HKN.out
      rw [HKE.out, Nat.sub_self] at hX5
      have hke := HKE.out
      have hAD := HAD.out
      have hc2s := hc2.size
      have hcvs := hcv.size
      have hBr := HBr.out
      rw [HARR.out] at hBr
      refine bodyPost_end (results_none rfl _ _ _) rfl (.inl ⟨rfl, ⟨ze, zt, rs, os⟩, vr, .slice (some ad) n n, ac, ec, HW.out, ⟨?_, ?_, hrn, hrr, by show os.length ≤ _; omega⟩, hBr, hcw, out_took (HT12.out.1.seq (HT12.out.2.seq (HT3.out.seq (hC.took ?_))))⟩)
      · exact ((HR2.out.chg hcv fun k hk e => by have := hk.1; have := hk.2; omega)).mono fun k hk => ⟨hk.1, by have := hk.2; omega⟩
      · show RdWr wr _ (.slice (some ad) n n) os
        rw [show n = os.length by omega, hAD.1, ← hAD.2.2.2]
        exact (wr_rd (b2 := B) HL.out (by simp only [maxLen]; omega) hX5 (HQ.out.low (by omega)) (Nat.le_refl _)).mono fun k hk => ⟨by omega, hk.2⟩
      · rw [show n = os.length by omega]
        exact hT
end Go.Proofs.Ytncchbcoldgpbaa

namespace Go.Proofs.Ytncchbcoldgpbaa
open Go.RowKit
set_option linter.unusedVariables false
set_option linter.unusedSimpArgs false

theorem HasO.low {w : World} {base b' : Nat} {v : Value} {l : List OpS} {xs : List (Value × Value)} (h : HasO w base v l xs) (hb : b' ≤ base) : HasO w b' v l xs := by
  refine ⟨h.len, ⟨h.row.1, ?_⟩, h.own.low hb, h.apt⟩
  rcases h.row.2 with hn | ⟨g, cap, cur, rfl, hg, rest⟩
  · exact .inl hn
  · exact .inr ⟨g, cap, cur, rfl, by omega, rest⟩
theorem HasO.chg {w w' : World} {base : Nat} {S : Nat → Prop} {v : Value} {l : List OpS} {xs : List (Value × Value)} (h : HasO w base v l xs) (hc : Chg S w w') (hS : ∀ k, base ≤ k → k < w.heap.size → ¬ S k) : HasO w' base v l xs :=
  ⟨h.len, row_chgO h.row hc fun k hk => hS k (World.ownsRow.lt h.row k hk).1 (World.ownsRow.lt h.row k hk).2, h.own.chg hc hS, h.apt⟩
def DAsk (x : AskS) : Prop := I64 x.kind ∧ ((U64 x.inc ∧ U64 x.head ∧ U64 x.boot ∧ U64 x.id) ∧ ((U64 x.tb ∧ U64 x.ts ∧ U64 x.tq) ∧ (DOps x.ops ∧ (T64 x.reply ∧ T64 x.name.data.toList))))
abbrev AskT := Int × (List Nat × (List Nat × (List OpS × (Bool × (List UInt8 × ByteArray)))))
def DAskT (p : AskT) : Prop := I64 p.1 ∧ ((p.2.1.length = 4 ∧ ∀ n ∈ p.2.1, U64 n) ∧ ((p.2.2.1.length = 3 ∧ ∀ n ∈ p.2.2.1, U64 n) ∧ (DOps p.2.2.2.1 ∧ (True ∧ (T64 p.2.2.2.2.2.1 ∧ T64 p.2.2.2.2.2.2.data.toList)))))
def EAskT (p : AskT) : List UInt8 := numB (wz p.1) ++ (p.2.1.flatMap numB ++ (p.2.2.1.flatMap numB ++ (EOps p.2.2.2.1 ++ (flagB p.2.2.2.2.1 ++ (partB p.2.2.2.2.2.1 ++ strB p.2.2.2.2.2.2)))))
def askT (x : AskS) : AskT := (x.kind, [x.inc, x.head, x.boot, x.id], [x.tb, x.ts, x.tq], x.ops, x.commit, x.reply, x.name)
theorem askT_D (x : AskS) (h : DAsk x) : DAskT (askT x) :=
  ⟨h.1, ⟨rfl, fun n hn => by simp [askT] at hn; rcases hn with rfl | rfl | rfl | rfl; exact h.2.1.1; exact h.2.1.2.1; exact h.2.1.2.2.1; exact h.2.1.2.2.2⟩, ⟨rfl, fun n hn => by simp [askT] at hn; rcases hn with rfl | rfl | rfl; exact h.2.2.1.1; exact h.2.2.1.2.1; exact h.2.2.1.2.2⟩, h.2.2.2.1, trivial, h.2.2.2.2.1, h.2.2.2.2.2⟩
theorem askT_E (x : AskS) : askB x = EAskT (askT x) := by simp [askB, EAskT, askT, numsB, flatB, strB, EOps, opsB]
theorem ask_took {l : List UInt8} {a a' : Nat} {e e' : Int} {k : Int} {n1 n2 n3 n4 tb ts tq : Nat} {os : List OpS} {f : Bool} {rp : List UInt8} {nm : ByteArray} (h : Took DAskT EAskT l a e (k, [n1, n2, n3, n4], [tb, ts, tq], os, f, rp, nm) a' e') : Took DAsk askB l a e ⟨k, n1, n2, n3, tb, ts, tq, os, f, rp, n4, nm⟩ a' e' := by
  refine h.iso (fun p : AskT => (⟨p.1, p.2.1.getD 0 0, p.2.1.getD 1 0, p.2.1.getD 2 0, p.2.2.1.getD 0 0, p.2.2.1.getD 1 0, p.2.2.1.getD 2 0, p.2.2.2.1, p.2.2.2.2.1, p.2.2.2.2.2.1, p.2.1.getD 3 0, p.2.2.2.2.2.2⟩ : AskS)) askT (fun _ _ => rfl) askT_D (fun p hp => ?_) (fun x _ => askT_E x) (fun p hp => ?_)
  · obtain ⟨h1, ⟨h2, h3⟩, ⟨h4, h5⟩, h6⟩ := hp
    match p, h1, h2, h3, h4, h5, h6 with
    | (k, [m1, m2, m3, m4], [s1, s2, s3], r), h1, _, h3, _, h5, h6 => exact ⟨h1, ⟨h3 m1 (by simp), h3 m2 (by simp), h3 m3 (by simp), h3 m4 (by simp)⟩, ⟨h5 s1 (by simp), h5 s2 (by simp), h5 s3 (by simp)⟩, h6.1, h6.2.2⟩
  · obtain ⟨h1, ⟨h2, h3⟩, ⟨h4, h5⟩, h6⟩ := hp
    match p, h2, h4 with
    | (k, [m1, m2, m3, m4], [s1, s2, s3], r), _, _ => exact askT_E _
theorem ask_fell {l : List UInt8} {a : Nat} {e : Int} (h : Fell DAskT EAskT l a e) : Fell DAsk askB l a e := h.iso askT askT_D (fun x _ => askT_E x)
/-- an ask's parts, read -/
structure AskV (w : World) (base : Nat) (y : AskS) (vo vr : Value) (xs : List (Value × Value)) : Prop where
  ops : HasO w base vo y.ops xs
  reply : OwnB w base vr y.reply
  kk : I64 y.kind
  u : U64 y.inc ∧ U64 y.head ∧ U64 y.boot ∧ U64 y.id ∧ U64 y.tb ∧ U64 y.ts ∧ U64 y.tq

set_option maxHeartbeats 16000000 in
set_option maxRecDepth 100000 in
theorem rvAsk {x g a b i : Nat} {er : Int} {l : List UInt8} {F : Nat → Prop} {vs : Array Value} {ty : TypeId} {z0 : Int} {A0 : Option Addr} {n0 c0 : Nat} {s0 : ByteArray} {w : World} (h : WRd w F x g l a er) (hB : Blk w b ty vs) (hf : Free F x g b)
    (h0 : vs[i]? = some (.int .i64 z0)) (h7 : vs[i + 7]? = some (.slice A0 n0 c0)) (h11 : vs[i + 11]? = some (.string s0)) (hsn : s0.size ≤ 1000000000) (hsz : i + 12 ≤ vs.size) :
    Calls Try.prog 54 #[.pointer (some ⟨x, 0, none⟩), .pointer (some ⟨b, i, none⟩)] w fun e w' =>
      (e = .returned (.tuple #[]) ∧ ∃ (y : AskS) (vo vr : Value) (xs : List (Value × Value)) (a' : Nat) (e' : Int), WRd w' F x g l a' e' ∧ AskV w' w.heap.size y vo vr xs ∧
        Blk w' b ty (putL vs [i, i + 1, i + 2, i + 3, i + 10, i + 4, i + 4 + 1, i + 4 + 2, i + 7, i + 8, i + 9, i + 11] [iv y.kind, uv y.inc, uv y.head, uv y.boot, uv y.id, uv y.tb, uv y.ts, uv y.tq, vo, .bool y.commit, vr, .string y.name]) ∧ Chg (fun k => k = g ∨ k = b) w w' ∧ Took DAsk askB l a er y a' e') ∨
      (∃ er' : Int, er' ≠ 0 ∧ e = .panicked [{ v := .iface 39 (.int .i64 er'), recovered := false }] ∧ Fell DAsk askB l a er ∧ (∃ q, Blk w' b ty q ∧ q.size = vs.size) ∧ Chg (fun k => k = g ∨ k = b) w w') := by
  have hgl := h.rd.lt
  have hbl := hB.lt
  have H0 := hide h0
  have H7 := hide h7
  have H11 := hide h11
  clear h0 h7 h11
  go_enter Try.func54, Try.ntmps54
  have hpt := RdPt.lit w 133 #[.pointer (some ⟨b, i, none⟩)] [⟨b, i, none⟩] 1 rfl rfl (by simp [maxLen])
  have hcL := (Chg.refl Non w).alloc (.cells #[.pointer (some ⟨b, i, none⟩)] 133)
  have hWL := (h).c0 hcL
  have hBL := (hB).c0 hcL
  have hFp : ∀ k, k = w.heap.size → k ≠ g ∧ k ≠ b := fun k e => by have := (h).rd.lt; have := (hB).lt; omega
  have hos : ∀ o ∈ [i], ∃ z, (vs)[o]? = some (.int .i64 z) := fun o ho => by rw [List.mem_singleton] at ho; subst ho; exact ⟨_, (H0.out)⟩
  go_upto_region 1 with (go_at_call 52; refine (rvWhole (os := [i]) hWL hpt hFp hBL hf hos).mono ?_; rintro e w1 ⟨rfl, zs, a1, e1, hWx, hnx, hux, hBx, hcx, hTx⟩)
  obtain ⟨zk, rfl⟩ : ∃ n, zs = [n] := List.length_eq_one_iff.1 hnx
  have HU1 := hide (hux zk (by simp))
  have HB1 := hide (show Blk w1 b ty (putL (vs) [i] [iv zk]) from hBx)
  have HW1 := hide hWx
  have HT1 := hide (hTx.single)
  have HC1 := hide (((chgX (S := fun k => k = g ∨ k = b) hcL).trans hcx fun _ _ h => h))
  clear hWx hBx hcx hTx
  clear hpt hcL hWL hBL hFp hos hnx hux
  go_upto_region 1 with fail
  have hcd : Chg Non w1 w1.drew := (Chg.refl Non w1).drew
  have hpt := RdPt.lit w1.drew 135 #[.pointer (some ⟨b, i + 1, none⟩), .pointer (some ⟨b, i + 2, none⟩), .pointer (some ⟨b, i + 3, none⟩), .pointer (some ⟨b, i + 10, none⟩)] [⟨b, i + 1, none⟩, ⟨b, i + 2, none⟩, ⟨b, i + 3, none⟩, ⟨b, i + 10, none⟩] 4 rfl rfl (by simp [maxLen])
  have hcM := (Chg.refl Non w1.drew).alloc (.cells #[.pointer (some ⟨b, i + 1, none⟩), .pointer (some ⟨b, i + 2, none⟩), .pointer (some ⟨b, i + 3, none⟩), .pointer (some ⟨b, i + 10, none⟩)] 135)
  have hcL := hcd.trans0 hcM
  have hWL := (HW1.out).c0 hcL
  have hBL := (HB1.out).c0 hcL
  have hFp : ∀ k, k = w1.drew.heap.size → k ≠ g ∧ k ≠ b := fun k e => by have := (HW1.out).rd.lt; have := (HB1.out).lt; have : w1.drew.heap.size = w1.heap.size := rfl; omega
  have hos : ∀ o ∈ [i + 1, i + 2, i + 3, i + 10], o < (putL (vs) [i] [iv zk]).size := fun o ho => by (try simp only [putL_size, Array.size_setIfInBounds]); simp at ho; omega
  have HX := hide (rvNum (os := [i + 1, i + 2, i + 3, i + 10]) hWL hpt hFp hBL hf hos)
  clear hos hFp hpt hWL hBL
  refine wp_region_T (fun _ => True) 99 (by kernel_rfl) ?_
  have HS := hide True.intro
  refine AnyT.take (i := 0) (v := ?_) rfl (by kernel_rfl) (by kernel_rfl) (fun _ _ _ h => h) (by kernel_rfl) (by kernel_rfl) (Or.inl ⟨by rfl, ?_⟩) HS.out ?_
  rotate_left
  · (intro w9 h9; go_simp; try with_reducible rfl)
  try simp only [getElem_toArray, getElem_cons_succ, getElem_cons_zero, Act.put, setIfInBounds_toArray, set_cons_zero, set_cons_succ]
  refine AnyT.take (i := 1) (v := ?_) rfl (by kernel_rfl) (by kernel_rfl) (fun _ _ _ h => h) (by kernel_rfl) (by kernel_rfl) (Or.inl ⟨by rfl, ?_⟩) HS.out ?_
  rotate_left
  · (intro w9 h9; go_simp; try with_reducible rfl)
  try simp only [getElem_toArray, getElem_cons_succ, getElem_cons_zero, Act.put, setIfInBounds_toArray, set_cons_zero, set_cons_succ]
  refine AnyT.take (i := 2) (v := ?_) rfl (by kernel_rfl) (by kernel_rfl) (fun _ _ _ h => h) (by kernel_rfl) (by kernel_rfl) (Or.inl ⟨by rfl, ?_⟩) HS.out ?_
  rotate_left
  · (intro w9 h9; go_simp; try with_reducible rfl)
  try simp only [getElem_toArray, getElem_cons_succ, getElem_cons_zero, Act.put, setIfInBounds_toArray, set_cons_zero, set_cons_succ]
  refine AnyT.take (i := 3) (v := ?_) rfl (by kernel_rfl) (by kernel_rfl) (fun _ _ _ h => h) (by kernel_rfl) (by kernel_rfl) (Or.inl ⟨by rfl, ?_⟩) HS.out ?_
  rotate_left
  · (intro w9 h9; go_simp; try with_reducible rfl)
  try simp only [getElem_toArray, getElem_cons_succ, getElem_cons_zero, Act.put, setIfInBounds_toArray, set_cons_zero, set_cons_succ]
  refine AnyT.take (i := 4) (v := ?_) rfl (by kernel_rfl) (by kernel_rfl) (fun _ _ _ h => h) (by kernel_rfl) (by kernel_rfl) (Or.inl ⟨by rfl, ?_⟩) HS.out ?_
  rotate_left
  · (intro w9 h9; go_simp; try with_reducible rfl)
  try simp only [getElem_toArray, getElem_cons_succ, getElem_cons_zero, Act.put, setIfInBounds_toArray, set_cons_zero, set_cons_succ]
  refine AnyT.take (i := 5) (v := ?_) rfl (by kernel_rfl) (by kernel_rfl) (fun _ _ _ h => h) (by kernel_rfl) (by kernel_rfl) (Or.inl ⟨by rfl, ?_⟩) HS.out ?_
  rotate_left
  · (intro w9 h9; go_simp; try with_reducible rfl)
  try simp only [getElem_toArray, getElem_cons_succ, getElem_cons_zero, Act.put, setIfInBounds_toArray, set_cons_zero, set_cons_succ]
  refine AnyT.take (i := 6) (v := ?_) rfl (by kernel_rfl) (by kernel_rfl) (fun _ _ _ h => h) (by kernel_rfl) (by kernel_rfl) (Or.inl ⟨by rfl, ?_⟩) HS.out ?_
  rotate_left
  · (intro w9 h9; go_simp; try with_reducible rfl)
  try simp only [getElem_toArray, getElem_cons_succ, getElem_cons_zero, Act.put, setIfInBounds_toArray, set_cons_zero, set_cons_succ]
  refine AnyT.take (i := 7) (v := ?_) rfl (by kernel_rfl) (by kernel_rfl) (fun _ _ _ h => h) (by kernel_rfl) (by kernel_rfl) (Or.inl ⟨by rfl, ?_⟩) HS.out ?_
  rotate_left
  · (intro w9 h9; go_simp; try with_reducible rfl)
  try simp only [getElem_toArray, getElem_cons_succ, getElem_cons_zero, Act.put, setIfInBounds_toArray, set_cons_zero, set_cons_succ]
  refine AnyT.take (i := 8) (v := ?_) rfl (by kernel_rfl) (by kernel_rfl) (fun _ _ _ h => h) (by kernel_rfl) (by kernel_rfl) (Or.inl ⟨by rfl, ?_⟩) HS.out ?_
  rotate_left
  · (intro w9 h9; go_simp; try with_reducible rfl)
  try simp only [getElem_toArray, getElem_cons_succ, getElem_cons_zero, Act.put, setIfInBounds_toArray, set_cons_zero, set_cons_succ]
  refine AnyT.take (i := 9) (v := ?_) rfl (by kernel_rfl) (by kernel_rfl) (fun _ _ _ h => h) (by kernel_rfl) (by kernel_rfl) (Or.inl ⟨by rfl, ?_⟩) HS.out ?_
  rotate_left
  · (intro w9 h9; go_simp; try with_reducible rfl)
  try simp only [getElem_toArray, getElem_cons_succ, getElem_cons_zero, Act.put, setIfInBounds_toArray, set_cons_zero, set_cons_succ]
  refine AnyT.take (i := 10) (v := ?_) rfl (by kernel_rfl) (by kernel_rfl) (fun _ _ _ h => h) (by kernel_rfl) (by kernel_rfl) (Or.inl ⟨by rfl, ?_⟩) HS.out ?_
  rotate_left
  · (intro w9 h9; go_simp; try with_reducible rfl)
  try simp only [getElem_toArray, getElem_cons_succ, getElem_cons_zero, Act.put, setIfInBounds_toArray, set_cons_zero, set_cons_succ]
  refine AnyT.take (i := 11) (v := ?_) rfl (by kernel_rfl) (by kernel_rfl) (fun _ _ _ h => h) (by kernel_rfl) (by kernel_rfl) (Or.inl ⟨by rfl, ?_⟩) HS.out ?_
  rotate_left
  · (intro w9 h9; go_simp; try with_reducible rfl)
  try simp only [getElem_toArray, getElem_cons_succ, getElem_cons_zero, Act.put, setIfInBounds_toArray, set_cons_zero, set_cons_succ]
  refine AnyT.take (i := 12) (v := ?_) rfl (by kernel_rfl) (by kernel_rfl) (fun _ _ _ h => h) (by kernel_rfl) (by kernel_rfl) (Or.inl ⟨by rfl, ?_⟩) HS.out ?_
  rotate_left
  · (intro w9 h9; go_simp; try with_reducible rfl)
  try simp only [getElem_toArray, getElem_cons_succ, getElem_cons_zero, Act.put, setIfInBounds_toArray, set_cons_zero, set_cons_succ]
  refine AnyT.one (i := 13) (by kernel_rfl) rfl (fun K hK => ?_)
  go_simp
  refine hK.out _ _ (fun _ => trivial) ?_
  clear hK K
  try simp only [getElem_toArray, getElem_cons_succ, getElem_cons_zero, Act.put, setIfInBounds_toArray, set_cons_zero, set_cons_succ]
  refine AnyT.one (i := 14) (by kernel_rfl) rfl (fun K hK => ?_)
  go_simp
  go_wp2_with (go_at_call 53; refine HX.out.mono ?_; rintro e w2 ⟨rfl, ns, a2, e2, hWx, hnx, hux, hBx, hcx, hTx⟩)
  refine hK.out _ _ (fun _ => trivial) ?_
  clear hK K
  try simp only [getElem_toArray, getElem_cons_succ, getElem_cons_zero, Act.put, setIfInBounds_toArray, set_cons_zero, set_cons_succ]
  refine AnyT.nil (by kernel_rfl) ?_
  clear HS
  obtain ⟨n1, n2, n3, n4, rfl⟩ : ∃ n1 n2 n3 n4, ns = [n1, n2, n3, n4] := by
    match ns, hnx with
    | [n1, n2, n3, n4], _ => exact ⟨n1, n2, n3, n4, rfl⟩
  have HU2 := hide (And.intro True.intro hux)
  clear hnx
  have HB2 := hide (show Blk w2 b ty (putL (putL (vs) [i] [iv zk]) [i + 1, i + 2, i + 3, i + 10] [uv n1, uv n2, uv n3, uv n4]) from hBx)
  have HW2 := hide hWx
  have HT2 := hide (hTx)
  have HC2 := hide (HC1.out.trans (((chgX (S := fun k => k = g ∨ k = b) hcL).trans hcx fun _ _ h => h)) fun _ _ h => h)
  clear hWx hBx hcx hTx HW1 HB1 HC1
  clear hcd hcM hcL HX hux
  have hos : i + 4 + 2 < (putL (putL (vs) [i] [iv zk]) [i + 1, i + 2, i + 3, i + 10] [uv n1, uv n2, uv n3, uv n4]).size := by simp only [putL_size, Array.size_setIfInBounds]; omega
  go_upto_region 3 with (go_at_call 56; refine (rvTxn (HW2.out) (HB2.out) hf hos).mono ?_; rintro e w3 ⟨rfl, tb, ts, tq, a3, e3, hWx, hux, hBx, hcx, hTx⟩)
  have HU3 := hide hux
  have HB3 := hide (show Blk w3 b ty (putL (putL (putL (vs) [i] [iv zk]) [i + 1, i + 2, i + 3, i + 10] [uv n1, uv n2, uv n3, uv n4]) [i + 4, i + 4 + 1, i + 4 + 2] [uv tb, uv ts, uv tq]) from hBx)
  have HW3 := hide hWx
  have HT3 := hide (hTx)
  have HC3 := hide (HC2.out.trans (hcx) fun _ _ h => h)
  clear hWx hBx hcx hTx HW2 HB2 HC2
  clear hos hux
  go_upto_region 4 with (go_at_call 58; refine (rvOps (o := i + 7) (HW3.out) (HB3.out) hf (putL_get (putL_get (putL_get (H7.out) (by simp <;> omega)) (by simp <;> omega)) (by simp <;> omega))).mono ?_; rintro e w4 (⟨rfl, os, xs, vo, a4, e4, hWx, hux, hBx, hcx, hTx⟩ | ⟨er1, he1, rfl, hno, ⟨q, hq1, hq2⟩, hcx⟩))
  rotate_left
  · exact ⟨rfl, .inr ⟨er1, he1, rfl, ask_fell (HT1.out.fell (HT2.out.fell (HT3.out.fell (hno.left (D2 := fun q : Bool × (List UInt8 × ByteArray) => True ∧ (T64 q.2.1 ∧ T64 q.2.2.data.toList)) (E2 := fun q => flagB q.1 ++ (partB q.2.1 ++ strB q.2.2)))))), ⟨q, hq1, by rw [hq2]; simp only [putL_size, Array.size_setIfInBounds]⟩, HC3.out.trans (hcx) fun _ _ h => h⟩⟩
  have HB4 := hide (show Blk w4 b ty ((putL (putL (putL (vs) [i] [iv zk]) [i + 1, i + 2, i + 3, i + 10] [uv n1, uv n2, uv n3, uv n4]) [i + 4, i + 4 + 1, i + 4 + 2] [uv tb, uv ts, uv tq]).setIfInBounds (i + 7) (vo)) from hBx)
  have HW4 := hide hWx
  have HT4 := hide (hTx)
  have HC4 := hide (HC3.out.trans (hcx) fun _ _ h => h)
  have HO4 := hide (hux.low (HC3.out.size))
  clear hWx hBx hcx hTx HW3 HB3 HC3
  clear hux
  have hos : i + 8 < ((putL (putL (putL (vs) [i] [iv zk]) [i + 1, i + 2, i + 3, i + 10] [uv n1, uv n2, uv n3, uv n4]) [i + 4, i + 4 + 1, i + 4 + 2] [uv tb, uv ts, uv tq]).setIfInBounds (i + 7) (vo)).size := by simp only [putL_size, Array.size_setIfInBounds]; omega
  go_upto_region 5 with (go_at_call 76; refine (rvFlag (HW4.out) (HB4.out) hf hos).mono ?_; rintro e w5 ⟨rfl, fc, a5, e5, hWx, hBx, hcx, hTx⟩)
  have HB5 := hide (show Blk w5 b ty (((putL (putL (putL (vs) [i] [iv zk]) [i + 1, i + 2, i + 3, i + 10] [uv n1, uv n2, uv n3, uv n4]) [i + 4, i + 4 + 1, i + 4 + 2] [uv tb, uv ts, uv tq]).setIfInBounds (i + 7) (vo)).setIfInBounds (i + 8) (.bool fc)) from hBx)
  have HW5 := hide hWx
  have HT5 := hide (hTx)
  have HC5 := hide (HC4.out.trans (hcx) fun _ _ h => h)
  have HO5 := hide (HO4.out.chg (hcx) (fun k h1 h2 e => by have h3 := hgl; have h4 := hbl; omega))
  clear hWx hBx hcx hTx HW4 HB4 HC4 HO4
  clear hos
  have hpt := RdPt.lit w5 149 #[.pointer (some ⟨b, i + 9, none⟩)] [⟨b, i + 9, none⟩] 1 rfl rfl (by simp [maxLen])
  have hcL := (Chg.refl Non w5).alloc (.cells #[.pointer (some ⟨b, i + 9, none⟩)] 149)
  have hWL := (HW5.out).c0 hcL
  have hBL := (HB5.out).c0 hcL
  have hFp : ∀ k, k = w5.heap.size → k ≠ g ∧ k ≠ b := fun k e => by have := (HW5.out).rd.lt; have := (HB5.out).lt; omega
  have hos : ∀ o ∈ [i + 9], o < (((putL (putL (putL (vs) [i] [iv zk]) [i + 1, i + 2, i + 3, i + 10] [uv n1, uv n2, uv n3, uv n4]) [i + 4, i + 4 + 1, i + 4 + 2] [uv tb, uv ts, uv tq]).setIfInBounds (i + 7) (vo)).setIfInBounds (i + 8) (.bool fc)).size := fun o ho => by (try simp only [putL_size, Array.size_setIfInBounds]); simp at ho; omega
  go_upto_region 6 with (go_at_call 60; refine (rvData (os := [i + 9]) hWL hpt hFp hBL hf hos).mono ?_; rintro e w6 ⟨rfl, ps, a6, e6, hWx, hnx, hux, hBx, hcx, hTx⟩)
  obtain ⟨⟨vr, rp⟩, rfl⟩ : ∃ n, ps = [n] := List.length_eq_one_iff.1 hnx
  have hux := (hux.1 (vr, rp) (by simp)).low (b' := w.heap.size) (Nat.le_trans (HC5.out.size) hcL.size)
  have HB6 := hide (show Blk w6 b ty (putL (((putL (putL (putL (vs) [i] [iv zk]) [i + 1, i + 2, i + 3, i + 10] [uv n1, uv n2, uv n3, uv n4]) [i + 4, i + 4 + 1, i + 4 + 2] [uv tb, uv ts, uv tq]).setIfInBounds (i + 7) (vo)).setIfInBounds (i + 8) (.bool fc)) [i + 9] [vr]) from hBx)
  have HW6 := hide hWx
  have HT6 := hide (hTx.single)
  have HC6 := hide (HC5.out.trans (((chgX (S := fun k => k = g ∨ k = b) hcL).trans hcx fun _ _ h => h)) fun _ _ h => h)
  have HO6 := hide (HO5.out.chg (((chgX (S := fun k => k = g ∨ k = b) hcL).trans hcx fun _ _ h => h)) (fun k h1 h2 e => by have h3 := hgl; have h4 := hbl; omega))
  have HR6 := hide (hux)
  clear hWx hBx hcx hTx HW5 HB5 HC5 HO5
  clear hpt hcL hWL hBL hFp hos hnx hux
  go_wp2_with (go_at_call 57; refine (rvText (o := i + 11) (HW6.out) (HB6.out) hf (putL_get (set_get (set_get (putL_get (putL_get (putL_get (H11.out) (by simp <;> omega)) (by simp <;> omega)) (by simp <;> omega)) (by omega)) (by omega)) (by simp <;> omega)) (by first | exact hsn | decide)).mono ?_; rintro e w7 ⟨rfl, nm, a7, e7, hWx, hBx, hcx, hTx⟩)
  have HB7 := hide (show Blk w7 b ty ((putL (((putL (putL (putL (vs) [i] [iv zk]) [i + 1, i + 2, i + 3, i + 10] [uv n1, uv n2, uv n3, uv n4]) [i + 4, i + 4 + 1, i + 4 + 2] [uv tb, uv ts, uv tq]).setIfInBounds (i + 7) (vo)).setIfInBounds (i + 8) (.bool fc)) [i + 9] [vr]).setIfInBounds (i + 11) (.string nm)) from hBx)
  have HW7 := hide hWx
  have HT7 := hide (hTx)
  have HC7 := hide (HC6.out.trans (hcx) fun _ _ h => h)
  have HO7 := hide (HO6.out.chg (hcx) (fun k h1 h2 e => by have h3 := hgl; have h4 := hbl; omega))
  have HR7 := hide (HR6.out.chg (hcx) (fun k hk e => by have h1 := (HR6.out.lt k hk).1; have h2 := hgl; have h3 := hbl; omega))
  clear hWx hBx hcx hTx HW6 HB6 HC6 HO6 HR6
  have U2 := HU2.out.2
  have U3 := HU3.out
  exact bodyPost_end (results_none rfl _ _ _) rfl (.inl ⟨rfl, ⟨zk, n1, n2, n3, tb, ts, tq, os, fc, rp, n4, nm⟩, vo, vr, xs, a7, e7, HW7.out, ⟨HO7.out, HR7.out, HU1.out, ⟨U2 n1 (by simp), U2 n2 (by simp), U2 n3 (by simp), U2 n4 (by simp), U3.1, U3.2.1, U3.2.2⟩⟩, (by have hb := HB7.out; simp only [putL] at hb ⊢; exact hb), HC7.out, ask_took (HT1.out.seq (HT2.out.seq (HT3.out.seq (HT4.out.seq (HT5.out.seq (HT6.out.seq (HT7.out)))))))⟩)
end Go.Proofs.Ytncchbcoldgpbaa

namespace Go.Proofs.Ytncchbcoldgpbaa
open Go.RowKit
set_option linter.unusedVariables false
set_option linter.unusedSimpArgs false

theorem OutV.low {w : World} {base b' : Nat} {y : OutS} {vr vw : Value} (h : OutV w base y vr vw) (hb : b' ≤ base) : OutV w b' y vr vw :=
  ⟨h.rows.mono fun k hk => ⟨Nat.le_trans hb hk.1, hk.2⟩, h.ws.mono fun k hk => ⟨Nat.le_trans hb hk.1, hk.2⟩, h.rn, h.rr, h.wn⟩
theorem OutV.chg {w w' : World} {base : Nat} {S : Nat → Prop} {y : OutS} {vr vw : Value} (h : OutV w base y vr vw) (hc : Chg S w w') (hS : ∀ k, base ≤ k → k < w.heap.size → ¬ S k) : OutV w' base y vr vw :=
  ⟨(h.rows.chg hc fun k hk => hS k hk.1 hk.2).mono fun k hk => ⟨hk.1, Nat.lt_of_lt_of_le hk.2 hc.size⟩, (h.ws.chg hc fun k hk => hS k hk.1 hk.2).mono fun k hk => ⟨hk.1, Nat.lt_of_lt_of_le hk.2 hc.size⟩, h.rn, h.rr, h.wn⟩
def DAns (x : AnsS) : Prop := I64 x.kind ∧ ((U64 x.inc ∧ U64 x.boot ∧ U64 x.id ∧ U64 x.at_) ∧ ((U64 x.tb ∧ U64 x.ts ∧ U64 x.tq) ∧ (I64 x.err ∧ (DOut x.out ∧ T64 x.reply))))
abbrev AnsT := Int × (List Nat × (List Nat × (Int × (OutS × (Bool × List UInt8)))))
def DAnsT (p : AnsT) : Prop := I64 p.1 ∧ ((p.2.1.length = 4 ∧ ∀ n ∈ p.2.1, U64 n) ∧ ((p.2.2.1.length = 3 ∧ ∀ n ∈ p.2.2.1, U64 n) ∧ (I64 p.2.2.2.1 ∧ (DOut p.2.2.2.2.1 ∧ (True ∧ T64 p.2.2.2.2.2.2)))))
def EAnsT (p : AnsT) : List UInt8 := numB (wz p.1) ++ (p.2.1.flatMap numB ++ (p.2.2.1.flatMap numB ++ (numB (wz p.2.2.2.1) ++ (outB p.2.2.2.2.1 ++ (flagB p.2.2.2.2.2.1 ++ partB p.2.2.2.2.2.2)))))
def ansT (x : AnsS) : AnsT := (x.kind, [x.inc, x.boot, x.id, x.at_], [x.tb, x.ts, x.tq], x.err, x.out, x.commit, x.reply)
theorem ansT_D (x : AnsS) (h : DAns x) : DAnsT (ansT x) :=
  ⟨h.1, ⟨rfl, fun n hn => by simp [ansT] at hn; rcases hn with rfl | rfl | rfl | rfl; exact h.2.1.1; exact h.2.1.2.1; exact h.2.1.2.2.1; exact h.2.1.2.2.2⟩, ⟨rfl, fun n hn => by simp [ansT] at hn; rcases hn with rfl | rfl | rfl; exact h.2.2.1.1; exact h.2.2.1.2.1; exact h.2.2.1.2.2⟩, h.2.2.2.1, h.2.2.2.2.1, trivial, h.2.2.2.2.2⟩
theorem ansT_E (x : AnsS) : ansB x = EAnsT (ansT x) := by simp [ansB, EAnsT, ansT, numsB, flatB]
theorem ans_took {l : List UInt8} {a a' : Nat} {e e' : Int} {k : Int} {n1 n2 n3 n4 tb ts tq : Nat} {ze : Int} {y : OutS} {f : Bool} {rp : List UInt8} (h : Took DAnsT EAnsT l a e (k, [n1, n2, n3, n4], [tb, ts, tq], ze, y, f, rp) a' e') : Took DAns ansB l a e ⟨k, n1, n2, tb, ts, tq, n3, ze, y, f, rp, n4⟩ a' e' := by
  refine h.iso (fun p : AnsT => (⟨p.1, p.2.1.getD 0 0, p.2.1.getD 1 0, p.2.2.1.getD 0 0, p.2.2.1.getD 1 0, p.2.2.1.getD 2 0, p.2.1.getD 2 0, p.2.2.2.1, p.2.2.2.2.1, p.2.2.2.2.2.1, p.2.2.2.2.2.2, p.2.1.getD 3 0⟩ : AnsS)) ansT (fun _ _ => rfl) ansT_D (fun p hp => ?_) (fun x _ => ansT_E x) (fun p hp => ?_)
  · obtain ⟨h1, ⟨h2, h3⟩, ⟨h4, h5⟩, h6⟩ := hp
    match p, h1, h2, h3, h4, h5, h6 with
    | (k, [m1, m2, m3, m4], [s1, s2, s3], r), h1, _, h3, _, h5, h6 => exact ⟨h1, ⟨h3 m1 (by simp), h3 m2 (by simp), h3 m3 (by simp), h3 m4 (by simp)⟩, ⟨h5 s1 (by simp), h5 s2 (by simp), h5 s3 (by simp)⟩, h6.1, h6.2.1, h6.2.2.2⟩
  · obtain ⟨h1, ⟨h2, h3⟩, ⟨h4, h5⟩, h6⟩ := hp
    match p, h2, h4 with
    | (k, [m1, m2, m3, m4], [s1, s2, s3], r), _, _ => exact ansT_E _
theorem ans_fell {l : List UInt8} {a : Nat} {e : Int} (h : Fell DAnsT EAnsT l a e) : Fell DAns ansB l a e := h.iso ansT ansT_D (fun x _ => ansT_E x)
/-- an answer's parts, read -/
structure AnsV (w : World) (base : Nat) (y : AnsS) (vr vw vp : Value) : Prop where
  out : OutV w base y.out vr vw
  reply : OwnB w base vp y.reply
  kk : I64 y.kind
  ke : I64 y.err
  u : U64 y.inc ∧ U64 y.boot ∧ U64 y.id ∧ U64 y.at_ ∧ U64 y.tb ∧ U64 y.ts ∧ U64 y.tq

set_option maxHeartbeats 16000000 in
set_option maxRecDepth 100000 in
theorem rvAnswer {x g a b i : Nat} {er : Int} {l : List UInt8} {F : Nat → Prop} {vs : Array Value} {ty : TypeId} {z0 z1 z2 z3 : Int} {A0 A1 : Option Addr} {n0 c0 n1 c1 : Nat} {w : World} (h : WRd w F x g l a er) (hB : Blk w b ty vs) (hf : Free F x g b)
    (h0 : vs[i]? = some (.int .i64 z0)) (h7 : vs[i + 7]? = some (.int .i64 z1)) (h8 : vs[i + 8]? = some (.int .i64 z2)) (h9 : vs[i + 8 + 1]? = some (.int .i64 z3)) (h10 : vs[i + 8 + 2]? = some (.slice A0 n0 c0)) (h11 : vs[i + 8 + 3]? = some (.slice A1 n1 c1)) (hsz : i + 15 ≤ vs.size) :
    Calls Try.prog 55 #[.pointer (some ⟨x, 0, none⟩), .pointer (some ⟨b, i, none⟩)] w fun e w' =>
      (e = .returned (.tuple #[]) ∧ ∃ (y : AnsS) (vr vw vp : Value) (a' : Nat) (e' : Int), WRd w' F x g l a' e' ∧ AnsV w' w.heap.size y vr vw vp ∧
        Blk w' b ty (putL vs [i, i + 1, i + 2, i + 6, i + 14, i + 3, i + 3 + 1, i + 3 + 2, i + 7, i + 8, i + 8 + 1, i + 8 + 2, i + 8 + 3, i + 12, i + 13] [iv y.kind, uv y.inc, uv y.boot, uv y.id, uv y.at_, uv y.tb, uv y.ts, uv y.tq, iv y.err, iv y.out.err, iv y.out.at_, vr, vw, .bool y.commit, vp]) ∧ Chg (fun k => k = g ∨ k = b) w w' ∧ Took DAns ansB l a er y a' e') ∨
      (∃ er' : Int, er' ≠ 0 ∧ e = .panicked [{ v := .iface 39 (.int .i64 er'), recovered := false }] ∧ Fell DAns ansB l a er ∧ (∃ q, Blk w' b ty q ∧ q.size = vs.size) ∧ Chg (fun k => k = g ∨ k = b) w w') := by
  have hgl := h.rd.lt
  have hbl := hB.lt
  have H0 := hide h0
  have H7 := hide h7
  have H8 := hide h8
  have H9 := hide h9
  have H10 := hide h10
  have H11 := hide h11
  clear h0 h7 h8 h9 h10 h11
  go_enter Try.func55, Try.ntmps55
  have hpt := RdPt.lit w 133 #[.pointer (some ⟨b, i, none⟩)] [⟨b, i, none⟩] 1 rfl rfl (by simp [maxLen])
  have hcL := (Chg.refl Non w).alloc (.cells #[.pointer (some ⟨b, i, none⟩)] 133)
  have hWL := (h).c0 hcL
  have hBL := (hB).c0 hcL
  have hFp : ∀ k, k = w.heap.size → k ≠ g ∧ k ≠ b := fun k e => by have := (h).rd.lt; have := (hB).lt; omega
  have hos : ∀ o ∈ [i], ∃ z, (vs)[o]? = some (.int .i64 z) := fun o ho => by rw [List.mem_singleton] at ho; subst ho; exact ⟨_, (H0.out)⟩
  go_upto_region 1 with (go_at_call 52; refine (rvWhole (os := [i]) hWL hpt hFp hBL hf hos).mono ?_; rintro e w1 ⟨rfl, zs, a1, e1, hWx, hnx, hux, hBx, hcx, hTx⟩)
  obtain ⟨zk, rfl⟩ : ∃ n, zs = [n] := List.length_eq_one_iff.1 hnx
  have HU1 := hide (hux zk (by simp))
  have HB1 := hide (show Blk w1 b ty (putL (vs) [i] [iv zk]) from hBx)
  have HW1 := hide hWx
  have HT1 := hide (hTx.single)
  have HC1 := hide (((chgX (S := fun k => k = g ∨ k = b) hcL).trans hcx fun _ _ h => h))
  clear hWx hBx hcx hTx
  clear hpt hcL hWL hBL hFp hos hnx hux
  go_upto_region 1 with fail
  have hcd : Chg Non w1 w1.drew := (Chg.refl Non w1).drew
  have hpt := RdPt.lit w1.drew 135 #[.pointer (some ⟨b, i + 1, none⟩), .pointer (some ⟨b, i + 2, none⟩), .pointer (some ⟨b, i + 6, none⟩), .pointer (some ⟨b, i + 14, none⟩)] [⟨b, i + 1, none⟩, ⟨b, i + 2, none⟩, ⟨b, i + 6, none⟩, ⟨b, i + 14, none⟩] 4 rfl rfl (by simp [maxLen])
  have hcM := (Chg.refl Non w1.drew).alloc (.cells #[.pointer (some ⟨b, i + 1, none⟩), .pointer (some ⟨b, i + 2, none⟩), .pointer (some ⟨b, i + 6, none⟩), .pointer (some ⟨b, i + 14, none⟩)] 135)
  have hcL := hcd.trans0 hcM
  have hWL := (HW1.out).c0 hcL
  have hBL := (HB1.out).c0 hcL
  have hFp : ∀ k, k = w1.drew.heap.size → k ≠ g ∧ k ≠ b := fun k e => by have := (HW1.out).rd.lt; have := (HB1.out).lt; have : w1.drew.heap.size = w1.heap.size := rfl; omega
  have hos : ∀ o ∈ [i + 1, i + 2, i + 6, i + 14], o < (putL (vs) [i] [iv zk]).size := fun o ho => by (try simp only [putL_size, Array.size_setIfInBounds]); simp at ho; omega
  have HX := hide (rvNum (os := [i + 1, i + 2, i + 6, i + 14]) hWL hpt hFp hBL hf hos)
  clear hos hFp hpt hWL hBL
  refine wp_region_T (fun _ => True) 99 (by kernel_rfl) ?_
  have HS := hide True.intro
  refine AnyT.take (i := 0) (v := ?_) rfl (by kernel_rfl) (by kernel_rfl) (fun _ _ _ h => h) (by kernel_rfl) (by kernel_rfl) (Or.inl ⟨by rfl, ?_⟩) HS.out ?_
  rotate_left
  · (intro w9 h9; go_simp; try with_reducible rfl)
  try simp only [getElem_toArray, getElem_cons_succ, getElem_cons_zero, Act.put, setIfInBounds_toArray, set_cons_zero, set_cons_succ]
  refine AnyT.take (i := 1) (v := ?_) rfl (by kernel_rfl) (by kernel_rfl) (fun _ _ _ h => h) (by kernel_rfl) (by kernel_rfl) (Or.inl ⟨by rfl, ?_⟩) HS.out ?_
  rotate_left
  · (intro w9 h9; go_simp; try with_reducible rfl)
  try simp only [getElem_toArray, getElem_cons_succ, getElem_cons_zero, Act.put, setIfInBounds_toArray, set_cons_zero, set_cons_succ]
  refine AnyT.take (i := 2) (v := ?_) rfl (by kernel_rfl) (by kernel_rfl) (fun _ _ _ h => h) (by kernel_rfl) (by kernel_rfl) (Or.inl ⟨by rfl, ?_⟩) HS.out ?_
  rotate_left
  · (intro w9 h9; go_simp; try with_reducible rfl)
  try simp only [getElem_toArray, getElem_cons_succ, getElem_cons_zero, Act.put, setIfInBounds_toArray, set_cons_zero, set_cons_succ]
  refine AnyT.take (i := 3) (v := ?_) rfl (by kernel_rfl) (by kernel_rfl) (fun _ _ _ h => h) (by kernel_rfl) (by kernel_rfl) (Or.inl ⟨by rfl, ?_⟩) HS.out ?_
  rotate_left
  · (intro w9 h9; go_simp; try with_reducible rfl)
  try simp only [getElem_toArray, getElem_cons_succ, getElem_cons_zero, Act.put, setIfInBounds_toArray, set_cons_zero, set_cons_succ]
  refine AnyT.take (i := 4) (v := ?_) rfl (by kernel_rfl) (by kernel_rfl) (fun _ _ _ h => h) (by kernel_rfl) (by kernel_rfl) (Or.inl ⟨by rfl, ?_⟩) HS.out ?_
  rotate_left
  · (intro w9 h9; go_simp; try with_reducible rfl)
  try simp only [getElem_toArray, getElem_cons_succ, getElem_cons_zero, Act.put, setIfInBounds_toArray, set_cons_zero, set_cons_succ]
  refine AnyT.take (i := 5) (v := ?_) rfl (by kernel_rfl) (by kernel_rfl) (fun _ _ _ h => h) (by kernel_rfl) (by kernel_rfl) (Or.inl ⟨by rfl, ?_⟩) HS.out ?_
  rotate_left
  · (intro w9 h9; go_simp; try with_reducible rfl)
  try simp only [getElem_toArray, getElem_cons_succ, getElem_cons_zero, Act.put, setIfInBounds_toArray, set_cons_zero, set_cons_succ]
  refine AnyT.take (i := 6) (v := ?_) rfl (by kernel_rfl) (by kernel_rfl) (fun _ _ _ h => h) (by kernel_rfl) (by kernel_rfl) (Or.inl ⟨by rfl, ?_⟩) HS.out ?_
  rotate_left
  · (intro w9 h9; go_simp; try with_reducible rfl)
  try simp only [getElem_toArray, getElem_cons_succ, getElem_cons_zero, Act.put, setIfInBounds_toArray, set_cons_zero, set_cons_succ]
  refine AnyT.take (i := 7) (v := ?_) rfl (by kernel_rfl) (by kernel_rfl) (fun _ _ _ h => h) (by kernel_rfl) (by kernel_rfl) (Or.inl ⟨by rfl, ?_⟩) HS.out ?_
  rotate_left
  · (intro w9 h9; go_simp; try with_reducible rfl)
  try simp only [getElem_toArray, getElem_cons_succ, getElem_cons_zero, Act.put, setIfInBounds_toArray, set_cons_zero, set_cons_succ]
  refine AnyT.take (i := 8) (v := ?_) rfl (by kernel_rfl) (by kernel_rfl) (fun _ _ _ h => h) (by kernel_rfl) (by kernel_rfl) (Or.inl ⟨by rfl, ?_⟩) HS.out ?_
  rotate_left
  · (intro w9 h9; go_simp; try with_reducible rfl)
  try simp only [getElem_toArray, getElem_cons_succ, getElem_cons_zero, Act.put, setIfInBounds_toArray, set_cons_zero, set_cons_succ]
  refine AnyT.take (i := 9) (v := ?_) rfl (by kernel_rfl) (by kernel_rfl) (fun _ _ _ h => h) (by kernel_rfl) (by kernel_rfl) (Or.inl ⟨by rfl, ?_⟩) HS.out ?_
  rotate_left
  · (intro w9 h9; go_simp; try with_reducible rfl)
  try simp only [getElem_toArray, getElem_cons_succ, getElem_cons_zero, Act.put, setIfInBounds_toArray, set_cons_zero, set_cons_succ]
  refine AnyT.take (i := 10) (v := ?_) rfl (by kernel_rfl) (by kernel_rfl) (fun _ _ _ h => h) (by kernel_rfl) (by kernel_rfl) (Or.inl ⟨by rfl, ?_⟩) HS.out ?_
  rotate_left
  · (intro w9 h9; go_simp; try with_reducible rfl)
  try simp only [getElem_toArray, getElem_cons_succ, getElem_cons_zero, Act.put, setIfInBounds_toArray, set_cons_zero, set_cons_succ]
  refine AnyT.take (i := 11) (v := ?_) rfl (by kernel_rfl) (by kernel_rfl) (fun _ _ _ h => h) (by kernel_rfl) (by kernel_rfl) (Or.inl ⟨by rfl, ?_⟩) HS.out ?_
  rotate_left
  · (intro w9 h9; go_simp; try with_reducible rfl)
  try simp only [getElem_toArray, getElem_cons_succ, getElem_cons_zero, Act.put, setIfInBounds_toArray, set_cons_zero, set_cons_succ]
  refine AnyT.take (i := 12) (v := ?_) rfl (by kernel_rfl) (by kernel_rfl) (fun _ _ _ h => h) (by kernel_rfl) (by kernel_rfl) (Or.inl ⟨by rfl, ?_⟩) HS.out ?_
  rotate_left
  · (intro w9 h9; go_simp; try with_reducible rfl)
  try simp only [getElem_toArray, getElem_cons_succ, getElem_cons_zero, Act.put, setIfInBounds_toArray, set_cons_zero, set_cons_succ]
  refine AnyT.one (i := 13) (by kernel_rfl) rfl (fun K hK => ?_)
  go_simp
  refine hK.out _ _ (fun _ => trivial) ?_
  clear hK K
  try simp only [getElem_toArray, getElem_cons_succ, getElem_cons_zero, Act.put, setIfInBounds_toArray, set_cons_zero, set_cons_succ]
  refine AnyT.one (i := 14) (by kernel_rfl) rfl (fun K hK => ?_)
  go_simp
  go_wp2_with (go_at_call 53; refine HX.out.mono ?_; rintro e w2 ⟨rfl, ns, a2, e2, hWx, hnx, hux, hBx, hcx, hTx⟩)
  refine hK.out _ _ (fun _ => trivial) ?_
  clear hK K
  try simp only [getElem_toArray, getElem_cons_succ, getElem_cons_zero, Act.put, setIfInBounds_toArray, set_cons_zero, set_cons_succ]
  refine AnyT.nil (by kernel_rfl) ?_
  clear HS
  obtain ⟨n1, n2, n3, n4, rfl⟩ : ∃ n1 n2 n3 n4, ns = [n1, n2, n3, n4] := by
    match ns, hnx with
    | [n1, n2, n3, n4], _ => exact ⟨n1, n2, n3, n4, rfl⟩
  have HU2 := hide (And.intro True.intro hux)
  clear hnx
  have HB2 := hide (show Blk w2 b ty (putL (putL (vs) [i] [iv zk]) [i + 1, i + 2, i + 6, i + 14] [uv n1, uv n2, uv n3, uv n4]) from hBx)
  have HW2 := hide hWx
  have HT2 := hide (hTx)
  have HC2 := hide (HC1.out.trans (((chgX (S := fun k => k = g ∨ k = b) hcL).trans hcx fun _ _ h => h)) fun _ _ h => h)
  clear hWx hBx hcx hTx HW1 HB1 HC1
  clear hcd hcM hcL HX hux
  have hos : i + 3 + 2 < (putL (putL (vs) [i] [iv zk]) [i + 1, i + 2, i + 6, i + 14] [uv n1, uv n2, uv n3, uv n4]).size := by simp only [putL_size, Array.size_setIfInBounds]; omega
  go_upto_region 3 with (go_at_call 56; refine (rvTxn (HW2.out) (HB2.out) hf hos).mono ?_; rintro e w3 ⟨rfl, tb, ts, tq, a3, e3, hWx, hux, hBx, hcx, hTx⟩)
  have HU3 := hide hux
  have HB3 := hide (show Blk w3 b ty (putL (putL (putL (vs) [i] [iv zk]) [i + 1, i + 2, i + 6, i + 14] [uv n1, uv n2, uv n3, uv n4]) [i + 3, i + 3 + 1, i + 3 + 2] [uv tb, uv ts, uv tq]) from hBx)
  have HW3 := hide hWx
  have HT3 := hide (hTx)
  have HC3 := hide (HC2.out.trans (hcx) fun _ _ h => h)
  clear hWx hBx hcx hTx HW2 HB2 HC2
  clear hos hux
  go_upto_region 4 with (go_at_call 59; refine (rvErrno (o := i + 7) (HW3.out) (HB3.out) hf (putL_get (putL_get (putL_get (H7.out) (by simp <;> omega)) (by simp <;> omega)) (by simp <;> omega))).mono ?_; rintro e w4 ⟨rfl, ze, a4, e4, hWx, hux, hBx, hcx, hTx⟩)
  have HU4 := hide hux
  have HB4 := hide (show Blk w4 b ty ((putL (putL (putL (vs) [i] [iv zk]) [i + 1, i + 2, i + 6, i + 14] [uv n1, uv n2, uv n3, uv n4]) [i + 3, i + 3 + 1, i + 3 + 2] [uv tb, uv ts, uv tq]).setIfInBounds (i + 7) (iv ze)) from hBx)
  have HW4 := hide hWx
  have HT4 := hide (hTx)
  have HC4 := hide (HC3.out.trans (hcx) fun _ _ h => h)
  clear hWx hBx hcx hTx HW3 HB3 HC3
  clear hux
  go_upto_region 5 with (go_at_call 77; refine (rvOutcome (i := i + 8) (HW4.out) (HB4.out) hf (set_get (putL_get (putL_get (putL_get (H8.out) (by simp <;> omega)) (by simp <;> omega)) (by simp <;> omega)) (by omega)) (set_get (putL_get (putL_get (putL_get (H9.out) (by simp <;> omega)) (by simp <;> omega)) (by simp <;> omega)) (by omega)) (set_get (putL_get (putL_get (putL_get (H10.out) (by simp <;> omega)) (by simp <;> omega)) (by simp <;> omega)) (by omega)) (set_get (putL_get (putL_get (putL_get (H11.out) (by simp <;> omega)) (by simp <;> omega)) (by simp <;> omega)) (by omega))).mono ?_; rintro e w5 (⟨rfl, y, vr, vw, a5, e5, hWx, hux, hBx, hcx, hTx⟩ | ⟨er1, he1, rfl, hno, ⟨q, hq1, hq2⟩, hcx⟩))
  rotate_left
  · exact ⟨rfl, .inr ⟨er1, he1, rfl, ans_fell (HT1.out.fell (HT2.out.fell (HT3.out.fell (HT4.out.fell (hno.left (D2 := fun q : Bool × List UInt8 => True ∧ T64 q.2) (E2 := fun q => flagB q.1 ++ partB q.2)))))), ⟨q, hq1, by rw [hq2]; simp only [putL_size, Array.size_setIfInBounds]⟩, HC4.out.trans (hcx) fun _ _ h => h⟩⟩
  have HB5 := hide (show Blk w5 b ty ((((((putL (putL (putL (vs) [i] [iv zk]) [i + 1, i + 2, i + 6, i + 14] [uv n1, uv n2, uv n3, uv n4]) [i + 3, i + 3 + 1, i + 3 + 2] [uv tb, uv ts, uv tq]).setIfInBounds (i + 7) (iv ze)).setIfInBounds (i + 8) (iv y.err)).setIfInBounds (i + 8 + 1) (iv y.at_)).setIfInBounds (i + 8 + 2) (vr)).setIfInBounds (i + 8 + 3) (vw)) from hBx)
  have HW5 := hide hWx
  have HT5 := hide (hTx)
  have HC5 := hide (HC4.out.trans (hcx) fun _ _ h => h)
  have HO5 := hide (hux.low (HC4.out.size))
  clear hWx hBx hcx hTx HW4 HB4 HC4
  clear hux
  have hos : i + 12 < ((((((putL (putL (putL (vs) [i] [iv zk]) [i + 1, i + 2, i + 6, i + 14] [uv n1, uv n2, uv n3, uv n4]) [i + 3, i + 3 + 1, i + 3 + 2] [uv tb, uv ts, uv tq]).setIfInBounds (i + 7) (iv ze)).setIfInBounds (i + 8) (iv y.err)).setIfInBounds (i + 8 + 1) (iv y.at_)).setIfInBounds (i + 8 + 2) (vr)).setIfInBounds (i + 8 + 3) (vw)).size := by simp only [putL_size, Array.size_setIfInBounds]; omega
  go_upto_region 6 with (go_at_call 76; refine (rvFlag (HW5.out) (HB5.out) hf hos).mono ?_; rintro e w6 ⟨rfl, fc, a6, e6, hWx, hBx, hcx, hTx⟩)
  have HB6 := hide (show Blk w6 b ty (((((((putL (putL (putL (vs) [i] [iv zk]) [i + 1, i + 2, i + 6, i + 14] [uv n1, uv n2, uv n3, uv n4]) [i + 3, i + 3 + 1, i + 3 + 2] [uv tb, uv ts, uv tq]).setIfInBounds (i + 7) (iv ze)).setIfInBounds (i + 8) (iv y.err)).setIfInBounds (i + 8 + 1) (iv y.at_)).setIfInBounds (i + 8 + 2) (vr)).setIfInBounds (i + 8 + 3) (vw)).setIfInBounds (i + 12) (.bool fc)) from hBx)
  have HW6 := hide hWx
  have HT6 := hide (hTx)
  have HC6 := hide (HC5.out.trans (hcx) fun _ _ h => h)
  have HO6 := hide (HO5.out.chg (hcx) (fun k h1 h2 e => by have h3 := hgl; have h4 := hbl; omega))
  clear hWx hBx hcx hTx HW5 HB5 HC5 HO5
  clear hos
  have hpt := RdPt.lit w6 149 #[.pointer (some ⟨b, i + 13, none⟩)] [⟨b, i + 13, none⟩] 1 rfl rfl (by simp [maxLen])
  have hcL := (Chg.refl Non w6).alloc (.cells #[.pointer (some ⟨b, i + 13, none⟩)] 149)
  have hWL := (HW6.out).c0 hcL
  have hBL := (HB6.out).c0 hcL
  have hFp : ∀ k, k = w6.heap.size → k ≠ g ∧ k ≠ b := fun k e => by have := (HW6.out).rd.lt; have := (HB6.out).lt; omega
  have hos : ∀ o ∈ [i + 13], o < (((((((putL (putL (putL (vs) [i] [iv zk]) [i + 1, i + 2, i + 6, i + 14] [uv n1, uv n2, uv n3, uv n4]) [i + 3, i + 3 + 1, i + 3 + 2] [uv tb, uv ts, uv tq]).setIfInBounds (i + 7) (iv ze)).setIfInBounds (i + 8) (iv y.err)).setIfInBounds (i + 8 + 1) (iv y.at_)).setIfInBounds (i + 8 + 2) (vr)).setIfInBounds (i + 8 + 3) (vw)).setIfInBounds (i + 12) (.bool fc)).size := fun o ho => by (try simp only [putL_size, Array.size_setIfInBounds]); simp at ho; omega
  go_wp2_with (go_at_call 60; refine (rvData (os := [i + 13]) hWL hpt hFp hBL hf hos).mono ?_; rintro e w7 ⟨rfl, ps, a7, e7, hWx, hnx, hux, hBx, hcx, hTx⟩)
  obtain ⟨⟨vp, rp⟩, rfl⟩ : ∃ n, ps = [n] := List.length_eq_one_iff.1 hnx
  have hux := (hux.1 (vp, rp) (by simp)).low (b' := w.heap.size) (Nat.le_trans (HC6.out.size) hcL.size)
  have HB7 := hide (show Blk w7 b ty (putL (((((((putL (putL (putL (vs) [i] [iv zk]) [i + 1, i + 2, i + 6, i + 14] [uv n1, uv n2, uv n3, uv n4]) [i + 3, i + 3 + 1, i + 3 + 2] [uv tb, uv ts, uv tq]).setIfInBounds (i + 7) (iv ze)).setIfInBounds (i + 8) (iv y.err)).setIfInBounds (i + 8 + 1) (iv y.at_)).setIfInBounds (i + 8 + 2) (vr)).setIfInBounds (i + 8 + 3) (vw)).setIfInBounds (i + 12) (.bool fc)) [i + 13] [vp]) from hBx)
  have HW7 := hide hWx
  have HT7 := hide (hTx.single)
  have HC7 := hide (HC6.out.trans (((chgX (S := fun k => k = g ∨ k = b) hcL).trans hcx fun _ _ h => h)) fun _ _ h => h)
  have HO7 := hide (HO6.out.chg (((chgX (S := fun k => k = g ∨ k = b) hcL).trans hcx fun _ _ h => h)) (fun k h1 h2 e => by have h3 := hgl; have h4 := hbl; omega))
  have HR7 := hide (hux)
  clear hWx hBx hcx hTx HW6 HB6 HC6 HO6
  clear hpt hcL hWL hBL hFp hos hnx hux
  have U2 := HU2.out.2
  have U3 := HU3.out
  exact bodyPost_end (results_none rfl _ _ _) rfl (.inl ⟨rfl, ⟨zk, n1, n2, tb, ts, tq, n3, ze, y, fc, rp, n4⟩, vr, vw, vp, a7, e7, HW7.out, ⟨HO7.out, HR7.out, HU1.out, HU4.out, ⟨U2 n1 (by simp), U2 n2 (by simp), U2 n3 (by simp), U2 n4 (by simp), U3.1, U3.2.1, U3.2.2⟩⟩, (by have hb := HB7.out; simp only [putL] at hb ⊢; exact hb), HC7.out, ans_took (HT1.out.seq (HT2.out.seq (HT3.out.seq (HT4.out.seq (HT5.out.seq (HT6.out.seq (HT7.out)))))))⟩)
end Go.Proofs.Ytncchbcoldgpbaa

namespace Go.Proofs.Ytncchbcoldgpbaa
open Go.RowKit
set_option linter.unusedVariables false
set_option linter.unusedSimpArgs false
def DPay : Pay → Prop
  | .ask x => DAsk x
  | .answer x => DAns x
  | .doubt inc boot tb ts tq => (U64 inc ∧ U64 boot) ∧ ((U64 tb ∧ U64 ts ∧ U64 tq))
  | .mend inc parent name => (U64 inc ∧ U64 parent) ∧ (T64 name.data.toList)
  | .mended inc => (U64 inc)
  | .call inc tb ts tq ops => (U64 inc) ∧ ((U64 tb ∧ U64 ts ∧ U64 tq) ∧ (DOps ops))
  | .reply inc boot tb ts tq code data => (U64 inc ∧ U64 boot) ∧ ((U64 tb ∧ U64 ts ∧ U64 tq) ∧ (I64 code ∧ (T64 data)))
  | .order inc boot session seq id parent name what => (U64 inc ∧ U64 boot ∧ U64 session ∧ U64 seq ∧ U64 id ∧ U64 parent) ∧ (T64 name.data.toList ∧ (I64 what))
  | .result inc boot session seq err => (U64 inc ∧ U64 boot ∧ U64 session ∧ U64 seq) ∧ (I64 err)
  | .greet  => True
  | .welcome inc boot => (U64 inc ∧ U64 boot)
abbrev PktT := Nat × (Nat × Pay)
def DPkt (p : PktT) : Prop := (U64 p.1 ∧ U64 p.2.1) ∧ DPay p.2.2
def EPkt (p : PktT) : List UInt8 := pktB p.1 p.2.1 p.2.2
theorem Pay.kind_bd (p : Pay) : 1 ≤ p.kind ∧ p.kind ≤ 11 := by cases p <;> simp [Pay.kind]
theorem Pay.kind_I (p : Pay) : I64 p.kind := by have := p.kind_bd; unfold I64; omega
section
variable {α : Type} {D : α → Prop} {E : α → List UInt8} {l : List UInt8} {a a1 a2 a3 : Nat} {e e1 e2 e3 : Int} {z : Int} {fr tt : Nat} {x : α}
theorem Took.pkt (T0 : Took I64 (fun z => numB (wz z)) l a e z a1 e1) (T1 : Took (fun ns : List Nat => ns.length = 2 ∧ ∀ n ∈ ns, U64 n) (fun ns => ns.flatMap numB) l a1 e1 [fr, tt] a2 e2) (T2 : Took D E l a2 e2 x a3 e3) (mk : α → Pay)
    (hk : (mk x).kind = z) (hE : ∀ x, D x → payB (mk x) = E x) (hD : ∀ x, D x → DPay (mk x)) (hinv : ∀ p, p.kind = z → DPay p → ∃ y, p = mk y ∧ D y) : Took DPkt EPkt l a e (fr, tt, mk x) a3 e3 := by
  refine ⟨fun he => ?_, fun he v0 r hd hr => ?_⟩
  · obtain ⟨h1, d2, h2⟩ := T2.ok he
    obtain ⟨h3, d1, h4⟩ := T1.ok h1
    obtain ⟨h5, d0, h6⟩ := T0.ok h3
    refine ⟨h5, ⟨⟨d1.2 fr (by simp), d1.2 tt (by simp)⟩, hD x d2⟩, ?_⟩
    rw [h6, h4, h2]
    simp only [EPkt, pktB, hk, hE x d2, numsB, List.append_assoc]
  · obtain ⟨fr0, tt0, p0⟩ := v0
    obtain ⟨⟨u1, u2⟩, dp⟩ := hd
    simp only [EPkt, pktB, List.append_assoc] at hr
    obtain ⟨h1, h2, h3⟩ := T0.det he p0.kind _ p0.kind_I hr
    obtain ⟨h4, h5, h6⟩ := T1.det h1 [fr0, tt0] _ ⟨rfl, fun n hn => by simp at hn; rcases hn with rfl | rfl; exact u1; exact u2⟩ h3
    obtain ⟨y, rfl, hy⟩ := hinv p0 h2.symm dp
    obtain ⟨h7, h8, h9⟩ := T2.det h4 y r hy (by rw [h6, hE y hy])
    simp at h5
    exact ⟨h7, by rw [h5.1, h5.2, h8], h9⟩
theorem Fell.pkt (T0 : Took I64 (fun z => numB (wz z)) l a e z a1 e1) (T1 : Took (fun ns : List Nat => ns.length = 2 ∧ ∀ n ∈ ns, U64 n) (fun ns => ns.flatMap numB) l a1 e1 [fr, tt] a2 e2) (T2 : Fell D E l a2 e2) (mk : α → Pay)
    (hE : ∀ x, D x → payB (mk x) = E x) (hinv : ∀ p, p.kind = z → DPay p → ∃ y, p = mk y ∧ D y) : Fell DPkt EPkt l a e := by
  intro he v0 r hd hr
  obtain ⟨fr0, tt0, p0⟩ := v0
  obtain ⟨⟨u1, u2⟩, dp⟩ := hd
  simp only [EPkt, pktB, List.append_assoc] at hr
  obtain ⟨h1, h2, h3⟩ := T0.det he p0.kind _ p0.kind_I hr
  obtain ⟨h4, h5, h6⟩ := T1.det h1 [fr0, tt0] _ ⟨rfl, fun n hn => by simp at hn; rcases hn with rfl | rfl; exact u1; exact u2⟩ h3
  obtain ⟨y, rfl, hy⟩ := hinv p0 h2.symm dp
  exact T2 h4 y r hy (by rw [h6, hE y hy])
theorem Fell.kind (T0 : Took I64 (fun z => numB (wz z)) l a e z a1 e1) (hz : z < 1 ∨ 11 < z) : Fell DPkt EPkt l a e := by
  intro he v0 r hd hr
  simp only [EPkt, pktB, List.append_assoc] at hr
  obtain ⟨h1, h2, h3⟩ := T0.det he v0.2.2.kind _ v0.2.2.kind_I hr
  have := v0.2.2.kind_bd
  omega
theorem Took.unit : Took (fun _ : Unit => True) (fun _ => []) l a e () a e := ⟨fun he => ⟨he, trivial, rfl⟩, fun he _ r _ hr => ⟨he, rfl, hr⟩⟩
end
theorem getD_len : ∀ {l : List Nat} {i : Nat}, (∀ m ∈ l, U64 m) → i < l.length → U64 (l.getD i 0) := fun {l} {i} h hi => by
  rw [List.getD_eq_getElem?_getD, List.getElem?_eq_getElem hi]
  exact h _ (List.getElem_mem hi)
abbrev PTAsk := AskS
def PDAsk (p : PTAsk) : Prop := DAsk p
def PEAsk (p : PTAsk) : List UInt8 := askB p
def mkAsk (p : PTAsk) : Pay := Pay.ask p
theorem mkAsk_E (p : PTAsk) (h : PDAsk p) : payB (mkAsk p) = PEAsk p := by
  simp [mkAsk, payB, PEAsk]
theorem mkAsk_D (p : PTAsk) (h : PDAsk p) : DPay (mkAsk p) := by
  exact h
theorem mkAsk_inv (p : Pay) (hk : p.kind = 1) (hd : DPay p) : ∃ y, p = mkAsk y ∧ PDAsk y := by
  cases p with
  | ask x =>
    exact ⟨x, rfl, hd⟩
  | answer _ => simp [Pay.kind] at hk
  | doubt _ _ _ _ _ => simp [Pay.kind] at hk
  | mend _ _ _ => simp [Pay.kind] at hk
  | mended _ => simp [Pay.kind] at hk
  | call _ _ _ _ _ => simp [Pay.kind] at hk
  | reply _ _ _ _ _ _ _ => simp [Pay.kind] at hk
  | order _ _ _ _ _ _ _ _ => simp [Pay.kind] at hk
  | result _ _ _ _ _ => simp [Pay.kind] at hk
  | greet => simp [Pay.kind] at hk
  | welcome _ _ => simp [Pay.kind] at hk
abbrev PTAnswer := AnsS
def PDAnswer (p : PTAnswer) : Prop := DAns p
def PEAnswer (p : PTAnswer) : List UInt8 := ansB p
def mkAnswer (p : PTAnswer) : Pay := Pay.answer p
theorem mkAnswer_E (p : PTAnswer) (h : PDAnswer p) : payB (mkAnswer p) = PEAnswer p := by
  simp [mkAnswer, payB, PEAnswer]
theorem mkAnswer_D (p : PTAnswer) (h : PDAnswer p) : DPay (mkAnswer p) := by
  exact h
theorem mkAnswer_inv (p : Pay) (hk : p.kind = 2) (hd : DPay p) : ∃ y, p = mkAnswer y ∧ PDAnswer y := by
  cases p with
  | ask _ => simp [Pay.kind] at hk
  | answer x =>
    exact ⟨x, rfl, hd⟩
  | doubt _ _ _ _ _ => simp [Pay.kind] at hk
  | mend _ _ _ => simp [Pay.kind] at hk
  | mended _ => simp [Pay.kind] at hk
  | call _ _ _ _ _ => simp [Pay.kind] at hk
  | reply _ _ _ _ _ _ _ => simp [Pay.kind] at hk
  | order _ _ _ _ _ _ _ _ => simp [Pay.kind] at hk
  | result _ _ _ _ _ => simp [Pay.kind] at hk
  | greet => simp [Pay.kind] at hk
  | welcome _ _ => simp [Pay.kind] at hk
abbrev PTDoubt := List Nat × (List Nat)
def PDDoubt (p : PTDoubt) : Prop := (p.1.length = 2 ∧ ∀ n ∈ p.1, U64 n) ∧ ((p.2.length = 3 ∧ ∀ n ∈ p.2, U64 n))
def PEDoubt (p : PTDoubt) : List UInt8 := p.1.flatMap numB ++ (p.2.flatMap numB)
def mkDoubt (p : PTDoubt) : Pay := Pay.doubt (p.1.getD 0 0) (p.1.getD 1 0) (p.2.getD 0 0) (p.2.getD 1 0) (p.2.getD 2 0)
theorem mkDoubt_E (p : PTDoubt) (h : PDDoubt p) : payB (mkDoubt p) = PEDoubt p := by
  match p, (h.1.1), (h.2.1) with
  | ([m00, m01], [m10, m11, m12]), _, _ => simp [mkDoubt, payB, PEDoubt, numsB, flatB, strB, EOps, opsB]
theorem mkDoubt_D (p : PTDoubt) (h : PDDoubt p) : DPay (mkDoubt p) := by
  exact ⟨⟨getD_len h.1.2 (by rw [h.1.1]; decide), getD_len h.1.2 (by rw [h.1.1]; decide)⟩, ⟨getD_len h.2.2 (by rw [h.2.1]; decide), getD_len h.2.2 (by rw [h.2.1]; decide), getD_len h.2.2 (by rw [h.2.1]; decide)⟩⟩
theorem mkDoubt_inv (p : Pay) (hk : p.kind = 3) (hd : DPay p) : ∃ y, p = mkDoubt y ∧ PDDoubt y := by
  cases p with
  | ask _ => simp [Pay.kind] at hk
  | answer _ => simp [Pay.kind] at hk
  | doubt inc boot tb ts tq =>
    have a00 := hd.1.1
    have a01 := hd.1.2
    have a10 := hd.2.1
    have a11 := hd.2.2.1
    have a12 := hd.2.2.2
    exact ⟨([inc, boot], [tb, ts, tq]), rfl, ⟨⟨rfl, fun n hn => by simp at hn; rcases hn with rfl | rfl <;> assumption⟩, ⟨rfl, fun n hn => by simp at hn; rcases hn with rfl | rfl | rfl <;> assumption⟩⟩⟩
  | mend _ _ _ => simp [Pay.kind] at hk
  | mended _ => simp [Pay.kind] at hk
  | call _ _ _ _ _ => simp [Pay.kind] at hk
  | reply _ _ _ _ _ _ _ => simp [Pay.kind] at hk
  | order _ _ _ _ _ _ _ _ => simp [Pay.kind] at hk
  | result _ _ _ _ _ => simp [Pay.kind] at hk
  | greet => simp [Pay.kind] at hk
  | welcome _ _ => simp [Pay.kind] at hk
abbrev PTMend := List Nat × (ByteArray)
def PDMend (p : PTMend) : Prop := (p.1.length = 2 ∧ ∀ n ∈ p.1, U64 n) ∧ (T64 p.2.data.toList)
def PEMend (p : PTMend) : List UInt8 := p.1.flatMap numB ++ (strB p.2)
def mkMend (p : PTMend) : Pay := Pay.mend (p.1.getD 0 0) (p.1.getD 1 0) p.2
theorem mkMend_E (p : PTMend) (h : PDMend p) : payB (mkMend p) = PEMend p := by
  match p, (h.1.1) with
  | ([m00, m01], q1), _ => simp [mkMend, payB, PEMend, numsB, flatB, strB, EOps, opsB]
theorem mkMend_D (p : PTMend) (h : PDMend p) : DPay (mkMend p) := by
  exact ⟨⟨getD_len h.1.2 (by rw [h.1.1]; decide), getD_len h.1.2 (by rw [h.1.1]; decide)⟩, h.2⟩
theorem mkMend_inv (p : Pay) (hk : p.kind = 4) (hd : DPay p) : ∃ y, p = mkMend y ∧ PDMend y := by
  cases p with
  | ask _ => simp [Pay.kind] at hk
  | answer _ => simp [Pay.kind] at hk
  | doubt _ _ _ _ _ => simp [Pay.kind] at hk
  | mend inc parent name =>
    have a00 := hd.1.1
    have a01 := hd.1.2
    exact ⟨([inc, parent], name), rfl, ⟨⟨rfl, fun n hn => by simp at hn; rcases hn with rfl | rfl <;> assumption⟩, hd.2⟩⟩
  | mended _ => simp [Pay.kind] at hk
  | call _ _ _ _ _ => simp [Pay.kind] at hk
  | reply _ _ _ _ _ _ _ => simp [Pay.kind] at hk
  | order _ _ _ _ _ _ _ _ => simp [Pay.kind] at hk
  | result _ _ _ _ _ => simp [Pay.kind] at hk
  | greet => simp [Pay.kind] at hk
  | welcome _ _ => simp [Pay.kind] at hk
abbrev PTMended := List Nat
def PDMended (p : PTMended) : Prop := (p.length = 1 ∧ ∀ n ∈ p, U64 n)
def PEMended (p : PTMended) : List UInt8 := p.flatMap numB
def mkMended (p : PTMended) : Pay := Pay.mended (p.getD 0 0)
theorem mkMended_E (p : PTMended) (h : PDMended p) : payB (mkMended p) = PEMended p := by
  match p, (h.1) with
  | [m00], _ => simp [mkMended, payB, PEMended, numsB, flatB, strB, EOps, opsB]
theorem mkMended_D (p : PTMended) (h : PDMended p) : DPay (mkMended p) := by
  exact getD_len h.2 (by rw [h.1]; decide)
theorem mkMended_inv (p : Pay) (hk : p.kind = 5) (hd : DPay p) : ∃ y, p = mkMended y ∧ PDMended y := by
  cases p with
  | ask _ => simp [Pay.kind] at hk
  | answer _ => simp [Pay.kind] at hk
  | doubt _ _ _ _ _ => simp [Pay.kind] at hk
  | mend _ _ _ => simp [Pay.kind] at hk
  | mended inc =>
    have a00 := hd
    exact ⟨[inc], rfl, ⟨rfl, fun n hn => by simp at hn; subst hn; assumption⟩⟩
  | call _ _ _ _ _ => simp [Pay.kind] at hk
  | reply _ _ _ _ _ _ _ => simp [Pay.kind] at hk
  | order _ _ _ _ _ _ _ _ => simp [Pay.kind] at hk
  | result _ _ _ _ _ => simp [Pay.kind] at hk
  | greet => simp [Pay.kind] at hk
  | welcome _ _ => simp [Pay.kind] at hk
abbrev PTCall := List Nat × (List Nat × (List OpS))
def PDCall (p : PTCall) : Prop := (p.1.length = 1 ∧ ∀ n ∈ p.1, U64 n) ∧ ((p.2.1.length = 3 ∧ ∀ n ∈ p.2.1, U64 n) ∧ (DOps p.2.2))
def PECall (p : PTCall) : List UInt8 := p.1.flatMap numB ++ (p.2.1.flatMap numB ++ (EOps p.2.2))
def mkCall (p : PTCall) : Pay := Pay.call (p.1.getD 0 0) (p.2.1.getD 0 0) (p.2.1.getD 1 0) (p.2.1.getD 2 0) p.2.2
theorem mkCall_E (p : PTCall) (h : PDCall p) : payB (mkCall p) = PECall p := by
  match p, (h.1.1), (h.2.1.1) with
  | ([m00], [m10, m11, m12], q2), _, _ => simp [mkCall, payB, PECall, numsB, flatB, strB, EOps, opsB]
theorem mkCall_D (p : PTCall) (h : PDCall p) : DPay (mkCall p) := by
  exact ⟨getD_len h.1.2 (by rw [h.1.1]; decide), ⟨getD_len h.2.1.2 (by rw [h.2.1.1]; decide), getD_len h.2.1.2 (by rw [h.2.1.1]; decide), getD_len h.2.1.2 (by rw [h.2.1.1]; decide)⟩, h.2.2⟩
theorem mkCall_inv (p : Pay) (hk : p.kind = 6) (hd : DPay p) : ∃ y, p = mkCall y ∧ PDCall y := by
  cases p with
  | ask _ => simp [Pay.kind] at hk
  | answer _ => simp [Pay.kind] at hk
  | doubt _ _ _ _ _ => simp [Pay.kind] at hk
  | mend _ _ _ => simp [Pay.kind] at hk
  | mended _ => simp [Pay.kind] at hk
  | call inc tb ts tq ops =>
    have a00 := hd.1
    have a10 := hd.2.1.1
    have a11 := hd.2.1.2.1
    have a12 := hd.2.1.2.2
    exact ⟨([inc], [tb, ts, tq], ops), rfl, ⟨⟨rfl, fun n hn => by simp at hn; subst hn; assumption⟩, ⟨rfl, fun n hn => by simp at hn; rcases hn with rfl | rfl | rfl <;> assumption⟩, hd.2.2⟩⟩
  | reply _ _ _ _ _ _ _ => simp [Pay.kind] at hk
  | order _ _ _ _ _ _ _ _ => simp [Pay.kind] at hk
  | result _ _ _ _ _ => simp [Pay.kind] at hk
  | greet => simp [Pay.kind] at hk
  | welcome _ _ => simp [Pay.kind] at hk
abbrev PTReply := List Nat × (List Nat × (Int × (List UInt8)))
def PDReply (p : PTReply) : Prop := (p.1.length = 2 ∧ ∀ n ∈ p.1, U64 n) ∧ ((p.2.1.length = 3 ∧ ∀ n ∈ p.2.1, U64 n) ∧ (I64 p.2.2.1 ∧ (T64 p.2.2.2)))
def PEReply (p : PTReply) : List UInt8 := p.1.flatMap numB ++ (p.2.1.flatMap numB ++ (numB (wz p.2.2.1) ++ (partB p.2.2.2)))
def mkReply (p : PTReply) : Pay := Pay.reply (p.1.getD 0 0) (p.1.getD 1 0) (p.2.1.getD 0 0) (p.2.1.getD 1 0) (p.2.1.getD 2 0) p.2.2.1 p.2.2.2
theorem mkReply_E (p : PTReply) (h : PDReply p) : payB (mkReply p) = PEReply p := by
  match p, (h.1.1), (h.2.1.1) with
  | ([m00, m01], [m10, m11, m12], q2, q3), _, _ => simp [mkReply, payB, PEReply, numsB, flatB, strB, EOps, opsB]
theorem mkReply_D (p : PTReply) (h : PDReply p) : DPay (mkReply p) := by
  exact ⟨⟨getD_len h.1.2 (by rw [h.1.1]; decide), getD_len h.1.2 (by rw [h.1.1]; decide)⟩, ⟨getD_len h.2.1.2 (by rw [h.2.1.1]; decide), getD_len h.2.1.2 (by rw [h.2.1.1]; decide), getD_len h.2.1.2 (by rw [h.2.1.1]; decide)⟩, h.2.2.1, h.2.2.2⟩
theorem mkReply_inv (p : Pay) (hk : p.kind = 7) (hd : DPay p) : ∃ y, p = mkReply y ∧ PDReply y := by
  cases p with
  | ask _ => simp [Pay.kind] at hk
  | answer _ => simp [Pay.kind] at hk
  | doubt _ _ _ _ _ => simp [Pay.kind] at hk
  | mend _ _ _ => simp [Pay.kind] at hk
  | mended _ => simp [Pay.kind] at hk
  | call _ _ _ _ _ => simp [Pay.kind] at hk
  | reply inc boot tb ts tq code data =>
    have a00 := hd.1.1
    have a01 := hd.1.2
    have a10 := hd.2.1.1
    have a11 := hd.2.1.2.1
    have a12 := hd.2.1.2.2
    exact ⟨([inc, boot], [tb, ts, tq], code, data), rfl, ⟨⟨rfl, fun n hn => by simp at hn; rcases hn with rfl | rfl <;> assumption⟩, ⟨rfl, fun n hn => by simp at hn; rcases hn with rfl | rfl | rfl <;> assumption⟩, hd.2.2.1, hd.2.2.2⟩⟩
  | order _ _ _ _ _ _ _ _ => simp [Pay.kind] at hk
  | result _ _ _ _ _ => simp [Pay.kind] at hk
  | greet => simp [Pay.kind] at hk
  | welcome _ _ => simp [Pay.kind] at hk
abbrev PTOrder := List Nat × (ByteArray × (Int))
def PDOrder (p : PTOrder) : Prop := (p.1.length = 6 ∧ ∀ n ∈ p.1, U64 n) ∧ (T64 p.2.1.data.toList ∧ (I64 p.2.2))
def PEOrder (p : PTOrder) : List UInt8 := p.1.flatMap numB ++ (strB p.2.1 ++ (numB (wz p.2.2)))
def mkOrder (p : PTOrder) : Pay := Pay.order (p.1.getD 0 0) (p.1.getD 1 0) (p.1.getD 2 0) (p.1.getD 3 0) (p.1.getD 4 0) (p.1.getD 5 0) p.2.1 p.2.2
theorem mkOrder_E (p : PTOrder) (h : PDOrder p) : payB (mkOrder p) = PEOrder p := by
  match p, (h.1.1) with
  | ([m00, m01, m02, m03, m04, m05], q1, q2), _ => simp [mkOrder, payB, PEOrder, numsB, flatB, strB, EOps, opsB]
theorem mkOrder_D (p : PTOrder) (h : PDOrder p) : DPay (mkOrder p) := by
  exact ⟨⟨getD_len h.1.2 (by rw [h.1.1]; decide), getD_len h.1.2 (by rw [h.1.1]; decide), getD_len h.1.2 (by rw [h.1.1]; decide), getD_len h.1.2 (by rw [h.1.1]; decide), getD_len h.1.2 (by rw [h.1.1]; decide), getD_len h.1.2 (by rw [h.1.1]; decide)⟩, h.2.1, h.2.2⟩
theorem mkOrder_inv (p : Pay) (hk : p.kind = 8) (hd : DPay p) : ∃ y, p = mkOrder y ∧ PDOrder y := by
  cases p with
  | ask _ => simp [Pay.kind] at hk
  | answer _ => simp [Pay.kind] at hk
  | doubt _ _ _ _ _ => simp [Pay.kind] at hk
  | mend _ _ _ => simp [Pay.kind] at hk
  | mended _ => simp [Pay.kind] at hk
  | call _ _ _ _ _ => simp [Pay.kind] at hk
  | reply _ _ _ _ _ _ _ => simp [Pay.kind] at hk
  | order inc boot session seq id parent name what =>
    have a00 := hd.1.1
    have a01 := hd.1.2.1
    have a02 := hd.1.2.2.1
    have a03 := hd.1.2.2.2.1
    have a04 := hd.1.2.2.2.2.1
    have a05 := hd.1.2.2.2.2.2
    exact ⟨([inc, boot, session, seq, id, parent], name, what), rfl, ⟨⟨rfl, fun n hn => by simp at hn; rcases hn with rfl | rfl | rfl | rfl | rfl | rfl <;> assumption⟩, hd.2.1, hd.2.2⟩⟩
  | result _ _ _ _ _ => simp [Pay.kind] at hk
  | greet => simp [Pay.kind] at hk
  | welcome _ _ => simp [Pay.kind] at hk
abbrev PTResult := List Nat × (Int)
def PDResult (p : PTResult) : Prop := (p.1.length = 4 ∧ ∀ n ∈ p.1, U64 n) ∧ (I64 p.2)
def PEResult (p : PTResult) : List UInt8 := p.1.flatMap numB ++ (numB (wz p.2))
def mkResult (p : PTResult) : Pay := Pay.result (p.1.getD 0 0) (p.1.getD 1 0) (p.1.getD 2 0) (p.1.getD 3 0) p.2
theorem mkResult_E (p : PTResult) (h : PDResult p) : payB (mkResult p) = PEResult p := by
  match p, (h.1.1) with
  | ([m00, m01, m02, m03], q1), _ => simp [mkResult, payB, PEResult, numsB, flatB, strB, EOps, opsB]
theorem mkResult_D (p : PTResult) (h : PDResult p) : DPay (mkResult p) := by
  exact ⟨⟨getD_len h.1.2 (by rw [h.1.1]; decide), getD_len h.1.2 (by rw [h.1.1]; decide), getD_len h.1.2 (by rw [h.1.1]; decide), getD_len h.1.2 (by rw [h.1.1]; decide)⟩, h.2⟩
theorem mkResult_inv (p : Pay) (hk : p.kind = 9) (hd : DPay p) : ∃ y, p = mkResult y ∧ PDResult y := by
  cases p with
  | ask _ => simp [Pay.kind] at hk
  | answer _ => simp [Pay.kind] at hk
  | doubt _ _ _ _ _ => simp [Pay.kind] at hk
  | mend _ _ _ => simp [Pay.kind] at hk
  | mended _ => simp [Pay.kind] at hk
  | call _ _ _ _ _ => simp [Pay.kind] at hk
  | reply _ _ _ _ _ _ _ => simp [Pay.kind] at hk
  | order _ _ _ _ _ _ _ _ => simp [Pay.kind] at hk
  | result inc boot session seq err =>
    have a00 := hd.1.1
    have a01 := hd.1.2.1
    have a02 := hd.1.2.2.1
    have a03 := hd.1.2.2.2
    exact ⟨([inc, boot, session, seq], err), rfl, ⟨⟨rfl, fun n hn => by simp at hn; rcases hn with rfl | rfl | rfl | rfl <;> assumption⟩, hd.2⟩⟩
  | greet => simp [Pay.kind] at hk
  | welcome _ _ => simp [Pay.kind] at hk
abbrev PTGreet := Unit
def PDGreet (p : PTGreet) : Prop := True
def PEGreet (p : PTGreet) : List UInt8 := []
def mkGreet (p : PTGreet) : Pay := Pay.greet
theorem mkGreet_E (p : PTGreet) (h : PDGreet p) : payB (mkGreet p) = PEGreet p := by
  simp [mkGreet, payB, PEGreet]
theorem mkGreet_D (p : PTGreet) (h : PDGreet p) : DPay (mkGreet p) := by
  exact trivial
theorem mkGreet_inv (p : Pay) (hk : p.kind = 10) (hd : DPay p) : ∃ y, p = mkGreet y ∧ PDGreet y := by
  cases p with
  | ask _ => simp [Pay.kind] at hk
  | answer _ => simp [Pay.kind] at hk
  | doubt _ _ _ _ _ => simp [Pay.kind] at hk
  | mend _ _ _ => simp [Pay.kind] at hk
  | mended _ => simp [Pay.kind] at hk
  | call _ _ _ _ _ => simp [Pay.kind] at hk
  | reply _ _ _ _ _ _ _ => simp [Pay.kind] at hk
  | order _ _ _ _ _ _ _ _ => simp [Pay.kind] at hk
  | result _ _ _ _ _ => simp [Pay.kind] at hk
  | greet =>
    exact ⟨(), rfl, trivial⟩
  | welcome _ _ => simp [Pay.kind] at hk
abbrev PTWelcome := List Nat
def PDWelcome (p : PTWelcome) : Prop := (p.length = 2 ∧ ∀ n ∈ p, U64 n)
def PEWelcome (p : PTWelcome) : List UInt8 := p.flatMap numB
def mkWelcome (p : PTWelcome) : Pay := Pay.welcome (p.getD 0 0) (p.getD 1 0)
theorem mkWelcome_E (p : PTWelcome) (h : PDWelcome p) : payB (mkWelcome p) = PEWelcome p := by
  match p, (h.1) with
  | [m00, m01], _ => simp [mkWelcome, payB, PEWelcome, numsB, flatB, strB, EOps, opsB]
theorem mkWelcome_D (p : PTWelcome) (h : PDWelcome p) : DPay (mkWelcome p) := by
  exact ⟨getD_len h.2 (by rw [h.1]; decide), getD_len h.2 (by rw [h.1]; decide)⟩
theorem mkWelcome_inv (p : Pay) (hk : p.kind = 11) (hd : DPay p) : ∃ y, p = mkWelcome y ∧ PDWelcome y := by
  cases p with
  | ask _ => simp [Pay.kind] at hk
  | answer _ => simp [Pay.kind] at hk
  | doubt _ _ _ _ _ => simp [Pay.kind] at hk
  | mend _ _ _ => simp [Pay.kind] at hk
  | mended _ => simp [Pay.kind] at hk
  | call _ _ _ _ _ => simp [Pay.kind] at hk
  | reply _ _ _ _ _ _ _ => simp [Pay.kind] at hk
  | order _ _ _ _ _ _ _ _ => simp [Pay.kind] at hk
  | result _ _ _ _ _ => simp [Pay.kind] at hk
  | greet => simp [Pay.kind] at hk
  | welcome inc boot =>
    have a00 := hd.1
    have a01 := hd.2
    exact ⟨[inc, boot], rfl, ⟨rfl, fun n hn => by simp at hn; rcases hn with rfl | rfl <;> assumption⟩⟩
def zeroP : Array Value := #[.int .i64 0, .int .u64 0, .int .u64 0, .int .i64 0, .int .u64 0, .int .u64 0, .int .u64 0, .int .u64 0, .int .u64 0, .int .u64 0, .slice none 0 0, .bool false, .slice none 0 0, .int .u64 0, .string ⟨#[]⟩, .int .i64 0, .int .u64 0, .int .u64 0, .int .u64 0, .int .u64 0, .int .u64 0, .int .u64 0, .int .i64 0, .int .i64 0, .int .i64 0, .slice none 0 0, .slice none 0 0, .bool false, .slice none 0 0, .int .u64 0, .int .u64 0, .int .u64 0, .int .u64 0, .int .u64 0, .int .u64 0, .int .u64 0, .int .u64 0, .string ⟨#[]⟩, .int .u64 0, .int .u64 0, .int .u64 0, .int .u64 0, .slice none 0 0, .int .u64 0, .int .u64 0, .int .u64 0, .int .u64 0, .int .u64 0, .int .i64 0, .slice none 0 0, .int .u64 0, .int .u64 0, .string ⟨#[]⟩, .int .u64 0, .int .u64 0, .int .i64 0, .int .u64 0, .int .u64 0, .int .u64 0, .int .u64 0, .int .u64 0, .int .u64 0, .int .i64 0, .int .u64 0, .int .u64 0]
def payO : Pay → List Nat
  | .ask _ => [3, 3 + 1, 3 + 2, 3 + 3, 3 + 10, 3 + 4, 3 + 4 + 1, 3 + 4 + 2, 3 + 7, 3 + 8, 3 + 9, 3 + 11]
  | .answer _ => [15, 15 + 1, 15 + 2, 15 + 6, 15 + 14, 15 + 3, 15 + 3 + 1, 15 + 3 + 2, 15 + 7, 15 + 8, 15 + 8 + 1, 15 + 8 + 2, 15 + 8 + 3, 15 + 12, 15 + 13]
  | .doubt _ _ _ _ _ => [30, 31, 32, 32 + 1, 32 + 2]
  | .mend _ _ _ => [35, 36, 37]
  | .mended _ => [63]
  | .call _ _ _ _ _ => [38, 39, 39 + 1, 39 + 2, 42]
  | .reply _ _ _ _ _ _ _ => [43, 44, 45, 45 + 1, 45 + 2, 48, 49]
  | .order _ _ _ _ _ _ _ _ => [50, 51, 53, 54, 56, 57, 52, 55]
  | .result _ _ _ _ _ => [58, 59, 60, 61, 62]
  | .greet  => []
  | .welcome _ _ => [63, 64]
def payVs (v1 v2 v3 : Value) : Pay → List Value
  | .ask x => [iv x.kind, uv x.inc, uv x.head, uv x.boot, uv x.id, uv x.tb, uv x.ts, uv x.tq, v1, .bool x.commit, v2, .string x.name]
  | .answer x => [iv x.kind, uv x.inc, uv x.boot, uv x.id, uv x.at_, uv x.tb, uv x.ts, uv x.tq, iv x.err, iv x.out.err, iv x.out.at_, v1, v2, .bool x.commit, v3]
  | .doubt inc boot tb ts tq => [uv inc, uv boot, uv tb, uv ts, uv tq]
  | .mend inc parent name => [uv inc, uv parent, .string name]
  | .mended inc => [uv inc]
  | .call inc tb ts tq ops => [uv inc, uv tb, uv ts, uv tq, v1]
  | .reply inc boot tb ts tq code data => [uv inc, uv boot, uv tb, uv ts, uv tq, iv code, v1]
  | .order inc boot session seq id parent name what => [uv inc, uv boot, uv session, uv seq, uv id, uv parent, .string name, iv what]
  | .result inc boot session seq err => [uv inc, uv boot, uv session, uv seq, iv err]
  | .greet  => []
  | .welcome inc boot => [uv inc, uv boot]
/-- a packet as it is read: what it does not use is nought -/
def pktA (fr tt : Nat) (p : Pay) (v1 v2 v3 : Value) : Array Value := putL (putL (putL zeroP [0] [iv p.kind]) [1, 2] [uv fr, uv tt]) (payO p) (payVs v1 v2 v3 p)
/-- its parts in memory -/
def PayV (w : World) (base : Nat) (v1 v2 v3 : Value) : Pay → Prop
  | .ask x => ∃ xs, AskV w base x v1 v2 xs
  | .answer x => AnsV w base x v1 v2 v3
  | .call _ _ _ _ ops => ∃ xs, HasO w base v1 ops xs
  | .reply _ _ _ _ _ _ data => OwnB w base v1 data
  | _ => True

end Go.Proofs.Ytncchbcoldgpbaa
