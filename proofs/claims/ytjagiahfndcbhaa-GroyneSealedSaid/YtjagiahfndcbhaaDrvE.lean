/- The walks of drive's Write, Append and Flush. -/
import Derived.Test.YtjagiahfndcbhaaDrvD
namespace Go.Proofs.Ytjagiahfndcbhaa
open Go.RowKit Go.Maps

set_option maxHeartbeats 2000000 in
theorem drvWrite {w : World} {base g : Nat} {F G : Nat → Prop} {sv nv qv bv : Value} {so no : Option (List UInt8)} {q : List (List UInt8)} {s : List UInt8} (h : Drv w base g F sv nv qv so no q) (hb : RdB w G bv s)
    (hsz : (no.getD []).length + s.length ≤ 1000000000) (hq : q.length ≤ 1000) (hbw : base ≤ w.heap.size) :
    Calls Try.prog 20 #[.pointer (some ⟨g, 0, none⟩), .string fN, .int .i64 ((no.getD []).length : Int), bv] w fun e w' => e = .returned (.int .i64 0) ∧ ∃ F' nv' qv', Drv w' base g F' sv nv' qv' so (some (no.getD [] ++ s)) (q ++ [s]) ∧ Chg (fun k => k = g ∨ nv = .map (some k)) w w' ∧
      (∀ b, F' b → F b ∨ w.heap.size ≤ b) ∧ ∀ B, nv' = .map (some B) → nv = .map (some B) ∨ w.heap.size ≤ B := by
  have k1 := h.blk.cell 1
  have k3 := h.blk.cell 3
  simp at k1 k3
  obtain ⟨x, hx, hlk⟩ := h.n.look
  have hl := hlk w (Chg.refl _ _)
  have hlen := fun w' ty => run_len8 hx w' ty
  obtain ⟨A, c, rfl, hc, hm⟩ := hb.shape
  obtain ⟨L, hL⟩ : ∃ L, L = (no.getD []).length := ⟨_, rfl⟩
  have hused := drvUsed (h.c0 ((Chg.refl Non w).drew)) (by omega)
  have HL := hide hL
  rw [← hL] at hlen hused hsz ⊢
  have hL0 : ¬ ((L : Int) < 0) := by omega
  have hL1 : decide ((L : Int) < 0) = false := decide_eq_false hL0
  clear hL hlk
  go_enter Try.func20, Try.ntmps20
  go_upto_region 5 with fail
  have hw0 : IntKind.i64.wrap 0 = 0 := rfl
  have hw1 : IntKind.i64.wrap (s.length : Int) = (s.length : Int) := IntWalk.i64_in _ (by omega)
  have hw2 : IntKind.i64.wrap ((1073741824 : Int) - (L : Int)) = (1073741824 : Int) - (L : Int) := IntWalk.i64_in _ (by omega)
  have hfl : decide ((1073741824 : Int) - (L : Int) < (s.length : Int)) = false := decide_eq_false (by omega)
  go_cut [38] from 25 (fun v38 wx => v38 = .bool false ∧ Chg Non w wx)
  case first =>
    go_region_law (first
      | (go_simp; go_at_call 33; refine hused.mono ?_; rintro e w1 ⟨rfl, hc1⟩; have k4 := hc1.cell k3 (fun h => h)))
    all_goals
      go_wp2_with fail
      go_meet
      exact ⟨rfl, ((Chg.refl Non w).drew).trans0 hc1⟩
  case rest =>
    obtain ⟨rfl, hc1⟩ := hcut
    have hcl := bytesClone (hb.c0 hc1) (by omega)
    have hD := h.c0 hc1
    have hw1s := hc1.size
    clear h hb hused hl hlen hw1 hw2 hfl hx k1 k3
    go_wp2_with fail
    refine hcl.mono ?_
    rintro e w2 ⟨u, rfl, hu, hc2⟩
    obtain ⟨U1, nu, cu, rfl⟩ : ∃ A n c, u = .slice A n c := by obtain ⟨A, c, e, _⟩ := hu.shape; exact ⟨A, _, c, e⟩
    have hD2 := hD.c0 hc2
    have hul := hu.lt
    have hws := hc2.size
    have hgl := hD.blk.lt
    have hraw := drvRaw hD2 hu.rd (fun b hb => by
      have := hul b hb
      exact ⟨by omega, this.2, by omega⟩) (by rw [← HL.out]; exact hsz) hq (by omega)
    rw [← HL.out] at hraw
    clear hcl hu hD
    go_wp2_with fail
    refine hraw.mono ?_
    rintro e w3 ⟨rfl, F', nv', qv', hD3, hc3, hF3, hn3⟩
    clear hraw
    go_wp2_with fail
    go_ret
    rw [← HL.out] at *
    refine ⟨rfl, F', nv', qv', hD3, ((hc1.trans0 hc2).mono (fun _ _ h => h.elim)).trans hc3 fun b _ h => h, fun b hb => ?_, fun B e => ?_⟩
    · rcases hF3 b hb with h | h | h
      · exact .inl h
      · have := (hul b h).1
        exact .inr (by omega)
      · exact .inr (by omega)
    · rcases hn3 B e with h | h
      · exact .inl h
      · exact .inr (by omega)

theorem drvAppend {w : World} {base g : Nat} {F G : Nat → Prop} {sv nv qv bv : Value} {so no : Option (List UInt8)} {q : List (List UInt8)} {s : List UInt8} (h : Drv w base g F sv nv qv so no q) (hb : RdB w G bv s)
    (hsz : (no.getD []).length + s.length ≤ 1000000000) (hq : q.length ≤ 1000) (hbw : base ≤ w.heap.size) :
    Calls Try.prog 8 #[.pointer (some ⟨g, 0, none⟩), .string fN, bv] w fun e w' => e = .returned (.int .i64 0) ∧ ∃ F' nv' qv', Drv w' base g F' sv nv' qv' so (some (no.getD [] ++ s)) (q ++ [s]) ∧ Chg (fun k => k = g ∨ nv = .map (some k)) w w' ∧
      (∀ b, F' b → F b ∨ w.heap.size ≤ b) ∧ ∀ B, nv' = .map (some B) → nv = .map (some B) ∨ w.heap.size ≤ B := by
  have k1 := h.blk.cell 1
  simp at k1
  obtain ⟨x, hx, hlk⟩ := h.n.look
  have hl := hlk w (Chg.refl _ _)
  have hlen := fun w' ty => run_len8 hx w' ty
  have hwr := drvWrite h hb hsz hq hbw
  obtain ⟨A, c, rfl, hc, hm⟩ := hb.shape
  clear hlk h hb
  go_enter Try.func8, Try.ntmps8
  go_wp2_with fail
  refine hwr.mono ?_
  rintro e w1 ⟨rfl, hrest⟩
  go_wp2_with fail
  go_ret
  exact ⟨rfl, hrest⟩

/-- all that was done is safe -/
theorem Drv.flushed {w w1 : World} {base g : Nat} {F : Nat → Prop} {sv nv qv sv' : Value} {so no : Option (List UInt8)} {q : List (List UInt8)} (h : Drv w base g F sv nv qv so no q) (hc : Chg Non w w1) (hs : FS w1 base F sv' no) (hsep : ∀ B, sv' = .map (some B) → nv ≠ .map (some B)) :
    Drv ((w1.setCell ⟨g, 0, none⟩ sv').setCell ⟨g, 2, none⟩ nilS) base g F sv' nv nilS no no [] ∧ Chg (fun k => k = g) w ((w1.setCell ⟨g, 0, none⟩ sv').setCell ⟨g, 2, none⟩ nilS) := by
  have hb := ((h.blk.c0 hc).set_ 0 sv').set_ 2 nilS
  simp at hb
  have h2 : Chg (fun k => k = g) w1 ((w1.setCell ⟨g, 0, none⟩ sv').setCell ⟨g, 2, none⟩ nilS) := Chg.setCell (p := ⟨g, 2, none⟩) (Chg.setCell (p := ⟨g, 0, none⟩) (Chg.refl (fun k => k = g) w1) (fun _ => rfl) _) (fun _ => rfl) _
  have hmap : ∀ v, FS w1 base F v no → ∀ B, v = .map (some B) → ¬ B = g := fun v hf B e e2 => by
    obtain ⟨u, hu⟩ := hf.map e
    exact hu.no_cells (e2 ▸ h.blk.c0 hc)
  have hF : ∀ b, F b → ¬ b = g := fun b hb => (h.f b hb).2.2
  have hn1 := h.n.chg hc (fun _ _ h => h) (fun _ _ h => h)
  exact ⟨⟨hb, h.le, hs.chg h2 hF (hmap _ hs), hn1.chg h2 hF (hmap _ hn1), QS.nil_ _ _ _, by simp, hsep, fun b hb => ⟨(h.f b hb).1, Nat.lt_of_lt_of_le (h.f b hb).2.1 (Nat.le_trans hc.size h2.size), (h.f b hb).2.2⟩⟩, (hc.mono fun _ _ h => h.elim).trans h2 fun _ _ h => h⟩
/-- the clone of a map of files -/
theorem FS.clone {w : World} {base : Nat} {F : Nat → Prop} {v : Value} {o : Option (List UInt8)} (h : FS w base F v o) (hbw : base ≤ w.heap.size) :
    Calls Try.prog 22 #[v] w fun e w' => ∃ v', e = .returned v' ∧ FS w' base F v' o ∧ Chg Non w w' ∧ (v = .map none ∧ v' = .map none ∨ v' = .map (some w.heap.size)) := by
  rcases h with ⟨rfl, rfl⟩ | ⟨B, u, rfl, h1, h2, h3⟩
  · refine (mapsCloneNil w).mono ?_
    rintro e w' ⟨rfl, hw⟩
    subst hw
    exact ⟨_, rfl, .inl ⟨rfl, rfl⟩, Chg.refl _ _, .inl ⟨rfl, rfl⟩⟩
  · refine (mapsClone h2).mono ?_
    rintro e w' ⟨rfl, hm, hc⟩
    refine ⟨_, rfl, .inr ⟨w.heap.size, u, rfl, hbw, hm, ?_⟩, hc, .inr rfl⟩
    rcases h3 with h | ⟨x, l, e1, e2, hr⟩
    · exact .inl h
    · exact .inr ⟨x, l, e1, e2, hr.c0 hc⟩

set_option maxHeartbeats 1000000 in
theorem drvFlush {w : World} {base g : Nat} {F : Nat → Prop} {sv nv qv : Value} {so no : Option (List UInt8)} {q : List (List UInt8)} (h : Drv w base g F sv nv qv so no q) (hbw : base ≤ w.heap.size) :
    Calls Try.prog 10 #[.pointer (some ⟨g, 0, none⟩)] w fun e w' => e = .returned (.int .i64 0) ∧ ∃ sv', Drv w' base g F sv' nv nilS no no [] ∧ Chg (fun k => k = g) w w' ∧ ∀ B, sv' = .map (some B) → w.heap.size ≤ B := by
  have hmay := drvMay h.blk
  have k1 := h.blk.cell 1
  simp at k1
  have hcl := h.n.clone hbw
  go_enter Try.func10, Try.ntmps10
  go_wp2_with fail
  refine hmay.mono ?_
  rintro e wx ⟨rfl, hx⟩
  subst wx
  clear hmay
  go_wp2_with fail
  refine hcl.mono ?_
  rintro e w1 ⟨v', rfl, hs, hc, hv⟩
  have hb1 := h.blk.c0 hc
  have k0 := hb1.cell 0
  have k2 := hb1.cell 2
  have f0 := hb1.frozen 0
  have f2 := hb1.frozen 2
  simp at k0 k2
  have hsep : ∀ B, v' = .map (some B) → nv ≠ .map (some B) := fun B e e2 => by
    rcases hv with ⟨_, h2⟩ | h2
    · rw [h2] at e; cases e
    · rw [h2] at e
      injection e with e; injection e with e
      have := (h.n.lt e2).2
      omega
  obtain ⟨hD, hcd⟩ := h.flushed hc hs hsep
  clear hcl
  obtain ⟨r', hr'⟩ : ∃ r', v' = .map r' := by
    rcases hv with ⟨_, h2⟩ | h2
    · exact ⟨_, h2⟩
    · exact ⟨_, h2⟩
  subst hr'
  go_wp2_with fail
  go_ret
  refine ⟨rfl, _, hD, hcd, fun B e => ?_⟩
  rcases hv with ⟨_, h2⟩ | h2
  · rw [h2] at e; cases e
  · rw [h2] at e
    injection e with e; injection e with e
    omega
end Go.Proofs.Ytjagiahfndcbhaa
