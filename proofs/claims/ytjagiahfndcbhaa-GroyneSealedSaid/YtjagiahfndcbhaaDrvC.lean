/- The walks of drive's New, may, Used, Size and Read. -/
import Derived.Test.YtjagiahfndcbhaaDrvB
import Derived.Test.YtjagiahfndcbhaaMClone
import Derived.Deep.RegionHeld3
import Derived.Laws.IdiomRangeMap
import Derived.LoopN
namespace Go.Proofs.Ytjagiahfndcbhaa
open Go.RowKit Go.Maps

theorem drvNew (w : World) : Calls Try.prog 5 #[.int .i64 1073741824] w fun e w' =>
    ∃ g, e = .returned (.pointer (some ⟨g, 0, none⟩)) ∧ Drv w' w.heap.size g Non (.map none) (.map none) nilS none none [] ∧ Chg Non w w' ∧ g + 1 = w'.heap.size := by
  go_enter Try.func5, Try.ntmps5
  go_wp2_with fail
  go_ret
  refine ⟨_, rfl, ⟨Blk.new w _ _, Nat.le_refl _, .inl ⟨rfl, rfl⟩, .inl ⟨rfl, rfl⟩, QS.nil_ _ _ _, rfl, fun _ h => (by cases h), fun _ h => h.elim⟩, (Chg.refl Non w).alloc _, by simp⟩

theorem drvMay {w : World} {g : Nat} {t : TypeId} {sv nv qv r l : Value} (h : Blk w g t #[sv, nv, qv, r, .bool false, l, .bool false]) :
    Calls Try.prog 21 #[.pointer (some ⟨g, 0, none⟩), .int .i64 0] w fun e w' => e = .returned (.tuple #[.bool true, .bool false, .int .i64 0]) ∧ w' = w := by
  have k4 := h.cell 4
  have k6 := h.cell 6
  simp at k4 k6
  go_enter Try.func21, Try.ntmps21
  go_wp2_with fail
  go_ret3
  exact ⟨rfl, rfl⟩

set_option maxHeartbeats 1000000 in
theorem drvUsed {w : World} {base g : Nat} {F : Nat → Prop} {sv nv qv : Value} {so no : Option (List UInt8)} {q : List (List UInt8)} (h : Drv w base g F sv nv qv so no q) (hsz : (no.getD []).length ≤ 1000000000) :
    Calls Try.prog 33 #[.pointer (some ⟨g, 0, none⟩)] w fun e w' => e = .returned (.int .i64 ((no.getD []).length : Int)) ∧ Chg Non w w' := by
  have k1 := h.blk.cell 1
  simp at k1
  rcases h.n with ⟨rfl, rfl⟩ | ⟨B, u, rfl, h1, h2, h3⟩
  · have hrn := fun w => run_range_nilMap (P := Try.prog) w 44 _ _ Try.underlying44
    have hnn := fun w ty a b s => run_next_nilMap (P := Try.prog) w ty a b s
    go_enter Try.func33, Try.ntmps33
    go_wp2_with fail
    refine wp_loop_rounds 1 ?_
    rw [rounds_succ]
    go_wp2_with fail
    go_ret
    exact ⟨rfl, (Chg.refl _ _).alloc _⟩
  · obtain ⟨L, hL⟩ : ∃ L, L = (no.getD []).length := ⟨_, rfl⟩
    have hrest : ∀ z, Maps.has (datF u) z = true → z = fL ∧ ∃ x l, u = some x ∧ L = l.length ∧ RdB w F x l := fun z hz => by
      rcases h3 with ⟨rfl, rfl⟩ | ⟨x, l, rfl, rfl, h6⟩
      · cases hz
      · refine ⟨?_, x, l, rfl, hL, h6⟩
        by_cases e : fL = z
        · exact e.symm
        · have h7 : Maps.has (datF (some x)) z = (fL.sameKey z || false) := rfl
          rw [h7, Maps.sameKey_ne e] at hz
          cases hz
    have hstart : L = (if Maps.has (datF u) fL = true then L else 0) := by
      rw [datF_has]
      rcases h3 with ⟨rfl, rfl⟩ | ⟨x, l, rfl, rfl, h6⟩
      · rw [hL]; rfl
      · rw [hL]; rfl
    have HST := hide hstart
    have HR := hide hrest
    rw [← hL] at hsz ⊢
    clear hL hstart hrest
    have hcur := h2
    unfold FMap at hcur
    go_enter Try.func33, Try.ntmps33
    go_wp2_with (at_range; refine wpList_range_own _ rfl _ 44 rfl 9 27 keyF Try.underlying44 heldR B 1 _ rfl hcur ?_; intro w0 hrg0 hg0 hs0)
    go_frame
    have hc0 : Chg Non w w0 := (Chg.of_grown hg0).mono fun b _ e => by cases e
    go_loopw [3] (fun av wr => ∃ (left : Lit → Bool) (cnt acc : Nat), wr.ranges Try.prog 9 heldR B w.heap.size 1 (datF u) left cnt ∧ av = .int .i64 acc ∧ Hid (acc + (if left fL = true then L else 0) = L) ∧ Hid (∀ z, left z = true → Maps.has (datF u) z = true) ∧ Chg Non w wr) (fun _ wr => wr.rangeLeft B w.heap.size)
    case atStart => exact ⟨_, _, 0, hrg0, rfl, hide (by rw [Nat.zero_add]; exact HST.out.symm), hide fun z hz => hz, hc0⟩
    case round =>
      clear hrg0 hg0 hs0 hc0
      obtain ⟨left, cnt, acc, hrg, rfl, hacc, hsub, hcw⟩ := hrel
      go_wp2_with (at_next; refine wpList_next_ranges _ rfl _ rfl 9 keyF heldR Value.string (fun c : Value => c) (fun key kl hk => Maps.keyOf_string_inv Try.underlying9 hk) (fun v y _ => ⟨v, rfl⟩) B w.heap.size 1 _ _ _ rfl hrg ?_ ?_)
      · intro hn0 hl0
        have hfin : acc = L := by
          have := hacc.out
          rw [hl0 fL] at this
          simpa using this
        subst hfin
        go_wp2_with fail
        go_ret
        exact ⟨rfl, hcw⟩
      · intro x c kl y ps w1 cnt1 hkey hlk hRy hat hrg1 hlt hg1 hs1 hen
        obtain ⟨rfl, x0, l, hu, hLl, hrd⟩ := HR.out kl (hsub.out kl hlk)
        have hcx : c = x0 := by
          have h1 := hat (.held nilS)
          rw [datF_at, hu] at h1
          simp only [heldR, Option.some.injEq] at hRy
          rw [← (Prod.mk.inj hRy).1] at h1
          simp only [Option.getD_some, DataW.held.injEq] at h1
          exact h1.symm
        have hlen := fun w' ty => run_len8 hrd w' ty
        rw [← hcx] at hlen
        have hw1 : Chg Non w w1 := hcw.grown hg1 fun b hb hlt => by injection hb with hb; omega
        have hacc2 : acc = 0 := by
          have := hacc.out
          rw [if_pos hlk] at this
          omega
        subst hacc2
        have hnl : (left fL && !fL.sameKey fL) = false := by
          have : fL.sameKey fL = true := by decide
          simp [this]
        have HRG := hide hrg1
        have hle1 := hrg1.left_eq
        have hle2 := hrg.left_eq
        have HL := hide hLl
        clear hrg hrg1 hkey hat hRy hu hlk hcx
        go_wp2_with fail
        go_roundw
        case rel => exact ⟨_, _, l.length, HRG.out, by go_num, hide (by rw [if_neg (by rw [hnl]; decide), HL.out]; rfl), hide fun z hz => hsub.out z (by simp only [Bool.and_eq_true] at hz; exact hz.1), hw1⟩
        case measure =>
          rw [hle1, hle2]
          exact hlt

set_option maxHeartbeats 1000000 in
theorem drvSize {w : World} {base g : Nat} {F : Nat → Prop} {sv nv qv : Value} {so no : Option (List UInt8)} {q : List (List UInt8)} (h : Drv w base g F sv nv qv so no q) :
    Calls Try.prog 9 #[.pointer (some ⟨g, 0, none⟩), .string fN] w fun e w' => e = .returned (.int .i64 ((no.getD []).length : Int)) ∧ w' = w := by
  have k1 := h.blk.cell 1
  have k6 := h.blk.cell 6
  simp at k1 k6
  obtain ⟨x, hx, hlk⟩ := h.n.look
  have hl := hlk w (Chg.refl _ _)
  obtain ⟨A, c, rfl, hc, hm⟩ := hx.shape
  clear hlk
  go_enter Try.func9, Try.ntmps9
  go_wp2_with fail
  go_ret
  exact ⟨rfl, rfl⟩

theorem drvThere {w : World} {base g : Nat} {F : Nat → Prop} {sv nv qv : Value} {so no : Option (List UInt8)} {q : List (List UInt8)} (h : Drv w base g F sv nv qv so no q) :
    Calls Try.prog 23 #[.pointer (some ⟨g, 0, none⟩), .string fN] w fun e w' => e = .returned (.int .i64 (if no.isSome then 0 else 6)) ∧ Chg Non w w' := by
  have k1 := h.blk.cell 1
  simp at k1
  rcases h.n with ⟨rfl, rfl⟩ | ⟨B, u, rfl, h1, h2, ⟨rfl, rfl⟩ | ⟨x, l, rfl, rfl, h3⟩⟩
  · have hl := look_none_ok
    go_enter Try.func23, Try.ntmps23
    go_wp2_with fail
    go_ret
    exact ⟨rfl, Chg.refl _ _⟩
  · have hl := h2.look_ok
    go_enter Try.func23, Try.ntmps23
    go_wp2_with fail
    go_ret
    exact ⟨rfl, Chg.refl _ _⟩
  · have hl := h2.look_ok
    go_enter Try.func23, Try.ntmps23
    go_wp2_with fail
    go_ret
    exact ⟨rfl, Chg.refl _ _⟩

set_option maxHeartbeats 1000000 in
theorem drvRead {w : World} {base g : Nat} {F : Nat → Prop} {sv nv qv : Value} {so no : Option (List UInt8)} {q : List (List UInt8)} (h : Drv w base g F sv nv qv so no q) (hsz : (no.getD []).length ≤ 1000000000) :
    Calls Try.prog 12 #[.pointer (some ⟨g, 0, none⟩), .string fN] w fun e w' => ∃ u er, e = .returned (.tuple #[u, .int .i64 er]) ∧ OwnB w' w.heap.size u (no.getD []) ∧ Chg Non w w' := by
  have k1 := h.blk.cell 1
  have k6 := h.blk.cell 6
  simp at k1 k6
  have hth := drvThere h
  cases no with
  | none =>
    simp only [Option.isSome_none, Bool.false_eq_true, if_false] at hth
    go_enter Try.func12, Try.ntmps12
    go_wp2_with fail
    refine hth.mono ?_
    rintro e w1 ⟨rfl, hc⟩
    go_wp2_with fail
    go_ret2
    exact ⟨_, _, rfl, OwnB.nil_ _ _, hc⟩
  | some l =>
    simp only [Option.isSome_some, if_true] at hth
    obtain ⟨x, hx, hlk⟩ := h.n.look
    go_enter Try.func12, Try.ntmps12
    go_wp2_with fail
    refine hth.mono ?_
    rintro e w1 ⟨rfl, hc⟩
    have hl := hlk w1 hc
    have k2 := hc.cell k1 (fun h => h)
    have hcl := bytesClone (hx.c0 hc) (by simpa using (by have := hsz; simp at this; omega))
    go_wp2_with fail
    refine hcl.mono ?_
    rintro e w2 ⟨u, rfl, hu, hc2⟩
    go_wp2_with fail
    go_ret2
    exact ⟨_, _, rfl, hu.low hc.size, hc.trans0 hc2⟩
end Go.Proofs.Ytjagiahfndcbhaa
