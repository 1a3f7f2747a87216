/- The walks of drive's New, Arm, Dead, may, Used, Size, there and Read. -/
import Derived.Test.YtfgecgmgbngeaaaGreatDrB
import Derived.Test.YtfgecgmgbngeaaaGreatPackA
import Derived.Test.YtfgecgmgbngeaaaGreatSlc
import Derived.Deep.RegionHeld3
import Derived.Laws.IdiomRangeMap
import Derived.LoopN
set_option linter.unusedSimpArgs false
set_option maxRecDepth 100000
namespace Go.Proofs.YtfgecgmgbngeaaaGreat
open Go.RowKit Go.Maps
set_option linter.unusedVariables false

theorem dgNew (w : World) (sup : List Nm) : Calls Tryz.prog 5 #[.int .i64 1073741824] w fun e w' =>
    ∃ g, e = .returned (.pointer (some ⟨g, 0, none⟩)) ∧ w.heap.size ≤ g ∧ DrvAt w' sup (Ext Non w w') g ⟨noF, noF, [], none, false⟩ ∧ Chg Non w w' := by
  go_enter Tryz.func5, Tryz.ntmps5
  go_wp2_with fail
  go_ret
  have hs : ∀ o : Obj, (w.alloc o).heap.size = w.heap.size + 1 := fun o => Array.size_push ..
  have h0 : ∀ w : World, FsAt w sup Non (.map none) noF := fun w => ⟨[], ⟨Once.nil_, fun p hp => by simp at hp, fun p hp => by simp at hp, .inl ⟨rfl, rfl⟩⟩, rfl⟩
  refine ⟨_, rfl, Nat.le_refl _, ⟨_, _, _, _, Non, ⟨Blk.new w _ _, fun n e => (by cases e), h0 _, h0 _, QAt.nil_ _ _, .inr ⟨Nat.le_refl _, by rw [hs]; omega⟩, fun B e => (by cases e), fun B e => (by cases e), fun B e => (by cases e), fun b hb => hb.elim, fun b hb => ?_⟩⟩, (Chg.refl Non w).alloc _⟩
  rcases hb with h | h
  · exact h.elim
  · exact h.2

theorem dgDead {w : World} {sup : List Nm} {T : Nat → Prop} {g : Nat} {S : DSt} (h : DrvAt w sup T g S) :
    Calls Tryz.prog 12 #[.pointer (some ⟨g, 0, none⟩)] w fun e w' => e = .returned (.bool S.dead) ∧ w' = w := by
  obtain ⟨sv, nv, qv, lv, F, h⟩ := h
  have k6 := h.blk.cell 6
  simp at k6
  go_enter Tryz.func12, Tryz.ntmps12
  go_wp2_with fail
  go_ret
  exact ⟨rfl, rfl⟩

/-- the drive's numbers turn, nothing else -/
theorem DrvM.turn {w : World} {sup : List Nm} {T F : Nat → Prop} {g : Nat} {S : DSt} {sv nv qv : Value} {lv : Int} (h : DrvM w sup T g S sv nv qv lv F) {w' : World} (hc : Chg (fun k => k = g) w w') {arm : Option Nat} {dead : Bool} {lv' : Int}
    (hb : Blk w' g 49 #[sv, nv, qv, .int .i64 1073741824, .bool arm.isSome, .int .i64 lv', .bool dead]) (ha : ∀ n, arm = some n → lv' = (n : Int) ∧ n ≤ 1000000) : DrvM w' sup T g ⟨S.safe, S.seen, S.queue, arm, dead⟩ sv nv qv lv' F := by
  have hm : ∀ v f, FsAt w sup F v f → ∀ B, v = .map (some B) → ¬ B = g := fun v f hf B e e2 => by
    obtain ⟨l, hl, _⟩ := hf
    exact hl.noBlk e (e2 ▸ h.blk)
  exact ⟨hb, ha, h.s.chg hc (fun b hb => (h.f b hb).2.1) (hm _ _ h.s), h.n.chg hc (fun b hb => (h.f b hb).2.1) (hm _ _ h.n), h.qu.chg hc (fun b hb => (h.f b hb).2.1), h.tg, h.ts, h.tn, h.sep, h.f, fun b hb => Nat.lt_of_lt_of_le (h.lt b hb) hc.size⟩

theorem dgArm {w : World} {sup : List Nm} {T : Nat → Prop} {g : Nat} {S : DSt} (h : DrvAt w sup T g S) (n : Nat) (hn1 : n ≤ 1000000) :
    Calls Tryz.prog 10 #[.pointer (some ⟨g, 0, none⟩), .int .i64 (n : Int)] w fun e w' => e = .returned (.tuple #[]) ∧ DrvAt w' sup T g ⟨S.safe, S.seen, S.queue, some n, S.dead⟩ ∧ Chg (fun k => k = g) w w' := by
  obtain ⟨sv, nv, qv, lv, F, h⟩ := h
  have k4 := h.blk.cell 4
  have k5 := h.blk.cell 5
  have f4 := h.blk.frozen 4
  have f5 := h.blk.frozen 5
  simp at k4 k5
  have hn : ¬ ((n : Int) < 0) := by omega
  have hn0 : decide ((0 : Int) ≤ (n : Int)) = true := decide_eq_true (by omega)
  have hb := (h.blk.set_ 4 (.bool true)).set_ 5 (.int .i64 (n : Int))
  simp at hb
  have hc : Chg (fun k => k = g) w ((w.setCell ⟨g, 4, none⟩ (.bool true)).setCell ⟨g, 5, none⟩ (.int .i64 (n : Int))) := Chg.setCell (p := ⟨g, 5, none⟩) (Chg.setCell (p := ⟨g, 4, none⟩) (Chg.refl (fun k => k = g) w) (fun _ => rfl) _) (fun _ => rfl) _
  have hD := hide (h.turn hc (arm := some n) (dead := S.dead) hb (fun m e => by injection e with e; rw [← e]; exact ⟨rfl, hn1⟩))
  clear h hb
  go_enter Tryz.func10, Tryz.ntmps10
  go_wp2_with fail
  exact bodyPost_end (results_none rfl _ _ _) rfl ⟨rfl, ⟨_, _, _, _, _, hD.out⟩, hc⟩

/-- a deed that would do well: it is done, or it kills the drive -/
theorem dgMay {w : World} {sup : List Nm} {T F : Nat → Prop} {g : Nat} {S : DSt} {sv nv qv : Value} {lv : Int} (h : DrvM w sup T g S sv nv qv lv F) (hd : S.dead = false) :
    Calls Tryz.prog 103 #[.pointer (some ⟨g, 0, none⟩), .int .i64 0] w fun e w' => Chg (fun k => k = g) w w' ∧
      ((S.arm = some 0 ∧ e = .returned (.tuple #[.bool false, .bool true, .int .i64 9]) ∧ DrvM w' sup T g ⟨S.safe, S.seen, S.queue, some 0, true⟩ sv nv qv lv F) ∨
       (S.arm ≠ some 0 ∧ e = .returned (.tuple #[.bool true, .bool false, .int .i64 0]) ∧ ∃ lv', DrvM w' sup T g ⟨S.safe, S.seen, S.queue, S.arm.map (· - 1), false⟩ sv nv qv lv' F)) := by
  have k4 := h.blk.cell 4
  have k5 := h.blk.cell 5
  have k6 := h.blk.cell 6
  have f5 := h.blk.frozen 5
  have f6 := h.blk.frozen 6
  simp at k4 k5 k6
  rw [hd] at k6
  rcases ha : S.arm with _ | n
  · rw [ha] at k4
    have e1 : (none : Option Nat).isSome = false := rfl
    rw [e1] at k4
    have hD := hide (h.turn (Chg.refl (fun k => k = g) w) (arm := none) (dead := false) (lv' := lv) (by have := h.blk; rw [ha, hd] at this; exact this) (fun m e => by cases e))
    clear h ha hd
    go_enter Tryz.func103, Tryz.ntmps103
    go_wp2_with fail
    go_ret3
    exact ⟨Chg.refl _ _, .inr ⟨by simp, rfl, _, hD.out⟩⟩
  · rw [ha] at k4
    have e1 : (some n : Option Nat).isSome = true := rfl
    rw [e1] at k4
    obtain ⟨el, hn1⟩ := h.arm n ha
    subst el
    by_cases hz : n = 0
    · subst hz
      have k5' : w.cell? ⟨g, 5, none⟩ = some (.int .i64 0) := k5
      have hb := h.blk.set_ 6 (.bool true)
      simp at hb
      have hc : Chg (fun k => k = g) w (w.setCell ⟨g, 6, none⟩ (.bool true)) := Chg.setCell (p := ⟨g, 6, none⟩) (Chg.refl (fun k => k = g) w) (fun _ => rfl) _
      have hD := hide (h.turn hc (arm := some 0) (dead := true) (lv' := 0) (by rw [ha] at hb; exact hb) (fun m e => by injection e with e; subst e; exact ⟨rfl, hn1⟩))
      clear h hb ha hd k5
      go_enter Tryz.func103, Tryz.ntmps103
      go_wp2_with fail
      go_ret3
      exact ⟨hc, .inl ⟨by simp, rfl, hD.out⟩⟩
    · have hne : ((n : Int) == 0) = false := beq_eq_false_iff_ne.2 (by omega)
      have hb := h.blk.set_ 5 (.int .i64 ((n : Int) - 1))
      simp at hb
      have hwr : IntKind.i64.wrap ((n : Int) - 1) = (n : Int) - 1 := IntWalk.i64_in _ (by omega)
      have hc : Chg (fun k => k = g) w (w.setCell ⟨g, 5, none⟩ (.int .i64 ((n : Int) - 1))) := Chg.setCell (p := ⟨g, 5, none⟩) (Chg.refl (fun k => k = g) w) (fun _ => rfl) _
      have hD := hide (h.turn hc (arm := some (n - 1)) (dead := false) (by rw [ha, hd] at hb; exact hb) (fun m e => by injection e with e; subst e; exact ⟨by omega, by omega⟩))
      have HZ := hide hz
      clear h hb ha hd hz
      go_enter Tryz.func103, Tryz.ntmps103
      go_wp2_with fail
      go_ret3
      exact ⟨hc, .inr ⟨fun e => HZ.out (by injection e), rfl, _, hD.out⟩⟩
/-- does the next deed kill the drive? what it answers then -/
def DSt.kl (S : DSt) : Bool := S.arm == some 0
def DSt.er (S : DSt) : Int := if S.kl = true then 9 else 0
def DSt.tick (S : DSt) : DSt := ⟨S.safe, S.seen, S.queue, S.arm.map (· - 1), S.kl⟩
def DSt.did (S : DSt) (d : Deed) : DSt := ⟨S.safe, d.all S.seen, S.queue ++ [d], S.arm.map (· - 1), S.kl⟩
theorem dgMay2 {w : World} {sup : List Nm} {T F : Nat → Prop} {g : Nat} {S : DSt} {sv nv qv : Value} {lv : Int} (h : DrvM w sup T g S sv nv qv lv F) (hd : S.dead = false) :
    Calls Tryz.prog 103 #[.pointer (some ⟨g, 0, none⟩), .int .i64 0] w fun e w' => e = .returned (.tuple #[.bool (!S.kl), .bool S.kl, .int .i64 S.er]) ∧ Chg (fun k => k = g) w w' ∧ ∃ lv', DrvM w' sup T g S.tick sv nv qv lv' F := by
  refine (dgMay h hd).mono ?_
  rintro e w' ⟨hc, ⟨ha, rfl, hD⟩ | ⟨ha, rfl, lv', hD⟩⟩
  · have hk : S.kl = true := by unfold DSt.kl; rw [ha]; rfl
    refine ⟨by unfold DSt.er; rw [hk]; rfl, hc, lv, ?_⟩
    unfold DSt.tick
    rw [hk, ha]
    exact hD
  · have hk : S.kl = false := by unfold DSt.kl; exact beq_eq_false_iff_ne.2 ha
    refine ⟨by unfold DSt.er; rw [hk]; rfl, hc, lv', ?_⟩
    unfold DSt.tick
    rw [hk]
    exact hD

theorem und_files : Tryz.prog.underlying 46 = some (.map 9 30) := Tryz.underlying46
set_option maxHeartbeats 1000000 in
set_option maxRecDepth 100000 in
theorem dgUsed {w : World} {sup : List Nm} {T F : Nat → Prop} {g : Nat} {S : DSt} {sv nv qv : Value} {lv : Int} (h : DrvM w sup T g S sv nv qv lv F) (hsup : sup.Pairwise (· ≠ ·)) (hsz : totF sup S.seen ≤ 1000000000) :
    Calls Tryz.prog 93 #[.pointer (some ⟨g, 0, none⟩)] w fun e w' => e = .returned (.int .i64 (totF sup S.seen : Int)) ∧ Chg Non w w' := by
  have k1 := h.blk.cell 1
  simp at k1
  obtain ⟨l, hl, hf⟩ := h.n
  rw [hf] at hsz ⊢
  rw [← totL_F hsup hl.once hl.sup] at hsz ⊢
  rcases hl.map with ⟨rfl, rfl⟩ | ⟨B, rfl, hm⟩
  · have hrn := fun w => run_range_nilMap (P := Tryz.prog) w 46 _ _ Tryz.underlying46
    have hnn := fun w ty a b s => run_next_nilMap (P := Tryz.prog) w ty a b s
    clear hf hl h hsz
    go_enter Tryz.func93, Tryz.ntmps93
    go_wp2_with fail
    refine wp_loop_rounds 1 ?_
    rw [rounds_succ]
    go_wp2_with fail
    go_ret
    exact ⟨rfl, (Chg.refl _ _).alloc _⟩
  · obtain ⟨L, hL⟩ : ∃ L, L = totL l := ⟨_, rfl⟩
    rw [← hL] at hsz ⊢
    have HL := hide hL
    have HLL := hide hl
    have HM := hide hm
    clear hL hf h hl
    go_enter Tryz.func93, Tryz.ntmps93
    go_wp2_with (at_range; refine wpList_range_own _ rfl _ 46 rfl 9 30 keyF Tryz.underlying46 heldR B l.length _ rfl hm ?_; intro w0 hrg0 hg0 hs0)
    go_frame
    have hc0 : Chg Non w w0 := (Chg.of_grown hg0).mono fun b _ e => by cases e
    clear hm
    go_loopw [3] (fun av wr => ∃ (left : Lit → Bool) (cnt acc : Nat), wr.ranges Tryz.prog 9 heldR B w.heap.size l.length (datS l) left cnt ∧ av = .int .i64 acc ∧ Hid (acc + sumLeft l left = L) ∧ Hid (∀ z, left z = true → Maps.has (datS l) z = true) ∧ Chg Non w wr) (fun _ wr => wr.rangeLeft B w.heap.size)
    case atStart => exact ⟨_, _, 0, hrg0, rfl, hide (by rw [Nat.zero_add, sumLeft_all (fun p hp => by rw [dat_has_any]; exact List.any_eq_true.2 ⟨p, hp, (keyS.same _ _).2 rfl⟩)]; exact HL.out.symm), hide fun z hz => hz, hc0⟩
    case round =>
      clear hrg0 hg0 hs0 hc0
      obtain ⟨left, cnt, acc, hrg, rfl, hacc, hsub, hcw⟩ := hrel
      go_wp2_with (at_next; refine wpList_next_ranges _ rfl _ rfl 9 keyF heldR Value.string (fun c : Value => c) (fun key kl hk => Maps.keyOf_string_inv Tryz.underlying9 hk) (fun v y _ => ⟨v, rfl⟩) B w.heap.size l.length _ _ _ rfl hrg ?_ ?_)
      · intro hn0 hl0
        have hfin : acc = L := by
          have := hacc.out
          rw [sumLeft_none l hl0] at this
          omega
        subst hfin
        go_wp2_with fail
        go_ret
        exact ⟨rfl, hcw⟩
      · intro x c kl y ps w1 cnt1 hkey hlk hRy hat hrg1 hlt hg1 hs1 hen
        obtain ⟨p, hp, hpk⟩ : ∃ p ∈ l, klS p.1 = kl := by
          have h1 := hsub.out kl hlk
          rw [dat_has_any] at h1
          obtain ⟨p, hp, h2⟩ := List.any_eq_true.1 h1
          exact ⟨p, hp, WideAt.sameKey_eq h2⟩
        subst hpk
        have hcx : c = p.2.1 := by
          have h1 := hat (.held nilS)
          rw [datS_at, mem_get keyS HLL.out.once (k := p.1) (v := p.2) hp] at h1
          simp only [heldR, Option.some.injEq] at hRy
          rw [← (Prod.mk.inj hRy).1] at h1
          simp only [Option.map_some, Option.getD_some, DataW.held.injEq] at h1
          exact h1.symm
        have hlen := fun w' ty => run_len8 (HLL.out.rd p hp) w' ty
        rw [← hcx] at hlen
        obtain ⟨pl, hpl⟩ : ∃ pl, pl = p.2.2.length := ⟨_, rfl⟩
        rw [← hpl] at hlen
        have hw1 : Chg Non w w1 := hcw.grown hg1 fun b hb hlt => by injection hb with hb; omega
        have hst := sumLeft_step HLL.out.once hp hlk
        have hacc2 := hide (show acc + pl + (sumLeft l fun z => left z && !z.sameKey (klS p.1)) = L by have := hacc.out; rw [hst, ← hpl] at this; omega)
        have hwr : IntKind.i64.wrap ((acc : Int) + (pl : Int)) = (acc : Int) + (pl : Int) := IntWalk.i64_in _ (by have := hacc2.out; omega)
        have HRG := hide hrg1
        have hle1 := hrg1.left_eq
        have hle2 := hrg.left_eq
        clear hrg hrg1 hkey hat hRy hcx hst hpl
        go_wp2_with fail
        go_roundw
        case rel => exact ⟨_, _, acc + pl, HRG.out, by go_num, hacc2, hide fun z hz => hsub.out z (by simp only [Bool.and_eq_true] at hz; exact hz.1), hw1⟩
        case measure =>
          rw [hle1, hle2]
          exact hlt

theorem FsAt.look {w : World} {sup : List Nm} {F : Nat → Prop} {v : Value} {f : Fls} (h : FsAt w sup F v f) (s : ByteArray) (hs : s.size ≤ maxLen) :
    ∃ x, RdB w F x ((f s.data.toList).getD []) ∧ ∀ w', Chg Non w w' → (Instr.lookup 46 v (.string s) false).run Tryz.prog w' = .ok x w' ∧ (Instr.lookup 46 v (.string s) true).run Tryz.prog w' = .ok (.tuple #[x, .bool (f s.data.toList).isSome]) w' := by
  obtain ⟨l, hl, rfl⟩ := h
  exact hl.look s hs

set_option maxHeartbeats 1000000 in
theorem dgSize {w : World} {sup : List Nm} {T : Nat → Prop} {g : Nat} {S : DSt} (h : DrvAt w sup T g S) (hd : S.dead = false) (s : ByteArray) (hs : s.size ≤ maxLen) :
    Calls Tryz.prog 44 #[.pointer (some ⟨g, 0, none⟩), .string s] w fun e w' => e = .returned (.int .i64 (((S.seen s.data.toList).getD []).length : Int)) ∧ w' = w := by
  obtain ⟨sv, nv, qv, lv, F, h⟩ := h
  have k1 := h.blk.cell 1
  have k6 := h.blk.cell 6
  simp at k1 k6
  rw [hd] at k6
  obtain ⟨x, hx, hlk⟩ := h.n.look s hs
  have hl := (hlk w (Chg.refl _ _)).1
  have hlen := run_len8 hx w
  clear hlk hd h hx
  go_enter Tryz.func44, Tryz.ntmps44
  go_wp2_with fail
  go_ret
  exact ⟨rfl, rfl⟩

theorem dgThere {w : World} {sup : List Nm} {T F : Nat → Prop} {g : Nat} {S : DSt} {sv nv qv : Value} {lv : Int} (h : DrvM w sup T g S sv nv qv lv F) (s : ByteArray) (hs : s.size ≤ maxLen) :
    Calls Tryz.prog 39 #[.pointer (some ⟨g, 0, none⟩), .string s] w fun e w' => e = .returned (.int .i64 (if (S.seen s.data.toList).isSome = true then 0 else 6)) ∧ w' = w := by
  have k1 := h.blk.cell 1
  simp at k1
  obtain ⟨x, hx, hlk⟩ := h.n.look s hs
  have hl := (hlk w (Chg.refl _ _)).2
  cases e : (S.seen s.data.toList).isSome
  · rw [e] at hl
    clear hlk h e
    go_enter Tryz.func39, Tryz.ntmps39
    go_wp2_with fail
    go_ret
    exact ⟨rfl, rfl⟩
  · rw [e] at hl
    clear hlk h e
    go_enter Tryz.func39, Tryz.ntmps39
    go_wp2_with fail
    go_ret
    exact ⟨rfl, rfl⟩

set_option maxHeartbeats 1000000 in
theorem dgRead {w : World} {sup : List Nm} {T : Nat → Prop} {g : Nat} {S : DSt} (h : DrvAt w sup T g S) (hd : S.dead = false) (s : ByteArray) (hs : s.size ≤ maxLen) (hb : ((S.seen s.data.toList).getD []).length ≤ 1000000000) :
    Calls Tryz.prog 17 #[.pointer (some ⟨g, 0, none⟩), .string s] w fun e w' => Chg Non w w' ∧ match S.seen s.data.toList with
      | none => e = .returned (.tuple #[.slice none 0 0, .int .i64 6])
      | some b => ∃ u, e = .returned (.tuple #[u, .int .i64 0]) ∧ OwnB w' w.heap.size u b := by
  obtain ⟨sv, nv, qv, lv, F, h⟩ := h
  have k1 := h.blk.cell 1
  have k6 := h.blk.cell 6
  simp at k1 k6
  rw [hd] at k6
  have hth := dgThere h s hs
  obtain ⟨x, hx, hlk⟩ := h.n.look s hs
  have hl := (hlk w (Chg.refl _ _)).1
  cases e : S.seen s.data.toList with
  | none =>
    rw [e] at hth
    clear hlk h hd e hx
    go_enter Tryz.func17, Tryz.ntmps17
    go_wp2_with fail
    refine hth.mono ?_
    rintro e w1 ⟨rfl, rfl⟩
    clear hth
    go_wp2_with fail
    go_ret2
    exact ⟨Chg.refl _ _, rfl⟩
  | some b =>
    rw [e] at hth hx hb
    have hcl := bytesClone hx (Nat.le_trans hb (by decide))
    clear hlk h hd e
    go_enter Tryz.func17, Tryz.ntmps17
    go_wp2_with fail
    refine hth.mono ?_
    rintro e w1 ⟨rfl, rfl⟩
    clear hth
    go_wp2_with fail
    refine hcl.mono ?_
    rintro e w2 ⟨u, rfl, hu, hc2⟩
    clear hcl
    go_wp2_with fail
    go_ret2
    exact ⟨hc2, _, rfl, hu⟩
end Go.Proofs.YtfgecgmgbngeaaaGreat
