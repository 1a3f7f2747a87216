/- Pieces of byte slices, as the walk meets them. -/
import Derived.Test.YtliimeoblffigaaGreatPackAG
import Derived.Deep.RegionHeld3
import Derived.Laws.IdiomRangeMap
import Derived.LoopN
import Derived.Test.YtliimeoblffigaaGreatDgAG
import Derived.Lib.MinMax
import Derived.Laws.CopyOwn
import Derived.Deep.Cut
set_option linter.unusedVariables false
set_option linter.unusedSimpArgs false
set_option maxRecDepth 100000
namespace Go.Proofs.YtliimeoblffigaaGreat
open Go.RowKit

theorem size_u8 (w : World) : (sizeOf (Tryz.prog.elem 30)).run Tryz.prog w = .ok 1 w := by kernel_rfl
theorem under_elem8 : Tryz.prog.underlying 30 = some (.slice (Tryz.prog.elem 30)) := by kernel_rfl

/-- 's[i:j]' of a slice whose value is kept closed -/
theorem run_cut {w : World} {F : Nat → Prop} {v : Value} {l : List UInt8} (h : RdB w F v l) {i j : Nat} {x y : Int} (hx : x = (i : Int)) (hy : y = (j : Int)) (hi : i ≤ j) (hj : j ≤ l.length) :
    ∃ sv, RdB w F sv ((l.drop i).take (j - i)) ∧ ∀ w' : World, (Instr.slice 30 v (some (.int .i64 x)) (some (.int .i64 y)) none).run Tryz.prog w' = .ok sv w' := by
  obtain ⟨A, c, rfl, hc, hm⟩ := h.shape
  subst hx; subst hy
  refine ⟨_, h.piece hi hj, fun w' => ?_⟩
  rw [run_slice_lh (P := Tryz.prog) w' 30 A l.length c under_elem8 .i64 .i64 (i : Int) (j : Int) (by omega) (by omega) (by omega), size_u8]
  simp only [Result.andThen, sliced, Int.toNat_natCast, Nat.mul_one]
/-- 's[i:]' -/
theorem run_cut_l {w : World} {F : Nat → Prop} {v : Value} {l : List UInt8} (h : RdB w F v l) {i : Nat} {x : Int} (hx : x = (i : Int)) (hi : i ≤ l.length) :
    ∃ sv, RdB w F sv (l.drop i) ∧ ∀ w' : World, (Instr.slice 30 v (some (.int .i64 x)) none none).run Tryz.prog w' = .ok sv w' := by
  obtain ⟨A, c, rfl, hc, hm⟩ := h.shape
  subst hx
  have hp := h.piece hi (Nat.le_refl _)
  rw [List.take_of_length_le (by simp)] at hp
  refine ⟨_, hp, fun w' => ?_⟩
  rw [run_slice_l (P := Tryz.prog) w' 30 A l.length c under_elem8 .i64 (i : Int) (by omega) (by omega), size_u8]
  simp only [Result.andThen, sliced, Int.toNat_natCast, Nat.mul_one]
/-- 's[:j]' -/
theorem run_cut_h {w : World} {F : Nat → Prop} {v : Value} {l : List UInt8} (h : RdB w F v l) {j : Nat} {y : Int} (hy : y = (j : Int)) (hj : j ≤ l.length) :
    ∃ sv, RdB w F sv (l.take j) ∧ ∀ w' : World, (Instr.slice 30 v none (some (.int .i64 y)) none).run Tryz.prog w' = .ok sv w' := by
  obtain ⟨A, c, rfl, hc, hm⟩ := h.shape
  subst hy
  have hp := h.piece (Nat.zero_le j) hj
  rw [List.drop_zero, Nat.sub_zero] at hp
  refine ⟨_, hp, fun w' => ?_⟩
  rw [run_slice_h (P := Tryz.prog) w' 30 A l.length c under_elem8 .i64 (j : Int) (by omega) (by omega), size_u8]
  simp only [Result.andThen, sliced, Int.toNat_natCast, Nat.zero_mul, Nat.sub_zero]
/-- 'len(s)' -/
theorem run_len8 {w : World} {F : Nat → Prop} {v : Value} {l : List UInt8} (h : RdB w F v l) (w' : World) (ty : TypeId) : (Builtin.len_ #[30] ty #[v]).run Tryz.prog w' = .ok (.int .i64 (l.length : Int)) w' := by
  obtain ⟨A, c, rfl, hc, hm⟩ := h.shape
  simp [Builtin.len_, run_underlying under_elem8, goInt]

/-! ### worlds that differ by draws alone -/
def Quiet (w w' : World) : Prop := ∃ k, w' = w.drewN k
theorem Quiet.dn {w w' : World} (h : Quiet w w') (q : Nat) : Quiet w (w'.drewN q) := by
  obtain ⟨k, rfl⟩ := h
  exact ⟨k + q, World.drewN_drewN w k q⟩
end Go.Proofs.YtliimeoblffigaaGreat

set_option maxRecDepth 100000
namespace Go.Proofs.YtliimeoblffigaaGreat
open Go.RowKit Go.Maps
set_option linter.unusedVariables false

theorem dgNew (w : World) (sup : List Nm) : Calls Tryz.prog 56 #[.int .i64 1073741824] w fun e w' =>
    ∃ g, e = .returned (.pointer (some ⟨g, 0, none⟩)) ∧ w.heap.size ≤ g ∧ DrvAt w' sup (Ext Non w w') g ⟨noF, noF, [], none, false⟩ ∧ Chg Non w w' := by
  go_enter Tryz.func56, Tryz.ntmps56
  go_wp2_with fail
  go_ret
  have hs : ∀ o : Obj, (w.alloc o).heap.size = w.heap.size + 1 := fun o => Array.size_push ..
  have h0 : ∀ w : World, FsAt w sup Non (.map none) noF := fun w => ⟨[], ⟨Once.nil_, fun p hp => by simp at hp, fun p hp => by simp at hp, .inl ⟨rfl, rfl⟩⟩, rfl⟩
  refine ⟨_, rfl, Nat.le_refl _, ⟨_, _, _, _, Non, ⟨Blk.new w _ _, fun n e => (by cases e), h0 _, h0 _, QAt.nil_ _ _, .inr ⟨Nat.le_refl _, by rw [hs]; omega⟩, fun B e => (by cases e), fun B e => (by cases e), fun B e => (by cases e), fun b hb => hb.elim, fun b hb => ?_⟩⟩, (Chg.refl Non w).alloc _⟩
  rcases hb with h | h
  · exact h.elim
  · exact h.2

/-- the drive's numbers turn, nothing else -/
theorem DrvM.turn {w : World} {sup : List Nm} {T F : Nat → Prop} {g : Nat} {S : DSt} {sv nv qv : Value} {lv : Int} (h : DrvM w sup T g S sv nv qv lv F) {w' : World} (hc : Chg (fun k => k = g) w w') {arm : Option Nat} {dead : Bool} {lv' : Int}
    (hb : Blk w' g 178 #[sv, nv, qv, .int .i64 1073741824, .bool arm.isSome, .int .i64 lv', .bool dead]) (ha : ∀ n, arm = some n → lv' = (n : Int) ∧ n ≤ 1000000) : DrvM w' sup T g ⟨S.safe, S.seen, S.queue, arm, dead⟩ sv nv qv lv' F := by
  have hm : ∀ v f, FsAt w sup F v f → ∀ B, v = .map (some B) → ¬ B = g := fun v f hf B e e2 => by
    obtain ⟨l, hl, _⟩ := hf
    exact hl.noBlk e (e2 ▸ h.blk)
  exact ⟨hb, ha, h.s.chg hc (fun b hb => (h.f b hb).2.1) (hm _ _ h.s), h.n.chg hc (fun b hb => (h.f b hb).2.1) (hm _ _ h.n), h.qu.chg hc (fun b hb => (h.f b hb).2.1), h.tg, h.ts, h.tn, h.sep, h.f, fun b hb => Nat.lt_of_lt_of_le (h.lt b hb) hc.size⟩

/-- a deed that would do well: it is done, or it kills the drive -/
theorem dgMay {w : World} {sup : List Nm} {T F : Nat → Prop} {g : Nat} {S : DSt} {sv nv qv : Value} {lv : Int} (h : DrvM w sup T g S sv nv qv lv F) (hd : S.dead = false) :
    Calls Tryz.prog 247 #[.pointer (some ⟨g, 0, none⟩), .int .i64 0] w fun e w' => Chg (fun k => k = g) w w' ∧
      ((S.arm = some 0 ∧ e = .returned (.tuple #[.bool false, .bool true, .int .i64 9]) ∧ DrvM w' sup T g ⟨S.safe, S.seen, S.queue, some 0, true⟩ sv nv qv lv F) ∨
       (S.arm ≠ some 0 ∧ e = .returned (.tuple #[.bool true, .bool false, .int .i64 0]) ∧ ∃ lv', DrvM w' sup T g ⟨S.safe, S.seen, S.queue, S.arm.map (· - 1), false⟩ sv nv qv lv' F)) := by
  have k4 := h.blk.cell 4
  have k5 := h.blk.cell 5
  have k6 := h.blk.cell 6
  have f5 := h.blk.frozen 5
  have f6 := h.blk.frozen 6
  simp at k4 k5 k6
  rw [hd] at k6
  rcases ha : S.arm with _ | n
  · rw [ha] at k4
    have e1 : (none : Option Nat).isSome = false := rfl
    rw [e1] at k4
    have hD := hide (h.turn (Chg.refl (fun k => k = g) w) (arm := none) (dead := false) (lv' := lv) (by have := h.blk; rw [ha, hd] at this; exact this) (fun m e => by cases e))
    clear h ha hd
    go_enter Tryz.func247, Tryz.ntmps247
    go_wp2_with fail
    go_ret3
    exact ⟨Chg.refl _ _, .inr ⟨by simp, rfl, _, hD.out⟩⟩
  · rw [ha] at k4
    have e1 : (some n : Option Nat).isSome = true := rfl
    rw [e1] at k4
    obtain ⟨el, hn1⟩ := h.arm n ha
    subst el
    by_cases hz : n = 0
    · subst hz
      have k5' : w.cell? ⟨g, 5, none⟩ = some (.int .i64 0) := k5
      have hb := h.blk.set_ 6 (.bool true)
      simp at hb
      have hc : Chg (fun k => k = g) w (w.setCell ⟨g, 6, none⟩ (.bool true)) := Chg.setCell (p := ⟨g, 6, none⟩) (Chg.refl (fun k => k = g) w) (fun _ => rfl) _
      have hD := hide (h.turn hc (arm := some 0) (dead := true) (lv' := 0) (by rw [ha] at hb; exact hb) (fun m e => by injection e with e; subst e; exact ⟨rfl, hn1⟩))
      clear h hb ha hd k5
      go_enter Tryz.func247, Tryz.ntmps247
      go_wp2_with fail
      go_ret3
      exact ⟨hc, .inl ⟨by simp, rfl, hD.out⟩⟩
    · have hne : ((n : Int) == 0) = false := beq_eq_false_iff_ne.2 (by omega)
      have hb := h.blk.set_ 5 (.int .i64 ((n : Int) - 1))
      simp at hb
      have hwr : IntKind.i64.wrap ((n : Int) - 1) = (n : Int) - 1 := IntWalk.i64_in _ (by omega)
      have hc : Chg (fun k => k = g) w (w.setCell ⟨g, 5, none⟩ (.int .i64 ((n : Int) - 1))) := Chg.setCell (p := ⟨g, 5, none⟩) (Chg.refl (fun k => k = g) w) (fun _ => rfl) _
      have hD := hide (h.turn hc (arm := some (n - 1)) (dead := false) (by rw [ha, hd] at hb; exact hb) (fun m e => by injection e with e; subst e; exact ⟨by omega, by omega⟩))
      have HZ := hide hz
      clear h hb ha hd hz
      go_enter Tryz.func247, Tryz.ntmps247
      go_wp2_with fail
      go_ret3
      exact ⟨hc, .inr ⟨fun e => HZ.out (by injection e), rfl, _, hD.out⟩⟩
/-- does the next deed kill the drive? what it answers then -/
def DSt.kl (S : DSt) : Bool := S.arm == some 0
def DSt.er (S : DSt) : Int := if S.kl = true then 9 else 0
def DSt.tick (S : DSt) : DSt := ⟨S.safe, S.seen, S.queue, S.arm.map (· - 1), S.kl⟩
def DSt.did (S : DSt) (d : Deed) : DSt := ⟨S.safe, d.all S.seen, S.queue ++ [d], S.arm.map (· - 1), S.kl⟩
theorem dgMay2 {w : World} {sup : List Nm} {T F : Nat → Prop} {g : Nat} {S : DSt} {sv nv qv : Value} {lv : Int} (h : DrvM w sup T g S sv nv qv lv F) (hd : S.dead = false) :
    Calls Tryz.prog 247 #[.pointer (some ⟨g, 0, none⟩), .int .i64 0] w fun e w' => e = .returned (.tuple #[.bool (!S.kl), .bool S.kl, .int .i64 S.er]) ∧ Chg (fun k => k = g) w w' ∧ ∃ lv', DrvM w' sup T g S.tick sv nv qv lv' F := by
  refine (dgMay h hd).mono ?_
  rintro e w' ⟨hc, ⟨ha, rfl, hD⟩ | ⟨ha, rfl, lv', hD⟩⟩
  · have hk : S.kl = true := by unfold DSt.kl; rw [ha]; rfl
    refine ⟨by unfold DSt.er; rw [hk]; rfl, hc, lv, ?_⟩
    unfold DSt.tick
    rw [hk, ha]
    exact hD
  · have hk : S.kl = false := by unfold DSt.kl; exact beq_eq_false_iff_ne.2 ha
    refine ⟨by unfold DSt.er; rw [hk]; rfl, hc, lv', ?_⟩
    unfold DSt.tick
    rw [hk]
    exact hD

set_option maxHeartbeats 1000000 in
set_option maxRecDepth 100000 in
theorem dgUsed {w : World} {sup : List Nm} {T F : Nat → Prop} {g : Nat} {S : DSt} {sv nv qv : Value} {lv : Int} (h : DrvM w sup T g S sv nv qv lv F) (hsup : sup.Pairwise (· ≠ ·)) (hsz : totF sup S.seen ≤ 1000000000) :
    Calls Tryz.prog 244 #[.pointer (some ⟨g, 0, none⟩)] w fun e w' => e = .returned (.int .i64 (totF sup S.seen : Int)) ∧ Chg Non w w' := by
  have k1 := h.blk.cell 1
  simp at k1
  obtain ⟨l, hl, hf⟩ := h.n
  rw [hf] at hsz ⊢
  rw [← totL_F hsup hl.once hl.sup] at hsz ⊢
  rcases hl.map with ⟨rfl, rfl⟩ | ⟨B, rfl, hm⟩
  · have hrn := fun w => run_range_nilMap (P := Tryz.prog) w 175 _ _ Tryz.underlying175
    have hnn := fun w ty a b s => run_next_nilMap (P := Tryz.prog) w ty a b s
    clear hf hl h hsz
    go_enter Tryz.func244, Tryz.ntmps244
    go_wp2_with fail
    refine wp_loop_rounds 1 ?_
    rw [rounds_succ]
    go_wp2_with fail
    go_ret
    exact ⟨rfl, (Chg.refl _ _).alloc _⟩
  · obtain ⟨L, hL⟩ : ∃ L, L = totL l := ⟨_, rfl⟩
    rw [← hL] at hsz ⊢
    have HL := hide hL
    have HLL := hide hl
    have HM := hide hm
    clear hL hf h hl
    go_enter Tryz.func244, Tryz.ntmps244
    go_wp2_with (at_range; refine wpList_range_own _ rfl _ 175 rfl 9 30 keyF Tryz.underlying175 heldR B l.length _ rfl hm ?_; intro w0 hrg0 hg0 hs0)
    go_frame
    have hc0 : Chg Non w w0 := (Chg.of_grown hg0).mono fun b _ e => by cases e
    clear hm
    go_loopw [3] (fun av wr => ∃ (left : Lit → Bool) (cnt acc : Nat), wr.ranges Tryz.prog 9 heldR B w.heap.size l.length (datS l) left cnt ∧ av = .int .i64 acc ∧ Hid (acc + sumLeft l left = L) ∧ Hid (∀ z, left z = true → Maps.has (datS l) z = true) ∧ Chg Non w wr) (fun _ wr => wr.rangeLeft B w.heap.size)
    case atStart => exact ⟨_, _, 0, hrg0, rfl, hide (by rw [Nat.zero_add, sumLeft_all (fun p hp => by rw [dat_has_any]; exact List.any_eq_true.2 ⟨p, hp, (keyS.same _ _).2 rfl⟩)]; exact HL.out.symm), hide fun z hz => hz, hc0⟩
    case round =>
      clear hrg0 hg0 hs0 hc0
      obtain ⟨left, cnt, acc, hrg, rfl, hacc, hsub, hcw⟩ := hrel
      go_wp2_with (at_next; refine wpList_next_ranges _ rfl _ rfl 9 keyF heldR Value.string (fun c : Value => c) (fun key kl hk => Maps.keyOf_string_inv Tryz.underlying9 hk) (fun v y _ => ⟨v, rfl⟩) B w.heap.size l.length _ _ _ rfl hrg ?_ ?_)
      · intro hn0 hl0
        have hfin : acc = L := by
          have := hacc.out
          rw [sumLeft_none l hl0] at this
          omega
        subst hfin
        go_wp2_with fail
        go_ret
        exact ⟨rfl, hcw⟩
      · intro x c kl y ps w1 cnt1 hkey hlk hRy hat hrg1 hlt hg1 hs1 hen
        obtain ⟨p, hp, hpk⟩ : ∃ p ∈ l, klS p.1 = kl := by
          have h1 := hsub.out kl hlk
          rw [dat_has_any] at h1
          obtain ⟨p, hp, h2⟩ := List.any_eq_true.1 h1
          exact ⟨p, hp, WideAt.sameKey_eq h2⟩
        subst hpk
        have hcx : c = p.2.1 := by
          have h1 := hat (.held nilS)
          rw [datS_at, mem_get keyS HLL.out.once (k := p.1) (v := p.2) hp] at h1
          simp only [heldR, Option.some.injEq] at hRy
          rw [← (Prod.mk.inj hRy).1] at h1
          simp only [Option.map_some, Option.getD_some, DataW.held.injEq] at h1
          exact h1.symm
        have hlen := fun w' ty => run_len8 (HLL.out.rd p hp) w' ty
        rw [← hcx] at hlen
        obtain ⟨pl, hpl⟩ : ∃ pl, pl = p.2.2.length := ⟨_, rfl⟩
        rw [← hpl] at hlen
        have hw1 : Chg Non w w1 := hcw.grown hg1 fun b hb hlt => by injection hb with hb; omega
        have hst := sumLeft_step HLL.out.once hp hlk
        have hacc2 := hide (show acc + pl + (sumLeft l fun z => left z && !z.sameKey (klS p.1)) = L by have := hacc.out; rw [hst, ← hpl] at this; omega)
        have hwr : IntKind.i64.wrap ((acc : Int) + (pl : Int)) = (acc : Int) + (pl : Int) := IntWalk.i64_in _ (by have := hacc2.out; omega)
        have HRG := hide hrg1
        have hle1 := hrg1.left_eq
        have hle2 := hrg.left_eq
        clear hrg hrg1 hkey hat hRy hcx hst hpl
        go_wp2_with fail
        go_roundw
        case rel => exact ⟨_, _, acc + pl, HRG.out, by go_num, hacc2, hide fun z hz => hsub.out z (by simp only [Bool.and_eq_true] at hz; exact hz.1), hw1⟩
        case measure =>
          rw [hle1, hle2]
          exact hlt

theorem FsAt.look {w : World} {sup : List Nm} {F : Nat → Prop} {v : Value} {f : Fls} (h : FsAt w sup F v f) (s : ByteArray) (hs : s.size ≤ maxLen) :
    ∃ x, RdB w F x ((f s.data.toList).getD []) ∧ ∀ w', Chg Non w w' → (Instr.lookup 175 v (.string s) false).run Tryz.prog w' = .ok x w' ∧ (Instr.lookup 175 v (.string s) true).run Tryz.prog w' = .ok (.tuple #[x, .bool (f s.data.toList).isSome]) w' := by
  obtain ⟨l, hl, rfl⟩ := h
  exact hl.look s hs

theorem dgThere {w : World} {sup : List Nm} {T F : Nat → Prop} {g : Nat} {S : DSt} {sv nv qv : Value} {lv : Int} (h : DrvM w sup T g S sv nv qv lv F) (s : ByteArray) (hs : s.size ≤ maxLen) :
    Calls Tryz.prog 116 #[.pointer (some ⟨g, 0, none⟩), .string s] w fun e w' => e = .returned (.int .i64 (if (S.seen s.data.toList).isSome = true then 0 else 6)) ∧ w' = w := by
  have k1 := h.blk.cell 1
  simp at k1
  obtain ⟨x, hx, hlk⟩ := h.n.look s hs
  have hl := (hlk w (Chg.refl _ _)).2
  cases e : (S.seen s.data.toList).isSome
  · rw [e] at hl
    clear hlk h e
    go_enter Tryz.func116, Tryz.ntmps116
    go_wp2_with fail
    go_ret
    exact ⟨rfl, rfl⟩
  · rw [e] at hl
    clear hlk h e
    go_enter Tryz.func116, Tryz.ntmps116
    go_wp2_with fail
    go_ret
    exact ⟨rfl, rfl⟩

set_option maxHeartbeats 1000000 in
theorem dgRead {w : World} {sup : List Nm} {T : Nat → Prop} {g : Nat} {S : DSt} (h : DrvAt w sup T g S) (hd : S.dead = false) (s : ByteArray) (hs : s.size ≤ maxLen) (hb : ((S.seen s.data.toList).getD []).length ≤ 1000000000) :
    Calls Tryz.prog 83 #[.pointer (some ⟨g, 0, none⟩), .string s] w fun e w' => Chg Non w w' ∧ match S.seen s.data.toList with
      | none => e = .returned (.tuple #[.slice none 0 0, .int .i64 6])
      | some b => ∃ u, e = .returned (.tuple #[u, .int .i64 0]) ∧ OwnB w' w.heap.size u b := by
  obtain ⟨sv, nv, qv, lv, F, h⟩ := h
  have k1 := h.blk.cell 1
  have k6 := h.blk.cell 6
  simp at k1 k6
  rw [hd] at k6
  have hth := dgThere h s hs
  obtain ⟨x, hx, hlk⟩ := h.n.look s hs
  have hl := (hlk w (Chg.refl _ _)).1
  cases e : S.seen s.data.toList with
  | none =>
    rw [e] at hth
    clear hlk h hd e hx
    go_enter Tryz.func83, Tryz.ntmps83
    go_wp2_with fail
    refine hth.mono ?_
    rintro e w1 ⟨rfl, rfl⟩
    clear hth
    go_wp2_with fail
    go_ret2
    exact ⟨Chg.refl _ _, rfl⟩
  | some b =>
    rw [e] at hth hx hb
    have hcl := bytesClone hx (Nat.le_trans hb (by decide))
    clear hlk h hd e
    go_enter Tryz.func83, Tryz.ntmps83
    go_wp2_with fail
    refine hth.mono ?_
    rintro e w1 ⟨rfl, rfl⟩
    clear hth
    go_wp2_with fail
    refine hcl.mono ?_
    rintro e w2 ⟨u, rfl, hu, hc2⟩
    clear hcl
    go_wp2_with fail
    go_ret2
    exact ⟨hc2, _, rfl, hu⟩
end Go.Proofs.YtliimeoblffigaaGreat

set_option maxRecDepth 100000
namespace Go.Proofs.YtliimeoblffigaaGreat
open Go.RowKit Go.Maps

theorem OwnB.row {w : World} {base g n c : Nat} {l : List UInt8} (h : OwnB w base (.slice (some ⟨g, 0, none⟩) n c) l) : ∃ cur : Array Value, w.heap[g]? = some (.cells cur 5 (0, 0)) ∧ base ≤ g ∧ n = l.length ∧ n ≤ c ∧ c ≤ maxLen ∧ cur.size = c ∧ cur.toList.take n = bvs l := by
  rcases h.2 with ⟨e, _⟩ | ⟨b, cap, cur, e, h1, h2, h3, h4, h5, h6⟩
  · cases e
  · injection e with e1 e2 e3
    injection e1 with e1
    injection e1 with e1
    subst e1; subst e2; subst e3
    rw [Nat.mul_one] at h5 h6
    exact ⟨cur, h2, h1, rfl, h3, h4, h5, h6⟩
theorem splice_bytes {cur : List Value} {n k : Nat} {l m : List UInt8} (h : cur.take n = bvs l) (hn : n = l.length) (hk : k + m.length ≤ n) (hc : n ≤ cur.length) : (splice cur k (bvs m)).take n = bvs (l.take k ++ (m ++ l.drop (k + m.length))) := by
  have hm := bvs_length m
  have e : cur.take k = bvs (l.take k) := by
    have h2 := congrArg (List.take k) h
    rw [List.take_take, Nat.min_eq_left (by omega)] at h2
    rw [h2, bvs, bvs, List.map_take]
  have e2 : (cur.drop (k + m.length)).take (n - (k + m.length)) = bvs (l.drop (k + m.length)) := by
    have h2 := congrArg (List.drop (k + m.length)) h
    rw [List.drop_take] at h2
    rw [h2, bvs, bvs, List.map_drop]
  have e3 : (splice cur k (bvs m)).take n = cur.take k ++ (bvs m ++ (cur.drop (k + m.length)).take (n - (k + m.length))) := by
    have hl : (cur.take k ++ bvs m).length = k + m.length := by rw [List.length_append, List.length_take, hm]; omega
    have h3 := List.take_length_add_append (l₁ := cur.take k ++ bvs m) (l₂ := cur.drop (k + m.length)) (n - (k + m.length))
    rw [hl, show k + m.length + (n - (k + m.length)) = n by omega, List.append_assoc, List.append_assoc] at h3
    rw [splice, hm]
    exact h3
  rw [e3, e, e2, bvs_append, bvs_append]
/-- copy of bytes into a row of a block's own, behind its first k -/
theorem copy_B {w : World} {ops : Array Oper} {rest : List Oper} {o : Oper} {a : Act} {Q : Exit → Act → World → Prop} (hgd : o.guard = none) (d s : Operand)
    (ho : o.op = .call { callee := .builtin .copy, args := #[d, s], argTypes := #[30, 30] })
    {base g n c k dLen dCap : Nat} {dp : Option Addr} {l m : List UInt8} {F : Nat → Prop} {y : Value} (hown : OwnB w base (.slice (some ⟨g, 0, none⟩) n c) l)
    (hd : a.eval d = .slice dp dLen dCap) (hy : a.eval s = y) (hr : RdB w F y m) (hk : k + m.length ≤ n) (hml : m.length ≤ dLen) (hpos : 0 < m.length → dp = some ⟨g, k, none⟩)
    (h : ∀ w', OwnB w' base (.slice (some ⟨g, 0, none⟩) n c) (l.take k ++ (m ++ l.drop (k + m.length))) → Chg (fun b => b = g) w w' → w'.heap.size = w.heap.size → wpList Tryz.prog ops Q rest (a.put o.dst (goInt (bvs m).length)) w') : wpList Tryz.prog ops Q (o :: rest) a w := by
  obtain ⟨cur, h1, h2, h3, h4, h5, h6, h7⟩ := hown.row
  obtain ⟨A, c2, rfl, hc2, hm2⟩ := hr.shape
  have hmb := bvs_length m
  by_cases h0 : 0 < m.length
  · obtain ⟨ad, rfl, _, hcs⟩ := RdV.cells hr h0
    have hdp := hpos h0
    subst hdp
    have hcl : cur.toList.length = c := by rw [Array.length_toList]; exact h6
    have hfit : k + (bvs m).length ≤ cur.size := by omega
    refine wpList_copy_own hgd d s 30 30 ho 5 Tryz.underlying30 (by kernel_rfl) g k dLen dCap ad m.length c2 hd hy cur 5 h1 (bvs m) (by rw [hmb]; exact (Nat.min_eq_left hml).symm) hcs hfit (bvs_one m) ?_
    have hsl : (splice cur.toList k (bvs m)).length = c := by rw [length_splice _ _ _ (by rw [hmb, hcl]; omega), hcl]
    have e : (List.take k l ++ (m ++ List.drop (k + m.length) l)).length = n := by rw [List.length_append, List.length_append, List.length_take, List.length_drop]; omega
    have hrow := setRow_heap w g cur (splice cur.toList k (bvs m)).toArray 5 (0, 0) h1
    refine h (w.setRow g (splice cur.toList k (bvs m)).toArray) ⟨?_, .inr ⟨g, c, (splice cur.toList k (bvs m)).toArray, ?_, h2, hrow, by rw [e]; exact h4, h5, by rw [List.size_toArray, hsl, Nat.mul_one], ?_⟩⟩ ⟨rfl, rfl, rfl, by simp [World.setRow], fun b _ hne => setRow_other w g b _ hne⟩ (by simp [World.setRow])
    · rw [bvs_length, Nat.mul_one]
    · rw [e]
    · rw [List.toList_toArray, Nat.mul_one, e]
      exact splice_bytes h7 h3 hk (by omega)
  · have hm0 : m = [] := List.eq_nil_of_length_eq_zero (by omega)
    subst hm0
    refine wpList_copy_nothing hgd d s 30 30 ho 5 Tryz.underlying30 (by kernel_rfl) dp A dLen dCap 0 c2 hd hy (Nat.zero_min _) ?_
    refine h w ?_ (Chg.refl _ _) rfl
    simpa using hown
theorem mk_files (w : World) (n : Nat) (h : n ≤ 100000000000000) : (Instr.makeSlice 30 (.int .i64 (n : Int)) (.int .i64 (n : Int))).run Tryz.prog w = .ok (.slice (some ⟨w.heap.size, 0, none⟩) n n) (w.alloc (.cells (madeCells #[.int .u8 0] n) 5)) := by
  obtain ⟨i, hi, hz, h1, h2⟩ := info_parts info_u8
  have h := run_make (P := Tryz.prog) w 30 5 i _ Tryz.underlying30 hi hz .i64 .i64 n n (by omega) (Int.le_refl _) (by rw [h2]; omega) (by omega)
  rw [h1, Int.toNat_natCast, Nat.mul_one] at h
  exact h
theorem own_files (w : World) (n : Nat) (h : n ≤ 100000000000000) : OwnB (w.alloc (.cells (madeCells #[.int .u8 0] n) 5)) w.heap.size (.slice (some ⟨w.heap.size, 0, none⟩) n n) (List.replicate n 0) := by
  have h1 := World.ownsRow_lit (base := w.heap.size) (e := 5) (size := 1) w (madeCells #[.int .u8 0] n) n (Nat.le_refl _) (by simp only [maxLen]; omega) (by rw [size_madeCells]; omega)
  unfold OwnB
  rw [List.length_replicate]
  have e : (madeCells #[Value.int .u8 0] n).toList = bvs (List.replicate n 0) := by
    rw [toList_madeCells_one]
    simp [bvs, bv]
  rw [e] at h1
  exact h1

/-- 'b[k:]' of a row of a block's own -/
theorem cut_own (g k n : Nat) : ∃ dp : Option Addr, (0 < n → dp = some ⟨g, k, none⟩) ∧ ∀ w' : World, (Instr.slice 30 (.slice (some ⟨g, 0, none⟩) (k + n) (k + n)) (some (.int .i64 (k : Int))) none none).run Tryz.prog w' = .ok (.slice dp n n) w' := by
  refine ⟨if k + n = k then some ⟨g, 0, none⟩ else (some (⟨g, 0, none⟩ : Addr)).map (·.add (k * 1)), fun h => ?_, fun w' => ?_⟩
  · rw [if_neg (by omega), Nat.mul_one, Option.map_some, add_none, Nat.zero_add]
  · rw [run_slice_l (P := Tryz.prog) w' 30 _ (k + n) (k + n) under_elem8 .i64 (k : Int) (by omega) (by omega), size_u8]
    simp only [Result.andThen, sliced, Int.toNat_natCast, Nat.add_sub_cancel_left]
end Go.Proofs.YtliimeoblffigaaGreat

set_option maxRecDepth 100000
namespace Go.Proofs.YtliimeoblffigaaGreat
open Go.RowKit Go.Maps
set_option linter.unusedVariables false

theorem take_repl (n m : Nat) : (List.replicate m (0 : UInt8)).take n = List.replicate (min n m) 0 := List.take_replicate ..
theorem drop_repl (n m : Nat) : (List.replicate m (0 : UInt8)).drop n = List.replicate (m - n) 0 := List.drop_replicate ..
theorem wr_eq {old d : List UInt8} {a L : Nat} (hL : L = max old.length (a + d.length)) :
    (old ++ List.replicate (L - old.length) 0).take a ++ (d ++ (old ++ List.replicate (L - old.length) 0).drop (a + d.length)) = wrL old a d := by
  rw [List.take_append, List.drop_append, take_repl, drop_repl, wrL, show min (a - old.length) (L - old.length) = a - old.length by omega, show L - old.length - (a + d.length - old.length) = 0 by omega]
  simp
/-- a write as a value -/
def wrV (s : ByteArray) (a : Nat) (d : Value) : Value := .agg #[.string s, .int .i64 (a : Int), d]

set_option maxHeartbeats 1000000 in
theorem dgWrUnits {w : World} {F : Nat → Prop} {dv : Value} {l : List UInt8} {a : Nat} {s : ByteArray} (h : RdB w F dv l) (hl : l.length ≤ 1000000000) :
    Calls Tryz.prog 270 #[wrV s a dv] w fun e w' => e = .returned (.int .i64 ((l.length : Int) + 1)) ∧ Chg Non w w' := by
  obtain ⟨A, c, rfl, hc, hm⟩ := h.shape
  unfold maxLen at hm
  unfold wrV
  have hwr : IntKind.i64.wrap ((l.length : Int) + 1) = (l.length : Int) + 1 := IntWalk.i64_in _ (by omega)
  go_enter Tryz.func270, Tryz.ntmps270
  go_wp2_with fail
  go_ret
  exact ⟨rfl, (Chg.refl Non w).alloc _⟩

set_option maxHeartbeats 2000000 in
theorem dgWrDo {w : World} {sup : List Nm} {F G : Nat → Prop} {B : Nat} {f : Fls} {dv : Value} {data : List UInt8} {a n : Nat} {s : ByteArray} (hs : s.size ≤ 1000) (hsup : s.data.toList ∈ sup) (hm : FsAt w sup F (.map (some B)) f) (hsl : sup.length ≤ 1000000) (hF : ∀ b, F b → b ≠ B) (hd : RdB w G dv data) (hG : ∀ b, G b → b ≠ B)
    (hn : n ≤ data.length) (hsz : a + data.length ≤ 1000000000) (hol : ((f s.data.toList).getD []).length ≤ 1000000000) :
    Calls Tryz.prog 269 #[wrV s a dv, .map (some B), .int .i64 ((n : Int) + 1)] w fun e w' =>
      e = .returned (.tuple #[]) ∧ FsAt w' sup (fun b => F b ∨ (w.heap.size ≤ b ∧ b < w'.heap.size)) (.map (some B)) ((Deed.wr s.data.toList a data).app f (n + 1)) ∧ Chg (fun k => k = B) w w' := by
  obtain ⟨A, c, rfl, hc, hmm⟩ := hd.shape
  unfold maxLen at hmm
  have hso : s.size ≤ maxLen := by unfold maxLen; omega
  obtain ⟨l, hl, rfl⟩ := hm
  have hB0 := hl.lt rfl
  replace hl := hl.fix
  obtain ⟨x, hx, hlk⟩ := hl.look s hso
  obtain ⟨old, hold⟩ : ∃ old, old = (fOf l s.data.toList).getD [] := ⟨_, rfl⟩
  rw [← hold] at hx hol
  have HOLD := hide hold
  obtain ⟨Ao, co, rfl, hco, hmo⟩ := hx.shape
  unfold maxLen at hmo
  have HSUP := hide hsup
  have HSL := hide hsl
  clear hold hsup hsl
  unfold wrV
  go_enter Tryz.func269, Tryz.ntmps269
  go_upto_region 2 with fail
  have hcb := (Chg.refl Non w).alloc (.cells #[.string s, .int .i64 (a : Int), .slice A data.length c] 331)
  have hcell := Blk.new w 331 #[.string s, .int .i64 (a : Int), .slice A data.length c]
  have hbs : (w.alloc (.cells #[.string s, .int .i64 (a : Int), .slice A data.length c] 331)).heap.size = w.heap.size + 1 := by simp
  have hlkb := (hlk _ hcb).1
  generalize w.alloc (.cells #[.string s, .int .i64 (a : Int), .slice A data.length c] 331) = wb at hcb hcell hbs hlkb ⊢
  have hk0 := hcell.cell 0
  have hk1 := hcell.cell 1
  simp at hk0 hk1
  have hlb := hl.chg hcb (fun _ _ h => h) (fun _ _ h => h)
  have hob := hx.c0 hcb
  have hdn := ((hd.front hn).lt).c0 hcb
  have hml : (data.take n).length = n := by rw [List.length_take]; omega
  obtain ⟨L, hL⟩ : ∃ L, L = max old.length (a + n) := ⟨_, rfl⟩
  have hmk : ∀ w, (Instr.makeSlice 30 (.int .i64 (L : Int)) (.int .i64 (L : Int))).run Tryz.prog w = .ok (.slice (some ⟨w.heap.size, 0, none⟩) L L) (w.alloc (.cells (madeCells #[.int .u8 0] L) 5)) := fun w => mk_files w L (by omega)
  have hmx : max (old.length : Int) ((a : Int) + (n : Int)) = (L : Int) := by omega
  have hwr : IntKind.i64.wrap ((a : Int) + (n : Int)) = (a : Int) + (n : Int) := IntWalk.i64_in _ (by omega)
  have hLa : a + n ≤ L := by omega
  have hLo : old.length ≤ L := by omega
  have hLm : L ≤ 2000000000 := by omega
  have HL := hide hL
  clear hL hcell hx hl hd hlk
  go_upto_region 4 with fail
  have hown := own_files wb L (by omega)
  have hcn := (Chg.refl Non wb).alloc (.cells (madeCells #[.int .u8 0] L) 5)
  have hsz2 : (wb.alloc (.cells (madeCells #[.int .u8 0] L) 5)).heap.size = wb.heap.size + 1 := by simp
  generalize wb.alloc (.cells (madeCells #[.int .u8 0] L) 5) = w2 at hown hcn hsz2 ⊢
  have hob2 := hob.c0 hcn
  have hdn2 := hdn.c0 hcn
  have hlb2 := hlb.chg hcn (fun _ _ h => h) (fun _ _ h => h)
  have hc1 := hcn.cell hk1 (fun h => h)
  have hc0 := hcn.cell hk0 (fun h => h)
  rw [hbs] at hown hsz2
  obtain ⟨LA, hLA⟩ : ∃ LA, L = a + LA := ⟨L - a, by omega⟩
  obtain ⟨dp, hdp, hcut⟩ := cut_own (w.heap.size + 1) a LA
  rw [← hLA] at hcut
  have hLA1 : n ≤ LA := by omega
  have HLA := hide hLA
  clear hob hdn hlb hk0 hk1 hlkb hmk hmx hwr hbs hLA
  go_upto_region 5 with (refine copy_B rfl _ _ rfl hown rfl rfl hob2 (k := 0) (by omega) (by omega) (fun _ => rfl) ?_; intro w3 hown3 hc3 hsz3)
  have hBne : B ≠ w.heap.size + 1 := by omega
  have hdn3 := hdn2.chg hc3 fun b hb e => by have := hb.2; omega
  have hlb3 := hlb2.chg hc3 (fun b hb e => by have := hb.2; omega) (fun B' e e2 => by injection e with e; injection e with e; omega)
  have hd1 := hc3.cell hc1 (by simp)
  have hd0 := hc3.cell hc0 (by simp)
  rw [hsz2] at hsz3
  have hl3 : (List.take 0 (List.replicate L (0 : UInt8)) ++ (old ++ List.drop (0 + old.length) (List.replicate L 0))) = old ++ List.replicate (L - old.length) 0 := by
    rw [List.take_zero, List.nil_append, Nat.zero_add, drop_repl]
  rw [hl3] at hown3
  have hL3 : (old ++ List.replicate (L - old.length) (0 : UInt8)).length = L := by rw [List.length_append, List.length_replicate]; omega
  clear hown hob2 hdn2 hlb2 hc1 hc0 hl3
  go_upto_region 6 with (refine copy_B rfl _ _ rfl hown3 rfl rfl hdn3 (k := a) (by rw [hml]; exact hLa) (by rw [hml]; exact hLA1) (fun h => hdp (by rw [hml] at h; omega)) ?_; intro w4 hown4 hc4 hsz4)
  have hlb4 := hlb3.chg hc4 (fun b hb e => by have := hb.2; omega) (fun B' e e2 => by injection e with e; injection e with e; omega)
  have he0 := hc4.cell hd0 (by simp)
  rw [wr_eq (old := old) (d := List.take n data) (a := a) (L := L) (by rw [hml]; exact HL.out)] at hown4
  have hcw : Chg Non w w4 := ((hcb.trans0 hcn).trans hc3 fun b hb e => by omega).trans hc4 fun b hb e => by omega
  have hll : l.length < maxLen := by have := hlb4.len; have := HSL.out; unfold maxLen; omega
  have hmap4 := hlb4.map
  obtain ⟨B', hB', hmm4⟩ : ∃ B', Value.map (some B) = .map (some B') ∧ w4.ownsMap Tryz.prog 9 heldR B' l.length (datS l) := by
    rcases hmap4 with ⟨e, _⟩ | h
    · cases e
    · exact h
  injection hB' with hB'
  injection hB' with hB'
  subst hB'
  have HFL := hide hlb4
  clear hown3 hdn3 hlb3 hd1 hd0 hcut hc3 hc4 hlb4 hmap4 hL3
  go_wp2_with (at_mapUpdate; refine wpList_mapUpdate_own _ rfl _ _ _ 175 rfl 9 30 keyF Tryz.underlying175 heldR B l.length _ rfl hmm4 hll _ _ (klS s.data.toList) rfl rfl (keyOf_s s hso) _ [] rfl ?_; intro w5 hm5 hg5)
  have hc5 : Chg (fun k => k = B) w4 w5 := (Chg.of_grown hg5).mono fun b _ e => by injection e
  have h5 := (HFL.out.mono (F' := fun b => (F b ∨ w.heap.size ≤ b ∧ b < w4.heap.size) ∧ b ≠ B) fun b hb => ⟨.inl hb.1, hF b hb.1⟩).put (fun b hb => hb.2) hc5 HSUP.out (x := .slice (some ⟨w.heap.size + 1, 0, none⟩) L L) (b := wrL old a (data.take n)) (hown4.rd.mono fun b hb => by
    have := hown4.lt b hb
    exact ⟨.inr ⟨by omega, this.2⟩, by omega⟩) hm5
  refine bodyPost_end (results_none rfl _ _ _) rfl ⟨rfl, ⟨_, h5.mono fun b hb => ?_, ?_⟩, (hcw.mono fun _ _ h => h.elim).trans hc5 fun _ _ h => h⟩
  · rcases hb.1 with h | h
    · exact .inl h
    · exact .inr ⟨h.1, Nat.lt_of_lt_of_le h.2 hc5.size⟩
  · rw [fOf_put HFL.out.once]
    show setF (fOf l) s.data.toList (some (wrL ((fOf l s.data.toList).getD []) a (data.take (n + 1 - 1)))) = _
    rw [Nat.add_sub_cancel, ← HOLD.out]

end Go.Proofs.YtliimeoblffigaaGreat

