/- What a drive is in memory; deeds as values. Plain theorems, no walk. -/
import Derived.Test.YtliimeoblffigaaGreatDgAG
import Derived.Test.YtliimeoblffigaaGreatProg
import Derived.Shelf.SlMaps.Clone
import Derived.Lib.Bytealg
set_option linter.unusedVariables false
set_option linter.unusedSimpArgs false
set_option maxRecDepth 100000
namespace Go.Proofs.YtliimeoblffigaaGreat
open Go.RowKit Go.Maps
set_option linter.unusedVariables false

/-- a drive as data -/
structure DSt where
 safe : Fls
 seen : Fls
 queue : List Deed
 arm : Option Nat
 dead : Bool
/-- a deed as a value -/
def DeedV (w : World) (F : Nat → Prop) : Value → Deed → Prop
 | x, .wr n a d => ∃ (s : ByteArray) (dv : Value), x = .iface 331 (.agg #[.string s, .int .i64 (a : Int), dv]) ∧ s.data.toList = n ∧ s.size ≤ 1000 ∧ RdB w F dv d
 | _, .mv _ _ => False
 | _, .rm _ => False
 | _, .tr _ _ => False
/-- the queue in memory -/
def QAt (w : World) (F : Nat → Prop) (v : Value) (q : List Deed) : Prop :=
 ∃ xs : List Value, xs.length = q.length ∧ RdV w F 1 v q.length xs ∧ ∀ (i : Nat) (x : Value) (d : Deed), xs[i]? = some x → q[i]? = some d → DeedV w F x d
section
variable {w w' : World} {F F' S : Nat → Prop} {v x : Value} {d : Deed} {q : List Deed}
theorem DeedV.chg (h : DeedV w F x d) (hc : Chg S w w') (hF : ∀ b, F b → ¬ S b) : DeedV w' F x d := by
 cases d with
 | wr n a d => obtain ⟨s, dv, h1, h2, h3, h4⟩ := h; exact ⟨s, dv, h1, h2, h3, h4.chg hc hF⟩
 | mv a b => exact h
 | rm n => exact h
 | tr n s => exact h
theorem DeedV.mono (h : DeedV w F x d) (hF : ∀ b, F b → F' b) : DeedV w F' x d := by
 cases d with
 | wr n a d => obtain ⟨s, dv, h1, h2, h3, h4⟩ := h; exact ⟨s, dv, h1, h2, h3, h4.mono hF⟩
 | mv a b => exact h
 | rm n => exact h
 | tr n s => exact h
theorem QAt.chg (h : QAt w F v q) (hc : Chg S w w') (hF : ∀ b, F b → ¬ S b) : QAt w' F v q := by
 obtain ⟨xs, h1, h2, h3⟩ := h
 exact ⟨xs, h1, h2.chg hc hF, fun i x d hx hd => (h3 i x d hx hd).chg hc hF⟩
theorem QAt.mono (h : QAt w F v q) (hF : ∀ b, F b → F' b) : QAt w F' v q := by
 obtain ⟨xs, h1, h2, h3⟩ := h
 exact ⟨xs, h1, h2.mono hF, fun i x d hx hd => (h3 i x d hx hd).mono hF⟩
theorem QAt.nil_ (w : World) (F : Nat → Prop) : QAt w F nilS [] := ⟨[], rfl, RdV.nil_ w F 1, fun i x d hx _ => by simp at hx⟩
end
/-- the drive at block g is S; all that it looks at lies in T -/
structure DrvM (w : World) (sup : List Nm) (T : Nat → Prop) (g : Nat) (S : DSt) (sv nv qv : Value) (lv : Int) (F : Nat → Prop) : Prop where
 blk : Blk w g 178 #[sv, nv, qv, .int .i64 1073741824, .bool S.arm.isSome, .int .i64 lv, .bool S.dead]
 arm : ∀ n, S.arm = some n → lv = (n : Int) ∧ n ≤ 1000000
 s : FsAt w sup F sv S.safe
 n : FsAt w sup F nv S.seen
 qu : QAt w F qv S.queue
 tg : T g
 ts : ∀ B, sv = .map (some B) → T B
 tn : ∀ B, nv = .map (some B) → T B
 sep : ∀ B, sv = .map (some B) → nv ≠ .map (some B)
 f : ∀ b, F b → T b ∧ b ≠ g ∧ sv ≠ .map (some b) ∧ nv ≠ .map (some b)
 lt : ∀ b, T b → b < w.heap.size
def DrvAt (w : World) (sup : List Nm) (T : Nat → Prop) (g : Nat) (S : DSt) : Prop := ∃ sv nv qv lv F, DrvM w sup T g S sv nv qv lv F
/-- T and what was made between two worlds -/
def Ext (T : Nat → Prop) (w w' : World) : Nat → Prop := fun b => T b ∨ (w.heap.size ≤ b ∧ b < w'.heap.size)
section
variable {w w' w'' : World} {sup : List Nm} {T T' S' F : Nat → Prop} {g : Nat} {S : DSt} {sv nv qv : Value} {lv : Int}
theorem FsAt.chg {v : Value} {f : Fls} {S : Nat → Prop} (h : FsAt w sup F v f) (hc : Chg S w w') (hF : ∀ b, F b → ¬ S b) (hB : ∀ B, v = .map (some B) → ¬ S B) : FsAt w' sup F v f := by
 obtain ⟨l, h, e⟩ := h
 exact ⟨l, h.chg hc hF hB, e⟩
theorem FsAt.mono {v : Value} {f : Fls} {F' : Nat → Prop} (h : FsAt w sup F v f) (hF : ∀ b, F b → F' b) : FsAt w sup F' v f := by
 obtain ⟨l, h, e⟩ := h
 exact ⟨l, h.mono hF, e⟩
theorem DrvM.chg (h : DrvM w sup T g S sv nv qv lv F) (hc : Chg S' w w') (hT : ∀ b, T b → ¬ S' b) : DrvM w' sup T g S sv nv qv lv F :=
 ⟨h.blk.chg hc (hT _ h.tg), h.arm, h.s.chg hc (fun b hb => hT b (h.f b hb).1) (fun B e => hT B (h.ts B e)), h.n.chg hc (fun b hb => hT b (h.f b hb).1) (fun B e => hT B (h.tn B e)), h.qu.chg hc (fun b hb => hT b (h.f b hb).1), h.tg, h.ts, h.tn, h.sep, h.f, fun b hb => Nat.lt_of_lt_of_le (h.lt b hb) hc.size⟩
theorem DrvM.c0 (h : DrvM w sup T g S sv nv qv lv F) (hc : Chg Non w w') : DrvM w' sup T g S sv nv qv lv F := h.chg hc fun _ _ h => h
theorem DrvM.up (h : DrvM w sup T g S sv nv qv lv F) (hT : ∀ b, T b → T' b) (hl : ∀ b, T' b → b < w.heap.size) : DrvM w sup T' g S sv nv qv lv F :=
 ⟨h.blk, h.arm, h.s, h.n, h.qu, hT _ h.tg, fun B e => hT B (h.ts B e), fun B e => hT B (h.tn B e), h.sep, fun b hb => ⟨hT b (h.f b hb).1, (h.f b hb).2⟩, hl⟩
theorem DrvAt.chg (h : DrvAt w sup T g S) (hc : Chg S' w w') (hT : ∀ b, T b → ¬ S' b) : DrvAt w' sup T g S := by
 obtain ⟨sv, nv, qv, lv, F, h⟩ := h
 exact ⟨sv, nv, qv, lv, F, h.chg hc hT⟩
theorem DrvAt.c0 (h : DrvAt w sup T g S) (hc : Chg Non w w') : DrvAt w' sup T g S := h.chg hc fun _ _ h => h
theorem DrvAt.up (h : DrvAt w sup T g S) (hT : ∀ b, T b → T' b) (hl : ∀ b, T' b → b < w.heap.size) : DrvAt w sup T' g S := by
 obtain ⟨sv, nv, qv, lv, F, h⟩ := h
 exact ⟨sv, nv, qv, lv, F, h.up hT hl⟩
theorem DrvAt.lt (h : DrvAt w sup T g S) {b : Nat} (hb : T b) : b < w.heap.size := by
 obtain ⟨sv, nv, qv, lv, F, h⟩ := h
 exact h.lt b hb
theorem Ext.trans {b : Nat} (h12 : w.heap.size ≤ w'.heap.size) (h23 : w'.heap.size ≤ w''.heap.size) (h : Ext (Ext T w w') w' w'' b) : Ext T w w'' b := by
 rcases h with (h | h) | h
 ·exact .inl h
 ·exact .inr ⟨h.1, by omega⟩
 ·exact .inr ⟨by omega, h.2⟩
theorem Ext.up {b : Nat} (h : Ext T w w' b) (h23 : w'.heap.size ≤ w''.heap.size) : Ext T w w'' b := by
 rcases h with h | h
 ·exact .inl h
 ·exact .inr ⟨h.1, by omega⟩
theorem Ext.back {b : Nat} (h : Ext T w' w'' b) (h12 : w.heap.size ≤ w'.heap.size) : Ext T w w'' b := by
 rcases h with h | h
 ·exact .inl h
 ·exact .inr ⟨by omega, h.2⟩
theorem Ext.lt (hT : ∀ b, T b → b < w.heap.size) (h12 : w.heap.size ≤ w'.heap.size) : ∀ b, Ext T w w' b → b < w'.heap.size := fun b hb => by
 rcases hb with h | h
 ·exact Nat.lt_of_lt_of_le (hT b h) h12
 ·exact h.2
end
end Go.Proofs.YtliimeoblffigaaGreat

set_option maxRecDepth 100000
namespace Go.Proofs.YtliimeoblffigaaGreat
open Go.RowKit

theorem info_u8 : (Tryz.prog.info? 5).map (fun i => (i.zero, i.size, i.bytes)) = some (some (.int .u8 0), 1, 1) := by kernel_rfl

/-- append of bytes onto bytes that the call owns -/
theorem append_B {w : World} {ops : Array Oper} {rest : List Oper} {o : Oper} {a : Act} {Q : Exit → Act → World → Prop} (hgd : o.guard = none) (s x : Operand)
  (ho : o.op = .call { callee := .builtin .append, args := #[s, x], argTypes := #[30, 30] })
  {base : Nat} {v : Value} {l : List UInt8} (hown : OwnB w base v l) (hv : a.eval s = v)
  {y : Value} {F : Nat → Prop} {m : List UInt8} (hr : RdB w F y m) (hy : a.eval x = y)
  (hb : l.length + m.length ≤ 140737488355328) (hbase : base ≤ w.heap.size)
  (h : ∀ v' w', OwnB w' base v' (l ++ m) → w.grownBy w' v.ownBlock → (v'.ownBlock = v.ownBlock ∨ v'.ownBlock = some w.heap.size) → wpList Tryz.prog ops Q rest (a.put o.dst v') w') : wpList Tryz.prog ops Q (o :: rest) a w := by
 obtain ⟨i, hi, hz, h1, h2⟩ := info_parts info_u8
 refine wpList_append_rd w hgd s x _ ho base 5 i _ 1 1 Tryz.underlying30 hi hz h1 h2 rfl (by omega) v hv _ _ hown F y hy _ _ hr (bvs_one m) (by simp only [maxLen]; omega) (by omega) hbase ?_
 intro v' w' hown' hg _ hat
 refine h v' w' ?_ hg hat
 unfold OwnB
 rw [List.length_append, bvs_append]
 exact hown'

/-- the same in a region that draws its order -/
theorem step_B {w : World} {ops : Array Oper} {o : Oper} {a : Act} {K : Act → World → Prop} {Q : Exit → Act → World → Prop} {E : Prop} (hgd : o.guard = none) (s x : Operand)
  (ho : o.op = .call { callee := .builtin .append, args := #[s, x], argTypes := #[30, 30] })
  {base : Nat} {v : Value} {l : List UInt8} (hown : OwnB w base v l) (hv : a.eval s = v)
  {y : Value} {F : Nat → Prop} {m : List UInt8} (hr : RdB w F y m) (hy : a.eval x = y)
  (hb : l.length + m.length ≤ 140737488355328) (hbase : base ≤ w.heap.size)
  (h : ∀ v' w', OwnB w' base v' (l ++ m) → w.grownBy w' v.ownBlock → (v'.ownBlock = v.ownBlock ∨ v'.ownBlock = some w.heap.size) → K (a.put o.dst v') w') :
  if Region.wanted o (yielded ops a.tmps) = true then Oper.wp Tryz.prog o a w K Q else E := by
 have hw : Region.wanted o (yielded ops a.tmps) = true := by simp [Region.wanted, hgd]
 rw [if_pos hw]
 subst hv; subst hy
 obtain ⟨i, hi, hz, h1, h2⟩ := info_parts info_u8
 refine wp_append_rd w s x _ ho base 5 i _ 1 1 Tryz.underlying30 hi hz h1 h2 rfl (by omega) _ _ hown F _ _ hr (bvs_one m) (by simp only [maxLen]; omega) (by omega) hbase ?_
 intro v' w' hown' hg _ hat
 refine h v' w' ?_ hg hat
 unfold OwnB
 rw [List.length_append, bvs_append]
 exact hown'

/-- one new byte, as a slice literal -/
theorem own_one (w : World) (b : UInt8) (n : Int) (hn : n = (b.toNat : Int)) : OwnB (w.alloc (.cells #[.int .u8 n] 5)) w.heap.size (.slice (some ⟨w.heap.size, 0, none⟩) 1 1) [b] := by
 subst hn
 exact World.ownsRow_lit (size := 1) w #[bv b] 1 (Nat.le_refl _) (by simp [maxLen]) rfl
/-- the empty literal '[]byte{}' -/
theorem own_zero (w : World) : OwnB (w.alloc (.cells #[] 5)) w.heap.size (.slice (some ⟨w.heap.size, 0, none⟩) 0 0) [] :=
 World.ownsRow_lit (size := 1) w #[] 0 (Nat.le_refl _) (by simp [maxLen]) rfl
theorem Chg.own {S : Nat → Prop} {a w w' : World} {v : Value} (h : Chg S a w) (hg : w.grownBy w' v.ownBlock) (hb : ∀ k, v.ownBlock = some k → a.heap.size ≤ k) : Chg S a w' :=
 h.grown hg fun k hk hlt => absurd (hb k hk) (by omega)
end Go.Proofs.YtliimeoblffigaaGreat

set_option maxRecDepth 100000
namespace Go.Proofs.YtliimeoblffigaaGreat
open Go.RowKit Go.Maps
set_option linter.unusedVariables false

end Go.Proofs.YtliimeoblffigaaGreat

set_option maxRecDepth 100000
namespace Go.Proofs.YtliimeoblffigaaGreat

abbrev cmpB := Lib.compareBytes

theorem cmpB_cons (a b : UInt8) (s t : List UInt8) : cmpB (a :: s) (b :: t) = if a < b then -1 else if b < a then 1 else cmpB s t := rfl

theorem cmpB_drop (xs ys : List UInt8) (k : Nat) (h1 : k < xs.length) (h2 : k < ys.length) :
  cmpB (xs.drop k) (ys.drop k) = if xs[k] < ys[k] then -1 else if ys[k] < xs[k] then 1 else cmpB (xs.drop (k+1)) (ys.drop (k+1)) := by
 rw [List.drop_eq_getElem_cons h1, List.drop_eq_getElem_cons h2, cmpB_cons]

theorem cmpB_end (xs ys : List UInt8) (k : Nat) (hk : k ≤ xs.length) (hk' : k ≤ ys.length) (h : ¬ (k < xs.length ∧ k < ys.length)) :
  cmpB (xs.drop k) (ys.drop k) = if xs.length < ys.length then -1 else if ys.length < xs.length then 1 else 0 := by
 rcases Nat.lt_or_ge k xs.length with h1 | h1
 ·have h2 : k = ys.length := by omega
  subst h2
  rw [List.drop_eq_getElem_cons h1, List.drop_length, if_neg (by omega), if_pos h1]
  rfl
 ·have h2 : k = xs.length := by omega
  subst h2
  rw [List.drop_length]
  rcases Nat.lt_or_ge xs.length ys.length with h3 | h3
  ·rw [List.drop_eq_getElem_cons h3, if_pos h3]; rfl
  ·have : xs.length = ys.length := by omega
   rw [List.drop_of_length_le (by omega)]; simp [Lib.compareBytes, this]

theorem cmpB_refl : ∀ s : List UInt8, cmpB s s = 0
 | [] => rfl
 | a :: s => by rw [cmpB_cons, if_neg (UInt8.lt_irrefl a), if_neg (UInt8.lt_irrefl a)]; exact cmpB_refl s

theorem cmpB_eq_zero : ∀ s t : List UInt8, cmpB s t = 0 ↔ s = t
 | [], [] => by simp [Lib.compareBytes]
 | [], _ :: _ => by simp [Lib.compareBytes]
 | _ :: _, [] => by simp [Lib.compareBytes]
 | a :: s, b :: t => by
  rw [cmpB_cons]
  by_cases h : a < b
  ·rw [if_pos h]; constructor
   ·intro h'; omega
   ·intro h'; injection h' with h1 h2; subst h1; exact absurd h (UInt8.lt_irrefl a)
  ·rw [if_neg h]
   by_cases h2 : b < a
   ·rw [if_pos h2]; constructor
    ·intro h'; omega
    ·intro h'; injection h' with h1 h3; subst h1; exact absurd h2 (UInt8.lt_irrefl _)
   ·rw [if_neg h2, cmpB_eq_zero s t]
    have : a = b := by
     apply UInt8.toNat_inj.1
     simp only [UInt8.lt_iff_toNat_lt] at h h2
     omega
    subst this
    simp

theorem cmpB_neg : ∀ s t : List UInt8, cmpB t s = - cmpB s t
 | [], [] => rfl
 | [], _ :: _ => rfl
 | _ :: _, [] => rfl
 | a :: s, b :: t => by
  rw [cmpB_cons, cmpB_cons]
  by_cases h : a < b
  ·have h2 : ¬ b < a := fun h2 => by simp only [UInt8.lt_iff_toNat_lt] at h h2; omega
   rw [if_neg h2, if_pos h, if_pos h]; rfl
  ·rw [if_neg h]
   by_cases h2 : b < a
   ·rw [if_pos h2, if_pos h2, if_neg h]
   ·rw [if_neg h2, if_neg h, if_neg h2]; exact cmpB_neg s t

end Go.Proofs.YtliimeoblffigaaGreat

set_option maxRecDepth 100000
namespace Go.Proofs.YtliimeoblffigaaGreat
open Go.RowKit

set_option maxHeartbeats 400000 in
theorem refCopy {v : Value} {l : List UInt8} {F : Nat → Prop} {w : World} (hr : RdB w F v l) (hl : l.length ≤ 140737488355328) :
  Calls Tryz.prog 47 #[v] w fun e w' => ∃ u, e = .returned u ∧ OwnB w' w.heap.size u l ∧ Chg Non w w' := by
 obtain ⟨A, c, rfl, hc, hm⟩ := hr.shape
 go_enter Tryz.func47, Tryz.ntmps47
 go_wp2_with (at_builtin; refine append_B rfl _ _ rfl (own_zero w) rfl (hr.chg ((Chg.refl Non w).alloc _) (fun _ _ h => h)) rfl (by simpa using hl) (by simp) ?_; intro v1 w1 hown1 hg1 hat1)
 go_ret
 refine ⟨v1, rfl, hown1, ((Chg.refl Non w).alloc _).own hg1 (by simp [Value.ownBlock])⟩

set_option maxHeartbeats 400000 in
theorem refCmp {v u : Value} {xs ys : List UInt8} {F G : Nat → Prop} {w : World} (ha : RdB w F v xs) (hb : RdB w G u ys) :
  Calls Tryz.prog 48 #[v, u] w fun e w' => e = .returned (.int .i64 (cmpB xs ys)) ∧ ∃ k, w' = w.drewN k := by
 obtain ⟨A, c, rfl, hc, hm⟩ := ha.shape
 obtain ⟨B, d, rfl, hd, hn⟩ := hb.shape
 unfold maxLen at hm hn
 go_enter Tryz.func48, Tryz.ntmps48
 go_wp2
 go_loopw [5] (fun i wr => ∃ k q : Nat, k ≤ xs.length ∧ k ≤ ys.length ∧ i = .int .i64 k ∧ Hid (cmpB xs ys = cmpB (xs.drop k) (ys.drop k)) ∧ wr = w.drewN q) (fun i _ => xs.length - (intOf i).toNat)
 case atStart => exact ⟨0, 0, Nat.zero_le _, Nat.zero_le _, rfl, hide rfl, rfl⟩
 case round =>
  obtain ⟨k, q, hk, hk', rfl, hcm, rfl⟩ := hrel
  by_cases h1 : k < xs.length ∧ k < ys.length
  ·have HS := hide (cmpB_drop xs ys k h1.1 h1.2)
   obtain ⟨h1, h2⟩ := h1
   obtain ⟨ad, rfl, _, hca⟩ := ha.at_ h1
   obtain ⟨bd, rfl, _, hcb⟩ := hb.at_ h2
   go_wp2
   go_quiet (fail)
   go_wp2
   ·go_ret
    refine ⟨ret_int ?_, _, dn2 _ _ _⟩
    rw [hcm.out, HS.out, if_pos (by rw [UInt8.lt_iff_toNat_lt]; omega)]
   ·go_quiet (fail)
    go_wp2
    ·go_ret
     refine ⟨ret_int ?_, _, dn3 _ _ _ _⟩
     rw [hcm.out, HS.out, if_neg (by rw [UInt8.lt_iff_toNat_lt]; omega), if_pos (by rw [UInt8.lt_iff_toNat_lt]; omega)]
    ·go_roundw
     case rel =>
      refine ⟨k + 1, _, by omega, by omega, by go_num, hide ?_, rfl⟩
      rw [hcm.out, HS.out, if_neg (by rw [UInt8.lt_iff_toNat_lt]; omega), if_neg (by rw [UInt8.lt_iff_toNat_lt]; omega)]
     case measure => simp [intOf]; omega
  ·have HS := hide (cmpB_end xs ys k hk hk' h1)
   by_cases h3 : k < xs.length
   all_goals
    go_wp2
    all_goals
     go_ret
     refine ⟨ret_int ?_, _, rfl⟩
     rw [hcm.out, HS.out]
     first | rw [if_pos (by omega)] | rw [if_neg (by omega), if_pos (by omega)] | rw [if_neg (by omega), if_neg (by omega)]
set_option maxHeartbeats 400000 in
theorem refEqual {v u : Value} {xs ys : List UInt8} {F G : Nat → Prop} {w : World} (ha : RdB w F v xs) (hb : RdB w G u ys) :
  Calls Tryz.prog 54 #[v, u] w fun e w' => e = .returned (.bool (decide (xs = ys))) ∧ ∃ k, w' = w.drewN k := by
 go_enter Tryz.func54, Tryz.ntmps54
 go_wp2_with (go_at_call 48; refine (refCmp ha hb).mono ?_; rintro e w' ⟨rfl, k, rfl⟩)
 go_ret
 refine ⟨ret_bool ?_, _, rfl⟩
 rw [Bool.eq_iff_iff]; simp [cmpB_eq_zero]
theorem refEqual_true {v u : Value} {xs : List UInt8} {F G : Nat → Prop} {w : World} (ha : RdB w F v xs) (hb : RdB w G u xs) :
  Calls Tryz.prog 54 #[v, u] w fun e w' => e = .returned (.bool true) ∧ ∃ k, w' = w.drewN k :=
 (refEqual ha hb).mono fun _ _ ⟨h1, h2⟩ => ⟨by simpa using h1, h2⟩
end Go.Proofs.YtliimeoblffigaaGreat

set_option maxRecDepth 100000
namespace Go.Proofs.YtliimeoblffigaaGreat
open Go.RowKit

theorem run_loadBytes {P : Program} {w : World} (ad : Addr) (l : List UInt8) : ∀ (n k : Nat) (acc : ByteArray), k + n = l.length →
  (∀ j, j < l.length → w.cell? (ad.add j) = some (bv (l.getD j 0))) →
  (Extern.Bytes.loadBytes (ad.add k) n acc).run P w = .ok ⟨acc.data ++ (l.drop k).toArray⟩ w
 | 0, k, acc, h, _ => by
  have : l.drop k = [] := List.drop_of_length_le (by omega)
  simp [Extern.Bytes.loadBytes, this]
 | n + 1, k, acc, h, hc => by
  have hk : k < l.length := by omega
  have hcell := hc k hk
  have ih := run_loadBytes (P := P) ad l n (k + 1) (acc.push l[k]) (by omega) hc
  rw [List.getD_eq_getElem?_getD, List.getElem?_eq_getElem hk] at hcell
  have e : l.drop k = l[k] :: l.drop (k + 1) := List.drop_eq_getElem_cons hk
  simp only [Option.getD_some, bv] at hcell
  have hl : (load (ad.add k)).run P w = .ok (.int .u8 (l[k].toNat : Int)) w := by simp [go_sem, hcell]
  unfold Extern.Bytes.loadBytes
  simp only [Sem.run_bind, hl, Result.andThen_ok, add_of_add, Int.toNat_natCast, Nat.toUInt8_eq, UInt8.ofNat_toNat, ih, e]
  congr 1
  simp [ByteArray.push]

theorem run_bytesOf {P : Program} {w : World} {v : Value} {l : List UInt8} {F : Nat → Prop} (h : RdB w F v l) :
  (Extern.Bytes.bytesOf v).run P w = .ok ⟨l.toArray⟩ w := by
 obtain ⟨A, c, rfl, hc, hm⟩ := h.shape
 rcases A with _ | ad
 ·obtain rfl := h.is_nil
  rfl
 ·have := run_loadBytes (P := P) (w := w) ad l l.length 0 .empty (by omega) (fun j hj => by
   obtain ⟨ad', h1, _, h2⟩ := h.at_ hj
   injection h1 with h1; subst h1
   rw [h2, List.getD_eq_getElem?_getD, List.getElem?_eq_getElem hj]; rfl)
  have e0 : ad.add 0 = ad := by simp [Addr.add]
  rw [e0] at this
  show (Extern.Bytes.loadBytes ad l.length .empty).run P w = _
  rw [this]
  simp

theorem run_compareBytes {P : Program} {w : World} {v u : Value} {xs ys : List UInt8} {F G : Nat → Prop} (ha : RdB w F v xs) (hb : RdB w G u ys) :
  (Extern.BytealgCompare.compare #[v, u]).run P w = .ok (.int .i64 (cmpB xs ys)) w := by
 change Sem.run P (do pure (goInt (Extern.BytealgCompare.cmp (← Extern.Bytes.bytesOf v) (← Extern.Bytes.bytesOf u)))) w = _
 simp only [Sem.run_bind, run_bytesOf ha, run_bytesOf hb, Sem.run_pure, Result.andThen]
 rw [Lib.cmp_eq]
 rfl

set_option maxHeartbeats 400000 in
theorem bytesCompare {v u : Value} {xs ys : List UInt8} {F G : Nat → Prop} {w : World} (ha : RdB w F v xs) (hb : RdB w G u ys) :
  Calls Tryz.prog 95 #[v, u] w fun e w' => e = .returned (.int .i64 (cmpB xs ys)) ∧ ∃ k, w' = w.drewN k := by
 go_enter Tryz.func95, Tryz.ntmps95
 go_wp2
 rw [run_callFunc_extern (f := 135) Tryz.func135 (by kernel_rfl) (by kernel_rfl) (by kernel_rfl) (e := Extern.BytealgCompare.compare) (by kernel_rfl), run_compareBytes ha hb]
 simp only [Result.andThen]
 rw [Oper.upon_value]
 go_wp2
 go_ret
 exact ⟨rfl, 0, rfl⟩
set_option maxHeartbeats 400000 in
theorem packCompare {v u : Value} {xs ys : List UInt8} {F G : Nat → Prop} {w : World} (ha : RdB w F v xs) (hb : RdB w G u ys) :
  Calls Tryz.prog 63 #[v, u] w fun e w' => e = .returned (.int .i64 (cmpB xs ys)) ∧ ∃ k, w' = w.drewN k := by
 go_enter Tryz.func63, Tryz.ntmps63
 go_wp2_with (go_at_call 95; refine (bytesCompare ha hb).mono ?_; rintro e w' ⟨rfl, k, rfl⟩)
 go_ret
 exact ⟨rfl, _, rfl⟩
set_option maxHeartbeats 400000 in
theorem bytesClone {v : Value} {l : List UInt8} {F : Nat → Prop} {w : World} (hr : RdB w F v l) (hl : l.length ≤ 140737488355328) :
  Calls Tryz.prog 38 #[v] w fun e w' => ∃ u, e = .returned u ∧ OwnB w' w.heap.size u l ∧ Chg Non w w' := by
 obtain ⟨A, c, rfl, hc, hm⟩ := hr.shape
 rcases A with _ | ad
 ·obtain rfl := hr.is_nil
  have h0 := Lib.run_eql_slice_nil (P := Tryz.prog)
  go_enter Tryz.func38, Tryz.ntmps38
  go_wp2
  go_ret
  exact ⟨_, rfl, OwnB.nil_ _ _, Chg.refl _ _⟩
 ·have h0 := fun w => Lib.run_eql_slice_nil (P := Tryz.prog) w 30 5 (some ad) l.length c 0 0 Tryz.underlying30
  go_enter Tryz.func38, Tryz.ntmps38
  go_wp2_with (at_builtin; refine append_B rfl _ _ rfl (own_zero w) rfl (hr.al _) rfl (by simpa using hl) (by simp) ?_; intro v1 w1 hown1 hg1 hat1)
  go_ret
  exact ⟨v1, rfl, hown1, ((Chg.refl Non w).alloc _).own hg1 (by simp [Value.ownBlock])⟩
set_option maxHeartbeats 400000 in
theorem packAfter {v : Value} {l : List UInt8} {F : Nat → Prop} {w : World} (hr : RdB w F v l) (hl : l.length + 1 ≤ 140737488355328) :
  Calls Tryz.prog 23 #[v] w fun e w' => ∃ u, e = .returned u ∧ OwnB w' w.heap.size u (l ++ [0]) ∧ Chg Non w w' := by
 go_enter Tryz.func23, Tryz.ntmps23
 go_wp2_with fail
 refine (bytesClone hr (by omega)).mono ?_
 rintro e w1 ⟨u, rfl, hu, hc⟩
 go_wp2_with (at_builtin; refine append_B rfl _ _ rfl (hu.al _) rfl (own_one w1 0 0 rfl).rd rfl (by simpa using hl) (by have := hc.size; simp; omega) ?_; intro v1 w2 hown1 hg1 hat1)
 go_ret
 refine ⟨v1, rfl, hown1, (hc.alloc _).own hg1 fun k hk => (hu.lt k hk).1⟩
end Go.Proofs.YtliimeoblffigaaGreat

