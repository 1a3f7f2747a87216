/- gate's Gate in memory, and the walks of its methods. -/
import Derived.Test.YtlcnlcjfnpicgaaGMap
import Derived.Test.YtlcnlcjfnpicgaaSlc
import Derived.StillTailTactics
import Derived.Deep.RegionLaw
import Derived.Deep.Cut
namespace Go.Proofs.Ytlcnlcjfnpicgaa
open Go.RowKit Go.Maps

/-- a gate's state -/
structure GSt where
  n : Nat
  p : Int
  shut : Bool
  cut : Bool
  id : Nat
  name : ByteArray
  at_ : Nat
  age : Int
  ms : List (Option Nat)
  res : List (Nat × ByteArray × Int)
def rcs (r : List (Nat × ByteArray × Int)) : List Value := r.flatMap fun x => [.int .u64 (x.1 : Int), .string x.2.1, .int .i64 x.2.2]
theorem rcs_len (r : List (Nat × ByteArray × Int)) : (rcs r).length = r.length * 3 := by
  induction r with
  | nil => rfl
  | cons x r ih => rw [rcs, List.flatMap_cons, List.length_append, ← rcs, ih, List.length_cons]; simp; omega
def gcells (s : GSt) (mp rv : Value) : Array Value :=
  #[.int .i64 (s.n : Int), .int .i64 s.p, .bool s.shut, .int .i64 0, .int .u64 0, .int .u64 0, .int .u64 0, .slice none 0 0, .slice none 0 0, .bool false, .slice none 0 0, .slice none 0 0, .int .u64 (s.id : Int), .string s.name, .bool s.cut, .int .u64 (s.at_ : Int), mp, .int .i64 s.age, rv]
/-- the block g is a gate in the state s; its map is mp, its results rv -/
structure GateAt (w : World) (base g : Nat) (mp rv : Value) (s : GSt) : Prop where
  le : base ≤ g
  blk : Blk w g 63 (gcells s mp rv)
  own : w.ownsRow base 87 3 rv s.res.length (rcs s.res)
  ne : rv.ownBlock ≠ some g
  map : (mp = .map none ∧ s.shut = false) ∨ ∃ B, mp = .map (some B) ∧ base ≤ B ∧ B ≠ g ∧ rv.ownBlock ≠ some B ∧ GMap w B s.ms
  len : s.ms.length = s.n
  n20 : s.n ≤ 20
/-- the blocks that a gate's methods may write -/
def GW (g : Nat) (mp rv : Value) : Nat → Prop := fun k => k = g ∨ mp = .map (some k) ∨ rv.ownBlock = some k
/-- a step of a gate's method -/
structure Stp (w w' : World) (g : Nat) (mp rv mp' rv' : Value) : Prop where
  chg : Chg (GW g mp rv) w w'
  new : ∀ k, GW g mp' rv' k → GW g mp rv k ∨ w.heap.size ≤ k
theorem Stp.refl (w : World) (g : Nat) (mp rv : Value) : Stp w w g mp rv mp rv := ⟨Chg.refl _ _, fun _ h => .inl h⟩
theorem Stp.same {w w' : World} {g : Nat} {mp rv : Value} (h : Chg Non w w') : Stp w w' g mp rv mp rv := ⟨h.mono fun _ _ h => h.elim, fun _ h => .inl h⟩
theorem Stp.ofg {w w' : World} {g : Nat} {mp rv : Value} (h : Chg (fun k => k = g) w w') : Stp w w' g mp rv mp rv := ⟨h.mono fun _ _ h => .inl h, fun _ h => .inl h⟩
theorem Stp.trans {w w1 w2 : World} {g : Nat} {a b c d e f : Value} (h : Stp w w1 g a b c d) (h' : Stp w1 w2 g c d e f) : Stp w w2 g a b e f := by
  refine ⟨h.chg.trans h'.chg fun k hk hg => ?_, fun k hk => ?_⟩
  · rcases h.new k hg with h | h
    · exact h
    · omega
  · rcases h'.new k hk with h1 | h1
    · exact h.new k h1
    · have := h.chg.size; exact .inr (by omega)
theorem Stp.q {w w1 w2 : World} {g : Nat} {a b c d : Value} (h : Stp w w1 g a b c d) (h' : Chg Non w1 w2) : Stp w w2 g a b c d := h.trans (.same h')
theorem Stp.p {w w1 w2 : World} {g : Nat} {a b c d : Value} (h' : Chg Non w w1) (h : Stp w1 w2 g a b c d) : Stp w w2 g a b c d := (Stp.same h').trans h
def wantsS (s : GSt) : Int := if s.shut = false then 0 else if s.cut = false then 1 else if cnt s.ms = s.n then 2 else 0
section
variable {w w' : World} {S : Nat → Prop} {base g : Nat} {mp rv : Value} {s : GSt}
theorem GateAt.chg (h : GateAt w base g mp rv s) (hc : Chg S w w') (hS : ∀ k, base ≤ k → k < w.heap.size → ¬ S k) : GateAt w' base g mp rv s := by
  refine ⟨h.le, h.blk.chg hc (hS g h.le h.blk.lt), ?_, h.ne, ?_, h.len, h.n20⟩
  · refine ⟨h.own.1, ?_⟩
    have hlt := World.ownsRow.lt h.own
    rcases h.own.2 with hn | ⟨b, cap, cur, rfl, hb, hg, rest⟩
    · exact .inl hn
    · exact .inr ⟨b, cap, cur, rfl, hb, hc.heap hg (hS b (hlt b rfl).1 (hlt b rfl).2), rest⟩
  · rcases h.map with hm | ⟨B, e, hB, hBg, hr, hm⟩
    · exact .inl hm
    · exact .inr ⟨B, e, hB, hBg, hr, hm.chg hc (hS B hB hm.lt)⟩
theorem GateAt.gw (h : GateAt w base g mp rv s) {k : Nat} (hk : GW g mp rv k) : base ≤ k ∧ k < w.heap.size := by
  rcases hk with rfl | e | e
  · exact ⟨h.le, h.blk.lt⟩
  · rcases h.map with ⟨hm, _⟩ | ⟨B, e', hB, _, _, hm⟩
    · rw [hm] at e; cases e
    · rw [e'] at e; injection e with e; injection e with e; subst e; exact ⟨hB, hm.lt⟩
  · exact World.ownsRow.lt h.own k e
theorem GateAt.c0 (h : GateAt w base g mp rv s) (hc : Chg Non w w') : GateAt w' base g mp rv s := h.chg hc fun _ _ _ h => h
end

set_option maxHeartbeats 1000000 in
set_option maxRecDepth 100000 in
theorem gateShut {w : World} {base g : Nat} {mp rv : Value} {s : GSt} (h : GateAt w base g mp rv s) :
    Calls Try.prog 12 #[.pointer (some ⟨g, 0, none⟩)] w fun e w' => e = .returned (.bool s.shut) ∧ w' = w := by
  have c2 := h.blk.cell 2
  simp only [gcells] at c2
  simp at c2
  go_enter Try.func12, Try.ntmps12
  go_wp2_with fail
  go_ret
  exact ⟨rfl, rfl⟩

set_option maxHeartbeats 1000000 in
set_option maxRecDepth 100000 in
theorem gateWants {w : World} {base g : Nat} {mp rv : Value} {s : GSt} (h : GateAt w base g mp rv s) :
    Calls Try.prog 9 #[.pointer (some ⟨g, 0, none⟩)] w fun e w' => e = .returned (.int .i64 (wantsS s)) ∧ ∃ k, w' = w.drewN k := by
  have c0 : w.cell? ⟨g, 0, none⟩ = some (.int .i64 (s.n : Int)) := by rw [h.blk.cell]; rfl
  have c2 : w.cell? ⟨g, 2, none⟩ = some (.bool s.shut) := by rw [h.blk.cell]; rfl
  have c14 : w.cell? ⟨g, 14, none⟩ = some (.bool s.cut) := by rw [h.blk.cell]; rfl
  have c16 : w.cell? ⟨g, 16, none⟩ = some mp := by rw [h.blk.cell]; rfl
  cases hs : s.shut
  · have HW := hide (show wantsS s = 0 by rw [wantsS, if_pos hs])
    rw [hs] at c2
    go_enter Try.func9, Try.ntmps9
    go_wp2_with fail
    go_ret
    exact ⟨ret_int HW.out.symm, 0, rfl⟩
  · rw [hs] at c2
    cases hc : s.cut
    · have HW := hide (show wantsS s = 1 by rw [wantsS, if_neg (by rw [hs]; decide), if_pos hc])
      rw [hc] at c14
      go_enter Try.func9, Try.ntmps9
      go_wp2_with fail
      go_ret
      exact ⟨ret_int HW.out.symm, 0, rfl⟩
    · rw [hc] at c14
      rcases h.map with ⟨_, hn⟩ | ⟨B, rfl, _, _, _, hm⟩
      · rw [hs] at hn; cases hn
      have hlen := fun (k : Nat) (ty : TypeId) => GMap.len (hm.chg ((Chg.refl Non w).drewN k) fun h => h) ty
      by_cases hq : cnt s.ms = s.n
      · have HW := hide (show wantsS s = 2 by rw [wantsS, if_neg (by rw [hs]; decide), if_neg (by rw [hc]; decide), if_pos hq])
        obtain ⟨cc, hcc⟩ : ∃ cc, cc = cnt s.ms := ⟨_, rfl⟩
        obtain ⟨nn, hnn⟩ : ∃ nn, nn = s.n := ⟨_, rfl⟩
        rw [← hcc] at hlen hq
        rw [← hnn] at c0 hq
        have hb : ((cc : Int) == (nn : Int)) = true := by simp [hq]
        clear hq hcc hnn hs hc hm h
        go_enter Try.func9, Try.ntmps9
        go_wp2_with fail
        go_quiet (fail)
        go_wp2_with fail
        go_ret
        exact ⟨ret_int HW.out.symm, _, rfl⟩
      · have HW := hide (show wantsS s = 0 by rw [wantsS, if_neg (by rw [hs]; decide), if_neg (by rw [hc]; decide), if_neg hq])
        obtain ⟨cc, hcc⟩ : ∃ cc, cc = cnt s.ms := ⟨_, rfl⟩
        obtain ⟨nn, hnn⟩ : ∃ nn, nn = s.n := ⟨_, rfl⟩
        rw [← hcc] at hlen hq
        rw [← hnn] at c0 hq
        have hb : ((cc : Int) == (nn : Int)) = false := beq_eq_false_iff_ne.2 (by omega)
        clear hcc hnn hs hc hm h
        go_enter Try.func9, Try.ntmps9
        go_wp2_with fail
        go_quiet (fail)
        go_wp2_with fail
        go_ret
        exact ⟨ret_int HW.out.symm, _, rfl⟩

/-- from base on -/
abbrev From (B : Nat) : Nat → Prop := fun k => B ≤ k
set_option maxHeartbeats 1000000 in
set_option maxRecDepth 100000 in
theorem gateBusy {w : World} {base g id : Nat} {name : ByteArray} {mp rv : Value} {s : GSt} (h : GateAt w base g mp rv s) (hs : s.shut = true) :
    Calls Try.prog 17 #[.pointer (some ⟨g, 0, none⟩), .int .u64 (id : Int), .string name] w fun e w' => e = .returned (.int .i64 14) ∧ w' = w := by
  have c2 : w.cell? ⟨g, 2, none⟩ = some (.bool s.shut) := by rw [h.blk.cell]; rfl
  rw [hs] at c2
  clear h hs
  go_enter Try.func17, Try.ntmps17
  go_wp2_with fail
  go_ret
  exact ⟨rfl, rfl⟩
theorem gset12 (s : GSt) (mp m2 rv : Value) (id : Nat) (name : ByteArray) : (((((((((((((gcells { s with shut := true, cut := false, at_ := 0, age := 0 } mp rv).setIfInBounds 3 (.int .i64 0)).setIfInBounds 4 (.int .u64 0)).setIfInBounds 5 (.int .u64 0)).setIfInBounds 6 (.int .u64 0)).setIfInBounds 7 (.slice none 0 0)).setIfInBounds 8 (.slice none 0 0)).setIfInBounds 9 (.bool false)).setIfInBounds 10 (.slice none 0 0)).setIfInBounds 11 (.slice none 0 0)).setIfInBounds 12 (.int .u64 (id : Int))).setIfInBounds 13 (.string name)).setIfInBounds 16 (m2)) = gcells { s with shut := true, cut := false, id := id, name := name, at_ := 0, age := 0, ms := List.replicate s.n none } m2 rv := by
  simp only [gcells, List.setIfInBounds_toArray, List.set_cons_succ, List.set_cons_zero]
set_option maxHeartbeats 1000000 in
set_option maxRecDepth 100000 in
theorem gateBegin {w : World} {base g id : Nat} {name : ByteArray} {mp rv : Value} {s : GSt} (h : GateAt w base g mp rv s) (hs : s.shut = false) :
    Calls Try.prog 17 #[.pointer (some ⟨g, 0, none⟩), .int .u64 (id : Int), .string name] w fun e w' => e = .returned (.int .i64 0) ∧
      ∃ mp', GateAt w' base g mp' rv { s with shut := true, cut := false, id := id, name := name, at_ := 0, age := 0, ms := List.replicate s.n none } ∧ Stp w w' g mp rv mp' rv := by
  have c2 : w.cell? ⟨g, 2, none⟩ = some (.bool s.shut) := by rw [h.blk.cell]; rfl
  rw [hs] at c2
  have hmm := @run_makeMap Try.prog
  have f2 := h.blk.frozen 2
  have f14 := h.blk.frozen 14
  have f15 := h.blk.frozen 15
  have f17 := h.blk.frozen 17
  have c14 : w.cell? ⟨g, 14, none⟩ = some (.bool s.cut) := by rw [h.blk.cell]; rfl
  have c15 : w.cell? ⟨g, 15, none⟩ = some (.int .u64 (s.at_ : Int)) := by rw [h.blk.cell]; rfl
  have c17 : w.cell? ⟨g, 17, none⟩ = some (.int .i64 s.age) := by rw [h.blk.cell]; rfl
  have hrl := World.ownsRow.lt h.own
  have HH := hide h
  clear hs
  go_enter Try.func17, Try.ntmps17
  go_upto_region 4 with fail
  have hb4 : Blk ((((w.setCell ⟨g, 2, none⟩ (.bool true)).setCell ⟨g, 14, none⟩ (.bool false)).setCell ⟨g, 15, none⟩ (.int .u64 0)).setCell ⟨g, 17, none⟩ (.int .i64 0)) g 63 (gcells { s with shut := true, cut := false, at_ := 0, age := 0 } mp rv) :=
    (((h.blk.set_ 2 (.bool true)).set_ 14 (.bool false)).set_ 15 (.int .u64 0)).set_ 17 (.int .i64 0)
  have k4 : Chg (fun k => k = g) w ((((w.setCell ⟨g, 2, none⟩ (.bool true)).setCell ⟨g, 14, none⟩ (.bool false)).setCell ⟨g, 15, none⟩ (.int .u64 0)).setCell ⟨g, 17, none⟩ (.int .i64 0)) :=
    (((((Chg.refl (fun k => k = g) w).setCell (p := ⟨g, 2, none⟩) (fun _ => rfl) _).setCell (p := ⟨g, 14, none⟩) (fun _ => rfl) _).setCell (p := ⟨g, 15, none⟩) (fun _ => rfl) _).setCell (p := ⟨g, 17, none⟩) (fun _ => rfl) _)
  generalize (((w.setCell ⟨g, 2, none⟩ (.bool true)).setCell ⟨g, 14, none⟩ (.bool false)).setCell ⟨g, 15, none⟩ (.int .u64 0)).setCell ⟨g, 17, none⟩ (.int .i64 0) = w4 at hb4 k4 ⊢
  clear f2 f14 f15 f17 c14 c15 c17 c2 h
  have hb5 := hb4.al (.map #[] 0)
  have c3 : (w4.alloc (.map #[] 0)).cell? ⟨g, 3, none⟩ = some (.int .i64 0) := by rw [hb5.cell]; rfl
  have f3 := hb5.frozen 3
  have c4 : (w4.alloc (.map #[] 0)).cell? ⟨g, 4, none⟩ = some (.int .u64 0) := by rw [hb5.cell]; rfl
  have f4 := hb5.frozen 4
  have c5 : (w4.alloc (.map #[] 0)).cell? ⟨g, 5, none⟩ = some (.int .u64 0) := by rw [hb5.cell]; rfl
  have f5 := hb5.frozen 5
  have c6 : (w4.alloc (.map #[] 0)).cell? ⟨g, 6, none⟩ = some (.int .u64 0) := by rw [hb5.cell]; rfl
  have f6 := hb5.frozen 6
  have c7 : (w4.alloc (.map #[] 0)).cell? ⟨g, 7, none⟩ = some (.slice none 0 0) := by rw [hb5.cell]; rfl
  have f7 := hb5.frozen 7
  have c8 : (w4.alloc (.map #[] 0)).cell? ⟨g, 8, none⟩ = some (.slice none 0 0) := by rw [hb5.cell]; rfl
  have f8 := hb5.frozen 8
  have c9 : (w4.alloc (.map #[] 0)).cell? ⟨g, 9, none⟩ = some (.bool false) := by rw [hb5.cell]; rfl
  have f9 := hb5.frozen 9
  have c10 : (w4.alloc (.map #[] 0)).cell? ⟨g, 10, none⟩ = some (.slice none 0 0) := by rw [hb5.cell]; rfl
  have f10 := hb5.frozen 10
  have c11 : (w4.alloc (.map #[] 0)).cell? ⟨g, 11, none⟩ = some (.slice none 0 0) := by rw [hb5.cell]; rfl
  have f11 := hb5.frozen 11
  have c12 : (w4.alloc (.map #[] 0)).cell? ⟨g, 12, none⟩ = some (.int .u64 (s.id : Int)) := by rw [hb5.cell]; rfl
  have f12 := hb5.frozen 12
  have c13 : (w4.alloc (.map #[] 0)).cell? ⟨g, 13, none⟩ = some (.string s.name) := by rw [hb5.cell]; rfl
  have f13 := hb5.frozen 13
  have c16 : (w4.alloc (.map #[] 0)).cell? ⟨g, 16, none⟩ = some (mp) := by rw [hb5.cell]; rfl
  have f16 := hb5.frozen 16
  have hb6 : Blk (((((((((((((w4.alloc (.map #[] 0)).setCell ⟨g, 3, none⟩ (.int .i64 0)).setCell ⟨g, 4, none⟩ (.int .u64 0)).setCell ⟨g, 5, none⟩ (.int .u64 0)).setCell ⟨g, 6, none⟩ (.int .u64 0)).setCell ⟨g, 7, none⟩ (.slice none 0 0)).setCell ⟨g, 8, none⟩ (.slice none 0 0)).setCell ⟨g, 9, none⟩ (.bool false)).setCell ⟨g, 10, none⟩ (.slice none 0 0)).setCell ⟨g, 11, none⟩ (.slice none 0 0)).setCell ⟨g, 12, none⟩ (.int .u64 (id : Int))).setCell ⟨g, 13, none⟩ (.string name)).setCell ⟨g, 16, none⟩ (.map (some w4.heap.size))) g 63 (gcells { s with shut := true, cut := false, id := id, name := name, at_ := 0, age := 0, ms := List.replicate s.n none } (.map (some w4.heap.size)) rv) := by
    have hx := ((((((((((((hb5.set_ 3 (.int .i64 0)).set_ 4 (.int .u64 0)).set_ 5 (.int .u64 0)).set_ 6 (.int .u64 0)).set_ 7 (.slice none 0 0)).set_ 8 (.slice none 0 0)).set_ 9 (.bool false)).set_ 10 (.slice none 0 0)).set_ 11 (.slice none 0 0)).set_ 12 (.int .u64 (id : Int))).set_ 13 (.string name)).set_ 16 (.map (some w4.heap.size)))
    rw [gset12] at hx
    exact hx
  have k6 : Chg (fun k => k = g) w (((((((((((((w4.alloc (.map #[] 0)).setCell ⟨g, 3, none⟩ (.int .i64 0)).setCell ⟨g, 4, none⟩ (.int .u64 0)).setCell ⟨g, 5, none⟩ (.int .u64 0)).setCell ⟨g, 6, none⟩ (.int .u64 0)).setCell ⟨g, 7, none⟩ (.slice none 0 0)).setCell ⟨g, 8, none⟩ (.slice none 0 0)).setCell ⟨g, 9, none⟩ (.bool false)).setCell ⟨g, 10, none⟩ (.slice none 0 0)).setCell ⟨g, 11, none⟩ (.slice none 0 0)).setCell ⟨g, 12, none⟩ (.int .u64 (id : Int))).setCell ⟨g, 13, none⟩ (.string name)).setCell ⟨g, 16, none⟩ (.map (some w4.heap.size))) := (((((((((((((k4.alloc (.map #[] 0)).setCell (p := ⟨g, 3, none⟩) (fun _ => rfl) (.int .i64 0)).setCell (p := ⟨g, 4, none⟩) (fun _ => rfl) (.int .u64 0)).setCell (p := ⟨g, 5, none⟩) (fun _ => rfl) (.int .u64 0)).setCell (p := ⟨g, 6, none⟩) (fun _ => rfl) (.int .u64 0)).setCell (p := ⟨g, 7, none⟩) (fun _ => rfl) (.slice none 0 0)).setCell (p := ⟨g, 8, none⟩) (fun _ => rfl) (.slice none 0 0)).setCell (p := ⟨g, 9, none⟩) (fun _ => rfl) (.bool false)).setCell (p := ⟨g, 10, none⟩) (fun _ => rfl) (.slice none 0 0)).setCell (p := ⟨g, 11, none⟩) (fun _ => rfl) (.slice none 0 0)).setCell (p := ⟨g, 12, none⟩) (fun _ => rfl) (.int .u64 (id : Int))).setCell (p := ⟨g, 13, none⟩) (fun _ => rfl) (.string name)).setCell (p := ⟨g, 16, none⟩) (fun _ => rfl) (.map (some w4.heap.size)))
  have hgm := GMap.new w4 s.n
  have kk : Chg (fun k => k = g) (w4.alloc (.map #[] 0)) (((((((((((((w4.alloc (.map #[] 0)).setCell ⟨g, 3, none⟩ (.int .i64 0)).setCell ⟨g, 4, none⟩ (.int .u64 0)).setCell ⟨g, 5, none⟩ (.int .u64 0)).setCell ⟨g, 6, none⟩ (.int .u64 0)).setCell ⟨g, 7, none⟩ (.slice none 0 0)).setCell ⟨g, 8, none⟩ (.slice none 0 0)).setCell ⟨g, 9, none⟩ (.bool false)).setCell ⟨g, 10, none⟩ (.slice none 0 0)).setCell ⟨g, 11, none⟩ (.slice none 0 0)).setCell ⟨g, 12, none⟩ (.int .u64 (id : Int))).setCell ⟨g, 13, none⟩ (.string name)).setCell ⟨g, 16, none⟩ (.map (some w4.heap.size))) := (((((((((((((Chg.refl (fun k => k = g) (w4.alloc (.map #[] 0))).setCell (p := ⟨g, 3, none⟩) (fun _ => rfl) (.int .i64 0)).setCell (p := ⟨g, 4, none⟩) (fun _ => rfl) (.int .u64 0)).setCell (p := ⟨g, 5, none⟩) (fun _ => rfl) (.int .u64 0)).setCell (p := ⟨g, 6, none⟩) (fun _ => rfl) (.int .u64 0)).setCell (p := ⟨g, 7, none⟩) (fun _ => rfl) (.slice none 0 0)).setCell (p := ⟨g, 8, none⟩) (fun _ => rfl) (.slice none 0 0)).setCell (p := ⟨g, 9, none⟩) (fun _ => rfl) (.bool false)).setCell (p := ⟨g, 10, none⟩) (fun _ => rfl) (.slice none 0 0)).setCell (p := ⟨g, 11, none⟩) (fun _ => rfl) (.slice none 0 0)).setCell (p := ⟨g, 12, none⟩) (fun _ => rfl) (.int .u64 (id : Int))).setCell (p := ⟨g, 13, none⟩) (fun _ => rfl) (.string name)).setCell (p := ⟨g, 16, none⟩) (fun _ => rfl) (.map (some w4.heap.size)))
  have hgm2 := hgm.chg kk (fun e => by have := hb4.lt; omega)
  have z4 := k4.size
  have hbl := hide hb4.lt
  have HZ4 := hide z4
  have HB6 := hide hb6
  have HK6 := hide k6
  have HGM2 := hide hgm2
  clear hgm kk hb4 k4 hb5 hb6 k6 hgm2 z4
  go_upto_region 5 with fail
  generalize (((((((((((((w4.alloc (.map #[] 0)).setCell ⟨g, 3, none⟩ (.int .i64 0)).setCell ⟨g, 4, none⟩ (.int .u64 0)).setCell ⟨g, 5, none⟩ (.int .u64 0)).setCell ⟨g, 6, none⟩ (.int .u64 0)).setCell ⟨g, 7, none⟩ (.slice none 0 0)).setCell ⟨g, 8, none⟩ (.slice none 0 0)).setCell ⟨g, 9, none⟩ (.bool false)).setCell ⟨g, 10, none⟩ (.slice none 0 0)).setCell ⟨g, 11, none⟩ (.slice none 0 0)).setCell ⟨g, 12, none⟩ (.int .u64 (id : Int))).setCell ⟨g, 13, none⟩ (.string name)).setCell ⟨g, 16, none⟩ (.map (some w4.heap.size))) = w6 at HB6 HK6 HGM2 ⊢
  clear c3 f3 c4 f4 c5 f5 c6 f6 c7 f7 c8 f8 c9 f9 c10 f10 c11 f11 c12 f12 c13 f13 c16 f16 hmm
  go_wp2_with fail
  go_ret
  have h := HH.out
  have k6 := HK6.out
  have hbl := hbl.out
  have z4 := HZ4.out
  have hsz := h.blk.lt
  refine ⟨rfl, .map (some w4.heap.size), ⟨h.le, HB6.out, ?_, h.ne, .inr ⟨w4.heap.size, rfl, ?_, ?_, ?_, HGM2.out⟩, by simp, h.n20⟩, ⟨k6.mono fun _ _ h => .inl h, ?_⟩⟩
  · refine ⟨h.own.1, ?_⟩
    rcases h.own.2 with hn | ⟨b, cap, cur, rfl, hb, hg, rest⟩
    · exact .inl hn
    · exact .inr ⟨b, cap, cur, rfl, hb, k6.heap hg (fun e => h.ne (by rw [← e]; rfl)), rest⟩
  · have := h.le; omega
  · omega
  · intro e; have := (hrl _ e).2; omega
  · rintro k (h1 | h1 | h1)
    · exact .inl (.inl h1)
    · injection h1 with h1; injection h1 with h1; exact .inr (by omega)
    · exact .inl (.inr (.inr h1))
end Go.Proofs.Ytlcnlcjfnpicgaa
