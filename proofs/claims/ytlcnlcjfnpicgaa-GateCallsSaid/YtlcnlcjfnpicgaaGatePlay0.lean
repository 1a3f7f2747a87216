/- What the walks of groynelaw20.play share (printed by genplay.py). -/
import Derived.Test.YtlcnlcjfnpicgaaGateP
namespace Go.Proofs.Ytlcnlcjfnpicgaa
open Go.RowKit Go.Maps

theorem blk7 {w : World} {g : Nat} {t : TypeId} {a0 a1 a2 a3 a4 a5 a6 : Value} (h : Blk w g t #[a0, a1, a2, a3, a4, a5, a6]) :
    w.cell? ⟨g, 0, none⟩ = some a0 ∧ w.cell? ⟨g, 1, none⟩ = some a1 ∧ w.cell? ⟨g, 2, none⟩ = some a2 ∧ w.cell? ⟨g, 3, none⟩ = some a3 ∧ w.cell? ⟨g, 4, none⟩ = some a4 ∧ w.cell? ⟨g, 5, none⟩ = some a5 ∧ w.cell? ⟨g, 6, none⟩ = some a6 :=
  ⟨h.cell 0, h.cell 1, h.cell 2, h.cell 3, h.cell 4, h.cell 5, h.cell 6⟩
theorem playSetup {X : Nat → Prop} {b : Nat} {w0 w : World} {g : Nat} {mp rv v : Value} {s : GSt} (h : Pair X b w0 w g mp rv v s s) (cs ds : Array Value) :
    ∃ X2, Pair X2 b w0 (((w.alloc (.cells cs 30)).alloc (.cells ds 35)).alloc (.cells z9 30)) g mp rv v s s ∧ (∀ k, X k → X2 k) ∧ X2 w.heap.size ∧ X2 (w.heap.size + 1) ∧ X2 (w.heap.size + 1 + 1) ∧
      Blk (((w.alloc (.cells cs 30)).alloc (.cells ds 35)).alloc (.cells z9 30)) w.heap.size 30 cs ∧
      Blk (((w.alloc (.cells cs 30)).alloc (.cells ds 35)).alloc (.cells z9 30)) (w.heap.size + 1) 35 ds ∧
      Blk (((w.alloc (.cells cs 30)).alloc (.cells ds 35)).alloc (.cells z9 30)) (w.heap.size + 1 + 1) 30 z9 ∧ w0.heap.size ≤ w.heap.size := by
  have k3 := (((Chg.refl Non w).alloc (.cells cs 30)).alloc (.cells ds 35)).alloc (.cells z9 30)
  have b5 := Blk.new (w.alloc (.cells cs 30)) 35 ds
  rw [show (w.alloc (.cells cs 30)).heap.size = w.heap.size + 1 from by simp] at b5
  have b6 := Blk.new ((w.alloc (.cells cs 30)).alloc (.cells ds 35)) 30 z9
  rw [show ((w.alloc (.cells cs 30)).alloc (.cells ds 35)).heap.size = w.heap.size + 1 + 1 from by simp] at b6
  have z := b6.lt
  refine ⟨_, h.fence k3, fun k hk => .inl hk, .inr ⟨by omega, by omega⟩, .inr ⟨by omega, by omega⟩, .inr ⟨by omega, by omega⟩, ((Blk.new w _ cs).al _).al _, b5.al _, b6, ?_⟩
  have := h.c.size; omega
theorem Pair.open_ {X : Nat → Prop} {b : Nat} {w0 w : World} {g : Nat} {mp rv a0 a1 a2 a3 a4 a5 a6 m r : Value} {s t : GSt} (h : Pair X b w0 w g mp rv (.agg #[a0, a1, a2, a3, a4, a5, a6, m, r]) s t) :
    ∃ F, RefAt w F (.agg #[a0, a1, a2, a3, a4, a5, a6, m, r]) m r t ∧ ∀ k, F k → k < w.heap.size ∧ ¬ GW g mp rv k ∧ ¬ X k := by
  obtain ⟨F, mw, rw, hr, hF⟩ := h.ra
  have e := hr.v
  simp only [rcells, Value.agg.injEq, Array.mk.injEq, List.cons.injEq] at e
  obtain ⟨_, _, _, _, _, _, _, rfl, rfl, _⟩ := e
  exact ⟨F, hr, hF⟩
theorem Pair.cleared {X : Nat → Prop} {b : Nat} {w0 w : World} {g : Nat} {mp rv a0 a1 a2 a3 a4 a5 a6 m r : Value} {s t : GSt} (h : Pair X b w0 w g mp rv (.agg #[a0, a1, a2, a3, a4, a5, a6, m, r]) s t) :
    Pair X b w0 w g mp rv (.agg #[a0, a1, a2, a3, a4, a5, a6, m, .slice none 0 0]) s { t with res := [] } := by
  obtain ⟨F, hr, hF⟩ := h.open_
  refine ⟨h.ga, ⟨F, m, .slice none 0 0, ⟨?_, hr.m, RdV.nil_ _ _ _, hr.len, hr.n20⟩, hF⟩, h.c, h.xl, h.xg⟩
  have e := hr.v
  simp only [rcells, Value.agg.injEq, Array.mk.injEq, List.cons.injEq] at e
  obtain ⟨rfl, rfl, rfl, rfl, rfl, rfl, rfl, _⟩ := e
  rfl
theorem set9_8 {w : World} {g : Nat} {t : TypeId} {a0 a1 a2 a3 a4 a5 a6 a7 a8 : Value} (h : Blk w g t #[a0, a1, a2, a3, a4, a5, a6, a7, a8]) (b : Value) : Blk (w.setCell ⟨g, 8, none⟩ b) g t #[a0, a1, a2, a3, a4, a5, a6, a7, b] := by
  have hx := h.set_ 8 b
  simp only [List.setIfInBounds_toArray, List.set_cons_succ, List.set_cons_zero] at hx
  exact hx
theorem keep9 {w : World} {a b g : Nat} {ta tb : TypeId} {ca cb : Array Value} (h : Blk w a ta ca ∧ Blk w b tb cb) (ha : a ≠ g) (hb : b ≠ g) (a0 a1 a2 a3 a4 a5 a6 a7 a8 : Value) :
    Blk (((((((((w.setCell ⟨g, 0, none⟩ a0).setCell ⟨g, 1, none⟩ a1).setCell ⟨g, 2, none⟩ a2).setCell ⟨g, 3, none⟩ a3).setCell ⟨g, 4, none⟩ a4).setCell ⟨g, 5, none⟩ a5).setCell ⟨g, 6, none⟩ a6).setCell ⟨g, 7, none⟩ a7).setCell ⟨g, 8, none⟩ a8) a ta ca ∧
    Blk (((((((((w.setCell ⟨g, 0, none⟩ a0).setCell ⟨g, 1, none⟩ a1).setCell ⟨g, 2, none⟩ a2).setCell ⟨g, 3, none⟩ a3).setCell ⟨g, 4, none⟩ a4).setCell ⟨g, 5, none⟩ a5).setCell ⟨g, 6, none⟩ a6).setCell ⟨g, 7, none⟩ a7).setCell ⟨g, 8, none⟩ a8) b tb cb := by
  obtain ⟨h1, h2⟩ := h
  exact ⟨((((((((h1.far ha a0).far ha a1).far ha a2).far ha a3).far ha a4).far ha a5).far ha a6).far ha a7).far ha a8, ((((((((h2.far hb a0).far hb a1).far hb a2).far hb a3).far hb a4).far hb a5).far hb a6).far hb a7).far hb a8⟩
theorem Pair.box {X : Nat → Prop} {b : Nat} {w0 w w' : World} {g k : Nat} {mp rv mp' rv' v : Value} {s u : GSt} {ty : TypeId} {cs : Array Value} (h : Pair X b w0 w g mp rv v s u) (st : Stp w w' g mp rv mp' rv') (hk : X k) (hb : Blk w k ty cs) : Blk w' k ty cs :=
  hb.chg st.chg (h.xg k hk)
end Go.Proofs.Ytlcnlcjfnpicgaa
