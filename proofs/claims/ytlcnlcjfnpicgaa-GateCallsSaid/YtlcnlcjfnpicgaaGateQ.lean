/- The two gates at their beginning; the gate's clock. -/
import Derived.Test.YtlcnlcjfnpicgaaGatePlay
namespace Go.Proofs.Ytlcnlcjfnpicgaa
open Go.RowKit Go.Maps

theorem pairNew {w w2 w3 : World} {v3 m3 : Value} {s : GSt} (hg2 : GateAt w2 w.heap.size w.heap.size (.map none) (.slice none 0 0) s) (k2 : Chg Non w w2)
    (hr3 : RefAt w3 (fun k => w2.heap.size ≤ k) v3 m3 (.slice none 0 0) s) (k3 : Chg Non w2 w3) : Pair (fun _ => False) w.heap.size w w3 w.heap.size (.map none) (.slice none 0 0) v3 s s := by
  have hr := hr3.lt
  refine ⟨hg2.c0 k3, ⟨_, m3, .slice none 0 0, hr, fun k hk => ⟨hk.2, fun hn => ?_, fun h => h⟩⟩, (k2.trans0 k3).mono (fun _ _ h => h.elim), fun k h => h.elim, fun k h => h.elim⟩
  have := (hg2.gw hn).2
  have := hk.1
  omega
theorem pairBox {X : Nat → Prop} {b : Nat} {w0 w : World} {g : Nat} {mp rv v : Value} {s t : GSt} (h : Pair X b w0 w g mp rv v s t) (cs : Array Value) :
    ∃ X2 : Nat → Prop, Pair X2 b w0 (w.alloc (.cells cs 30)) g mp rv v s t ∧ X2 w.heap.size ∧ (∀ k, X k → X2 k) := by
  have k := (Chg.refl Non w).alloc (.cells cs 30)
  exact ⟨_, h.fence k, .inr ⟨Nat.le_refl _, (Blk.new w 30 cs).lt⟩, fun k hk => .inl hk⟩
theorem Fit.new (n : Nat) (p : Int) (hp : 1 ≤ p) : Fit (newS n p) 0 := ⟨Nat.le_refl _, ⟨Int.le_refl _, Int.le_refl _⟩, hp, by show (0 : Nat) < _; omega, fun _ _ => rfl⟩
theorem act_field {w : World} {ad : Addr} {k : Nat} {a : ActS} (h : ∀ (i : Nat) (u : Value), (actC a)[i]? = some u → w.cell? (ad.add (k * 7 + i)) = some u) :
    w.cell? (ad.add (k * 7)) = some (.int .i64 a.kind) ∧ w.cell? ⟨(ad.add (k * 7)).block, (ad.add (k * 7)).off + 1, none⟩ = some (.int .i64 a.shard) ∧ w.cell? ⟨(ad.add (k * 7)).block, (ad.add (k * 7)).off + 2, none⟩ = some (.int .i64 a.answer) ∧ w.cell? ⟨(ad.add (k * 7)).block, (ad.add (k * 7)).off + 3, none⟩ = some (.int .i64 a.err) ∧ w.cell? ⟨(ad.add (k * 7)).block, (ad.add (k * 7)).off + 4, none⟩ = some (.int .u64 (a.id : Int)) ∧ w.cell? ⟨(ad.add (k * 7)).block, (ad.add (k * 7)).off + 5, none⟩ = some (.int .u64 (a.at_ : Int)) ∧ w.cell? ⟨(ad.add (k * 7)).block, (ad.add (k * 7)).off + 6, none⟩ = some (.string a.name) := by
  refine ⟨h 0 _ rfl, ?_, ?_, ?_, ?_, ?_, ?_⟩
  · rw [← add_succ ad (k * 7) 1 (by omega)]; exact h 1 _ rfl
  · rw [← add_succ ad (k * 7) 2 (by omega)]; exact h 2 _ rfl
  · rw [← add_succ ad (k * 7) 3 (by omega)]; exact h 3 _ rfl
  · rw [← add_succ ad (k * 7) 4 (by omega)]; exact h 4 _ rfl
  · rw [← add_succ ad (k * 7) 5 (by omega)]; exact h 5 _ rfl
  · rw [← add_succ ad (k * 7) 6 (by omega)]; exact h 6 _ rfl

/-- what a tick does where the cut isn't wanted: it counts, till patience is spent -/
theorem tick_step {s : GSt} {k : Nat} (hw : wantsS s ≠ 1) (hk : s.shut = true → wantsS s = 0 → (k : Int) ≤ s.age) :
    wantsS (tickS s) ≠ 1 ∧ ((tickS s).shut = true → wantsS (tickS s) = 0 → ((k + 1 : Nat) : Int) ≤ (tickS s).age ∧ (tickS s).age < s.p) ∧ (tickS s).p = s.p := by
  cases hs : s.shut
  · rw [tickS, if_pos (.inl hs)]
    exact ⟨hw, (fun h' => by rw [hs] at h'; cases h'), rfl⟩
  · cases hc : s.cut
    · exfalso
      apply hw
      rw [wantsS, if_neg (by rw [hs]; decide), if_pos hc]
    · have hW : wantsS s = if cnt s.ms = s.n then 2 else 0 := by rw [wantsS, if_neg (by rw [hs]; decide), if_neg (by rw [hc]; decide)]
      have hW2 : wantsS { s with age := s.age + 1 } = wantsS s := rfl
      rw [tickS, if_neg (by rw [hs, hc]; simp)]
      by_cases hp : s.p ≤ s.age + 1 ∧ wantsS s = 0
      · rw [if_pos hp]
        exact ⟨by rw [wantsS, if_pos rfl]; decide, (fun h' => by cases h'), rfl⟩
      · rw [if_neg hp]
        refine ⟨by rw [hW2]; exact hw, fun _ h0 => ?_, rfl⟩
        rw [hW2] at h0
        have h1 := hk hs h0
        have h2 : ¬ s.p ≤ s.age + 1 := fun h => hp ⟨h, h0⟩
        show ((k + 1 : Nat) : Int) ≤ s.age + 1 ∧ s.age + 1 < s.p
        omega
theorem tick_bnd (s : GSt) : (tickS s).res.length ≤ s.res.length + 1 ∧ s.age ≤ (tickS s).age ∧ (tickS s).age ≤ s.age + 1 := by
  unfold tickS
  split
  · exact ⟨by omega, Int.le_refl _, by omega⟩
  · split
    · exact ⟨by simp, by show s.age ≤ s.age + 1; omega, Int.le_refl _⟩
    · exact ⟨Nat.le_succ _, by show s.age ≤ s.age + 1; omega, Int.le_refl _⟩
end Go.Proofs.Ytlcnlcjfnpicgaa
