/- The walks of gate's New and Answer. -/
import Derived.Test.YtlcnlcjfnpicgaaGate4
namespace Go.Proofs.Ytlcnlcjfnpicgaa
open Go.RowKit Go.Maps

def newS (n : Nat) (p : Int) : GSt := { n := n, p := p, shut := false, cut := false, id := 0, name := ⟨#[]⟩, at_ := 0, age := 0, ms := List.replicate n none, res := [] }
theorem new_done (w : World) (n : Nat) (p : Int) (hn : n ≤ 20) (cs : Array Value) (hcs : cs = gcells (newS n p) (.map none) (.slice none 0 0)) :
    GateAt (w.alloc (.cells cs 63)) w.heap.size w.heap.size (.map none) (.slice none 0 0) (newS n p) ∧ Chg Non w (w.alloc (.cells cs 63)) :=
  ⟨⟨Nat.le_refl _, hcs ▸ Blk.new w _ cs, World.ownsRow_nil _ _ _ _, by simp [Value.ownBlock], .inl ⟨rfl, rfl⟩, by simp [newS], hn⟩, (Chg.refl Non w).alloc _⟩
set_option maxHeartbeats 1000000 in
set_option maxRecDepth 100000 in
theorem gateNew (w : World) (n p : Int) (hn : n ≤ 20) :
    Calls Try.prog 6 #[.int .i64 n, .int .i64 p] w fun e w' => e = .returned (.pointer (some ⟨w.heap.size, 0, none⟩)) ∧
      GateAt w' w.heap.size w.heap.size (.map none) (.slice none 0 0) (newS n.toNat (max 1 p)) ∧ Chg Non w w' := by
  have e1 : ((n.toNat : Nat) : Int) = max 0 n := by omega
  have hN : n.toNat ≤ 20 := by omega
  have hd := new_done w n.toNat (max 1 p) hN
  have E1 := hide e1
  have HD := hide hd
  clear e1 hd hn hN
  go_enter Try.func6, Try.ntmps6
  go_wp2_with fail
  all_goals
    go_ret
    refine ⟨rfl, HD.out _ ?_⟩
    have e1 := E1.out
    simp only [gcells, newS]
    have e2 : max 1 p = 1 ∨ max 1 p = p := by omega
    first
      | rw [e1, show max 0 n = n from by omega, show max 1 p = p from by omega]
      | rw [e1, show max 0 n = n from by omega, show max 1 p = 1 from by omega]
      | rw [e1, show max 0 n = 0 from by omega, show max 1 p = p from by omega]
      | rw [e1, show max 0 n = 0 from by omega, show max 1 p = 1 from by omega]
    rfl

/-! ### Answer -/
def ansC (kind : Int) (id : Nat) (err : Int) (a : Nat) : Array Value :=
  #[.int .i64 kind, .int .u64 0, .int .u64 0, .int .u64 0, .int .u64 0, .int .u64 0, .int .u64 (id : Int), .int .i64 err, .int .i64 0, .int .i64 0, .slice none 0 0, .slice none 0 0, .bool false, .slice none 0 0, .int .u64 (a : Int)]
def knownS (s : GSt) (i kind : Int) (id : Nat) (err : Int) : Prop := s.shut = true ∧ s.cut = true ∧ 0 ≤ i ∧ i < s.n ∧ kind = 6 ∧ id = s.id ∧ err = 0
instance (s : GSt) (i kind : Int) (id : Nat) (err : Int) : Decidable (knownS s i kind id err) := by unfold knownS; infer_instance
def answerS (s : GSt) (i kind : Int) (id : Nat) (err : Int) (a : Nat) : GSt :=
  if knownS s i kind id err ∧ mh s.ms i.toNat = false then { s with ms := s.ms.set i.toNat (some a) } else s

set_option maxHeartbeats 2000000 in
set_option maxRecDepth 100000 in
theorem gateAnswerNo {w : World} {base g : Nat} {mp rv : Value} {s : GSt} (h : GateAt w base g mp rv s) (i kind : Int) (id : Nat) (err : Int) (a : Nat) (hno : ¬ knownS s i kind id err) :
    Calls Try.prog 22 #[.pointer (some ⟨g, 0, none⟩), .int .i64 i, .agg (ansC kind id err a)] w fun e w' => e = .returned (.tuple #[]) ∧ Chg Non w w' := by
  have hb := h.blk.al (.cells (ansC kind id err a) 75)
  have c0 : (w.alloc (.cells (ansC kind id err a) 75)).cell? ⟨g, 0, none⟩ = some (.int .i64 (s.n : Int)) := by rw [hb.cell]; rfl
  have c2 : (w.alloc (.cells (ansC kind id err a) 75)).cell? ⟨g, 2, none⟩ = some (.bool s.shut) := by rw [hb.cell]; rfl
  have c12 : (w.alloc (.cells (ansC kind id err a) 75)).cell? ⟨g, 12, none⟩ = some (.int .u64 (s.id : Int)) := by rw [hb.cell]; rfl
  have c14 : (w.alloc (.cells (ansC kind id err a) 75)).cell? ⟨g, 14, none⟩ = some (.bool s.cut) := by rw [hb.cell]; rfl
  unfold knownS at hno
  simp only [ansC] at c0 c2 c12 c14
  obtain ⟨n, hn⟩ : ∃ n, n = s.n := ⟨_, rfl⟩
  obtain ⟨sid, hsid⟩ : ∃ n, n = s.id := ⟨_, rfl⟩
  obtain ⟨sh, hsh⟩ : ∃ n, n = s.shut := ⟨_, rfl⟩
  obtain ⟨cu, hcu⟩ : ∃ n, n = s.cut := ⟨_, rfl⟩
  rw [← hn] at c0 hno
  rw [← hsid] at c12 hno
  rw [← hsh] at c2 hno
  rw [← hcu] at c14 hno
  clear hn hsid hsh hcu h hb
  have kk := (Chg.refl Non w).alloc (.cells (ansC kind id err a) 75)
  simp only [ansC] at kk
  unfold ansC
  have d0 : decide (0 ≤ i) = true ∧ decide (i < (n : Int)) = true ∨ decide (0 ≤ i) = true ∧ decide (i < (n : Int)) = false ∨ decide (0 ≤ i) = false := by
    by_cases h1 : 0 ≤ i <;> by_cases h2 : i < (n : Int) <;> simp [h1, h2]
  have d1 : ((kind != 6) = false ∧ (((id : Int) != (sid : Int)) = false ∧ (id != sid) = false) ∧ (err != 0) = true) ∨ ((kind != 6) = false ∧ ((id : Int) != (sid : Int)) = true ∧ (id != sid) = true) ∨ (kind != 6) = true ∨ (kind = 6 ∧ id = sid ∧ err = 0) := by
    by_cases h1 : kind = 6
    · by_cases h2 : id = sid
      · by_cases h3 : err = 0
        · exact .inr (.inr (.inr ⟨h1, h2, h3⟩))
        · exact .inl ⟨by simp [h1], ⟨by simp [h2], by simp [h2]⟩, by simp [h3]⟩
      · exact .inr (.inl ⟨by simp [h1], bne_iff_ne.2 (by omega), bne_iff_ne.2 h2⟩)
    · exact .inr (.inr (.inl (by simp [h1])))
  rcases sh with _ | _
  · clear hno d1
    rcases d0 with ⟨e1, e2⟩ | ⟨e1, e2⟩ | e1 <;>
    · go_enter Try.func22, Try.ntmps22
      go_wp2_with fail
      go_quiet (fail)
      go_wp2_with fail
      exact bodyPost_ret (results_none rfl _ _ _) rfl ⟨rfl, kk.drewN _⟩
  · rcases cu with _ | _
    · clear hno d1
      rcases d0 with ⟨e1, e2⟩ | ⟨e1, e2⟩ | e1 <;>
      · go_enter Try.func22, Try.ntmps22
        go_wp2_with fail
        go_quiet (fail)
        go_wp2_with fail
        exact bodyPost_ret (results_none rfl _ _ _) rfl ⟨rfl, kk.drewN _⟩
    · rcases d0 with ⟨e1, e2⟩ | ⟨e1, e2⟩ | e1
      · rcases d1 with ⟨x1, ⟨x2, x2'⟩, x3⟩ | ⟨x1, x2, x2'⟩ | x1 | hx
        rotate_right 1
        · exact absurd ⟨rfl, rfl, of_decide_eq_true e1, of_decide_eq_true e2, hx⟩ hno
        all_goals
          clear hno
          go_enter Try.func22, Try.ntmps22
          go_wp2_with fail
          go_quiet (fail)
          go_wp2_with fail
          exact bodyPost_ret (results_none rfl _ _ _) rfl ⟨rfl, kk.drewN _⟩
      all_goals
        clear hno d1
        go_enter Try.func22, Try.ntmps22
        go_wp2_with fail
        go_quiet (fail)
        go_wp2_with fail
        exact bodyPost_ret (results_none rfl _ _ _) rfl ⟨rfl, kk.drewN _⟩
end Go.Proofs.Ytlcnlcjfnpicgaa
