/- The walk of groynelaw20.play, whatever the call. -/
import Derived.Test.YtlcnlcjfnpicgaaGatePlay1
import Derived.Test.YtlcnlcjfnpicgaaGatePlay2
import Derived.Test.YtlcnlcjfnpicgaaGatePlay3
import Derived.Test.YtlcnlcjfnpicgaaGatePlay6
namespace Go.Proofs.Ytlcnlcjfnpicgaa
open Go.RowKit Go.Maps

theorem lawPlay0 {X : Nat → Prop} {b : Nat} {w0 w : World} {g : Nat} {mp rv v : Value} {s : GSt} {j : Nat} (h : Pair X b w0 w g mp rv v s s) (hf : Fit s j) (hj : j ≤ 1000) (a : ActS) (hat : U64 a.at_) :
    Calls Try.prog 8 #[.pointer (some ⟨g, 0, none⟩), v, .agg (actC a)] w fun e w' =>
      ∃ v' mp' rv', e = .returned (.tuple #[v', .bool true]) ∧ Pair X b w0 w' g mp' rv' v' (playS s a) (playS s a) := by
  obtain ⟨kind, shard, answer, err, id, at_, name⟩ := a
  unfold actC playS
  dsimp only at hat ⊢
  by_cases h1 : kind = 1
  · subst h1
    rw [if_pos rfl]
    exact play1 h hf hj shard answer err id at_ name hat
  rw [if_neg h1]
  by_cases h2 : kind = 2
  · subst h2
    rw [if_pos rfl]
    exact play2 h hf hj shard answer err id at_ name hat
  rw [if_neg h2]
  by_cases h3 : kind = 3
  · subst h3
    rw [if_pos rfl]
    exact play3 h hf hj shard answer err id at_ name hat
  rw [if_neg h3]
  by_cases h4 : kind = 4
  · subst h4
    rw [if_pos rfl]
    exact play4 h hf hj shard answer err id at_ name hat
  rw [if_neg h4]
  by_cases h5 : kind = 5
  · subst h5
    rw [if_pos rfl]
    exact play5 h hf hj shard answer err id at_ name hat
  rw [if_neg h5]
  by_cases h6 : kind = 6
  · subst h6
    rw [if_pos rfl]
    exact play6 h hf hj shard answer err id at_ name hat
  rw [if_neg h6]
  exact playElse h hf hj kind (beq_eq_false_iff_ne.2 h1) (beq_eq_false_iff_ne.2 h2) (beq_eq_false_iff_ne.2 h3) (beq_eq_false_iff_ne.2 h4) (beq_eq_false_iff_ne.2 h5) (beq_eq_false_iff_ne.2 h6) shard answer err id at_ name hat
theorem lawPlay {X : Nat → Prop} {b : Nat} {w0 w : World} {g : Nat} {mp rv v : Value} {s : GSt} {j : Nat} (h : Pair X b w0 w g mp rv v s s) (hf : Fit s j) (hj : j ≤ 1000) (a : ActS) (hat : U64 a.at_) :
    Calls Try.prog 8 #[.pointer (some ⟨g, 0, none⟩), v, .agg (actC a)] w fun e w' =>
      ∃ v' mp' rv', e = .returned (.tuple #[v', .bool true]) ∧ Pair X b w0 w' g mp' rv' v' (playS s a) (playS s a) ∧ Chg (fun k => b ≤ k ∧ ¬ X k) w w' := by
  refine (lawPlay0 h.reset hf hj a hat).mono ?_
  rintro e w' ⟨v', mp', rv', rfl, h'⟩
  exact ⟨v', mp', rv', rfl, h.join h', h'.c⟩
end Go.Proofs.Ytlcnlcjfnpicgaa
