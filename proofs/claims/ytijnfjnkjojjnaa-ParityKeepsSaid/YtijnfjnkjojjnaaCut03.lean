/- The walk of groynelaw03.cut; slices of changes. -/
import Derived.Test.YtijnfjnkjojjnaaAwake03
import Derived.Test.YtijnfjnkjojjnaaRefA
import Derived.Test.YtijnfjnkjojjnaaPoly
namespace Go.Proofs.Ytijnfjnkjojjnaa
open Go.RowKit

set_option maxHeartbeats 400000 in
theorem lawCut {v : Value} {l : List UInt8} {F : Nat → Prop} {w : World} {n : Nat} (hr : RdB w F v l) (hn : n ≤ 1000000) :
    Calls Try.prog 15 #[v, .int .i64 (n : Int)] w fun e w' => ∃ u, e = .returned u ∧ RdB w F u (l.take n) ∧ w' = w := by
  obtain ⟨A, c, rfl, hc, hm⟩ := hr.shape
  unfold maxLen at hm
  by_cases h : n < l.length
  · have hp := hr.front (j := n) (by omega)
    go_enter Try.func15, Try.ntmps15
    go_wp2
    go_ret
    exact ⟨_, rfl, hp, rfl⟩
  · have hp : RdB w F (.slice A l.length c) (l.take n) := by rw [List.take_of_length_le (by omega)]; exact hr
    have HP := hide hp
    clear hp
    go_enter Try.func15, Try.ntmps15
    go_wp2
    go_ret
    exact ⟨_, rfl, HP.out, rfl⟩

/-- the slice value v reads as changes: a place and what is added -/
def RdC (w : World) (F : Nat → Prop) (v : Value) (l : List (Int × UInt8)) : Prop := RdV w F 2 v l.length (l.flatMap fun x => [.int .i64 x.1, bv x.2])
theorem flat2_get {α : Type} (f g : α → Value) : ∀ (l : List α) (k : Nat) (h : k < l.length), (l.flatMap fun x => [f x, g x])[k * 2]? = some (f l[k]) ∧ (l.flatMap fun x => [f x, g x])[k * 2 + 1]? = some (g l[k])
  | x :: l, 0, _ => by simp
  | x :: l, k + 1, h => by
    have := flat2_get f g l k (by simpa using h)
    simp only [List.flatMap_cons, List.getElem_cons_succ]
    rw [show (k + 1) * 2 = k * 2 + 1 + 1 by omega]
    exact this
theorem flat2_take {α : Type} (f g : α → Value) : ∀ (l : List α) (j : Nat), ((l.take j).flatMap fun x => [f x, g x]) = (l.flatMap fun x => [f x, g x]).take (j * 2)
  | [], j => by simp
  | x :: l, 0 => by simp
  | x :: l, j + 1 => by
    rw [List.take_succ_cons, List.flatMap_cons, List.flatMap_cons, flat2_take f g l j, show (j + 1) * 2 = j * 2 + 1 + 1 by omega]; rfl
theorem RdC.at_ {w : World} {F : Nat → Prop} {A : Option Addr} {n c : Nat} {l : List (Int × UInt8)} (h : RdC w F (.slice A n c) l) {k : Nat} (hk : k < l.length) :
    ∃ ad, A = some ad ∧ F ad.block ∧ w.cell? (ad.add (k * 2)) = some (.int .i64 l[k].1) ∧ w.cell? (ad.add (k * 2 + 1)) = some (.int .u8 (l[k].2.toNat : Int)) := by
  obtain ⟨A', c', e, _, _⟩ := RdV.shape h
  injection e with e1 e2 e3
  subst e1; subst e2; subst e3
  obtain ⟨h1, h2⟩ := flat2_get (fun x : Int × UInt8 => Value.int .i64 x.1) (fun x => bv x.2) l k hk
  obtain ⟨ad, hA, hf, hc⟩ := RdV.cells h (by omega)
  exact ⟨ad, hA, hf, hc _ _ h1, hc _ _ h2⟩
theorem RdC.chg {w w' : World} {F S : Nat → Prop} {v : Value} {l : List (Int × UInt8)} (h : RdC w F v l) (hc : Chg S w w') (hF : ∀ k, F k → ¬ S k) : RdC w' F v l := RdV.chg h hc hF
theorem RdC.c0 {w w' : World} {F : Nat → Prop} {v : Value} {l : List (Int × UInt8)} (h : RdC w F v l) (hc : Chg Non w w') : RdC w' F v l := RdV.chg h hc fun _ _ h => h
theorem RdC.shape {w : World} {F : Nat → Prop} {v : Value} {l : List (Int × UInt8)} (h : RdC w F v l) : ∃ A c, v = .slice A l.length c ∧ l.length ≤ c ∧ c ≤ maxLen := RdV.shape h
theorem RdC.front {w : World} {F : Nat → Prop} {A : Option Addr} {n c j : Nat} {l : List (Int × UInt8)} (h : RdC w F (.slice A n c) l) (hj : j ≤ l.length) : RdC w F (.slice A j c) (l.take j) := by
  obtain ⟨A', c', e, hc, hm⟩ := RdV.shape h
  injection e with e1 e2 e3
  subst e1; subst e2; subst e3
  obtain ⟨h1, A2, c2, e, _, _, h2⟩ := h
  injection e with e1 e2 e3
  subst e1; subst e3
  have el : (l.take j).length = j := by simp; omega
  have ef := flat2_take (fun x : Int × UInt8 => Value.int .i64 x.1) (fun x => bv x.2) l j
  unfold RdC RdV
  rw [el, ef]
  refine ⟨by rw [List.length_take, h1]; omega, A, c, rfl, by omega, hm, fun hn => ?_⟩
  obtain ⟨ad, rfl, hf, hcell⟩ := h2 (by omega)
  refine ⟨ad, rfl, hf, fun i u hu => hcell i u ?_⟩
  rw [List.getElem?_take] at hu
  split at hu
  · exact hu
  · cases hu
end Go.Proofs.Ytijnfjnkjojjnaa
