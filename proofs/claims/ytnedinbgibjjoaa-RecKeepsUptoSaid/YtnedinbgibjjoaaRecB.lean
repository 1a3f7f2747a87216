/- The walk of groyneref06.txn; words for regions whose calls come in any order. -/
import Derived.Test.YtnedinbgibjjoaaRecA
namespace Go.Proofs.Ytnedinbgibjjoaa
open Go.RowKit

theorem OwnB.c0 {w w' : World} {base : Nat} {v : Value} {l : List UInt8} (h : OwnB w base v l) (hc : Chg Non w w') : OwnB w' base v l := h.chg hc fun _ _ h => h
theorem RdB.sl {w : World} {F : Nat → Prop} {v : Value} {l : List UInt8} (h : RdB w F v l) : ∃ A n c, v = .slice A n c := by obtain ⟨A, c, e, _⟩ := h.shape; exact ⟨A, _, c, e⟩
theorem OwnB.sl {w : World} {base : Nat} {v : Value} {l : List UInt8} (h : OwnB w base v l) : ∃ A n c, v = .slice A n c := by obtain ⟨A, c, e, _⟩ := h.shape; exact ⟨A, _, c, e⟩
/-- what is new lies apart from what was there -/
def Dsj (u v : Value) : Prop := ∀ k, u.ownBlock = some k → v.ownBlock ≠ some k
theorem Dsj.symm {u v : Value} (h : Dsj u v) : Dsj v u := fun k hk e => h k e hk
theorem OwnB.dsj {w w' : World} {b : Nat} {u u' : Value} {l l' : List UInt8} (h : OwnB w b u l) (h' : OwnB w' w.heap.size u' l') : Dsj u u' := fun k hk e => by
  have h1 := (h.lt k hk).2
  have h2 := (h'.lt k e).1
  omega
theorem OwnB.app {w w' : World} {b : Nat} {u v : Value} {l : List UInt8} (h : OwnB w b u l) (hg : w.grownBy w' v.ownBlock) (hd : Dsj u v) : OwnB w' b u l :=
  h.chg (Chg.of_grown hg) fun k hk e => hd k hk e.symm
theorem Dsj.app {w : World} {b : Nat} {u v v' : Value} {l : List UInt8} (h : OwnB w b u l) (hd : Dsj u v) (hat : v'.ownBlock = v.ownBlock ∨ v'.ownBlock = some w.heap.size) : Dsj u v' := fun k hk e => by
  rcases hat with h1 | h1
  · exact hd k hk (h1 ▸ e)
  · rw [h1] at e
    injection e with e
    have := (h.lt k hk).2
    omega
theorem Chg.app {a w w' : World} {v : Value} {base : Nat} {l : List UInt8} (h : Chg Non a w) (hg : w.grownBy w' v.ownBlock) (ho : OwnB w base v l) (hb : a.heap.size ≤ base) : Chg Non a w' :=
  h.own hg fun k hk => Nat.le_trans hb (ho.lt k hk).1
theorem sz_chg {a w : World} (h : Chg Non a w) : a.heap.size ≤ w.heap.size := h.size

/-- three cells of a block -/
def At3 (g : Nat) (a b c : Value) (w : World) : Prop := w.cell? ⟨g, 0, none⟩ = some a ∧ w.cell? ⟨g, 1, none⟩ = some b ∧ w.cell? ⟨g, 2, none⟩ = some c
theorem At3.c0 {g : Nat} {a b c : Value} {w w' : World} (h : w.cell? ⟨g, 0, none⟩ = some a ∧ w.cell? ⟨g, 1, none⟩ = some b ∧ w.cell? ⟨g, 2, none⟩ = some c) (hc : Chg Non w w') :
    w'.cell? ⟨g, 0, none⟩ = some a ∧ w'.cell? ⟨g, 1, none⟩ = some b ∧ w'.cell? ⟨g, 2, none⟩ = some c :=
  ⟨hc.cell h.1 fun h => h, hc.cell h.2.1 fun h => h, hc.cell h.2.2 fun h => h⟩
theorem At3.app {g base : Nat} {a b c v : Value} {l : List UInt8} {w w' : World} (h : w.cell? ⟨g, 0, none⟩ = some a ∧ w.cell? ⟨g, 1, none⟩ = some b ∧ w.cell? ⟨g, 2, none⟩ = some c) (hg : w.grownBy w' v.ownBlock) (ho : OwnB w base v l) (hb : g < base) :
    w'.cell? ⟨g, 0, none⟩ = some a ∧ w'.cell? ⟨g, 1, none⟩ = some b ∧ w'.cell? ⟨g, 2, none⟩ = some c :=
  have hn : ¬ (some g = v.ownBlock) := fun e => Nat.lt_irrefl _ (Nat.lt_of_lt_of_le hb (ho.lt g e.symm).1)
  ⟨(Chg.of_grown hg).cell h.1 hn, (Chg.of_grown hg).cell h.2.1 hn, (Chg.of_grown hg).cell h.2.2 hn⟩

end Go.Proofs.Ytnedinbgibjjoaa
