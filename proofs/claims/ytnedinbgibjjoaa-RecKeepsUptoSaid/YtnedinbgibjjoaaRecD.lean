/- The walks of groyneref06.writes and ranges. -/
import Derived.Test.YtnedinbgibjjoaaRecC
namespace Go.Proofs.Ytnedinbgibjjoaa
open Go.RowKit

theorem RdW.lt {w : World} {F : Nat → Prop} {v : Value} {l : List WrS} (h : RdW w F v l) : RdW w (fun k => F k ∧ k < w.heap.size) v l := by
  obtain ⟨xs, h1, h2, h3⟩ := h
  exact ⟨xs, h1, h2.lt (by omega), fun i x y hx hy => ⟨(h3 i x y hx hy).1.lt, (h3 i x y hx hy).2.lt⟩⟩

end Go.Proofs.Ytnedinbgibjjoaa
