/- What GroynePacked compares at its end is the same. Plain theorems, no walk. -/
import Derived.Test.YtnoimmhdoaeeiaaDoorPick3
namespace Go.Proofs.YtnoimmhdoaeeiaaDoor
open Go.RowKit

def mkS (l : List UInt8) : ByteArray := ⟨l.toArray⟩
def starS : ByteArray := ⟨#[42]⟩
theorem mem_pickL (l : List ByteArray) (pat : ByteArray) (z : List UInt8) : z ∈ pickL l pat ↔ (∃ s ∈ l, s.data.toList = z) ∧ matS z pat.data.toList = true := by
  rw [pickL, mem_srt, List.mem_filter, List.mem_map]
/-- what was found row by row, sorted: all that match, sorted -/
theorem found_eq (rows : List (List ByteArray)) (pat : ByteArray) :
    pickL (rows.flatMap fun r => (pickL r pat).map mkS) starS = pickL rows.flatten pat := by
  have h : ∀ (l m : List ByteArray) (p q : ByteArray), (∀ z, z ∈ pickL l p ↔ z ∈ pickL m q) → pickL l p = pickL m q := by
    intro l m p q h
    rw [pickL, pickL]
    exact srt_ext _ _ fun z => by
      have := h z
      rw [pickL, pickL, mem_srt, mem_srt] at this
      exact this
  apply h
  intro z
  rw [mem_pickL, mem_pickL]
  have hstar : matS z starS.data.toList = true := matS_any z
  constructor
  · rintro ⟨⟨s, hs, rfl⟩, _⟩
    rw [List.mem_flatMap] at hs
    obtain ⟨r, hr, hs⟩ := hs
    obtain ⟨y, hy, rfl⟩ := List.mem_map.1 hs
    rw [mem_pickL] at hy
    obtain ⟨⟨t, ht, rfl⟩, hm⟩ := hy
    refine ⟨⟨t, List.mem_flatten.2 ⟨r, hr, ht⟩, by simp [mkS]⟩, ?_⟩
    simpa [mkS] using hm
  · rintro ⟨⟨s, hs, rfl⟩, hm⟩
    rw [List.mem_flatten] at hs
    obtain ⟨r, hr, hs⟩ := hs
    refine ⟨⟨mkS s.data.toList, ?_, by simp [mkS]⟩, hstar⟩
    rw [List.mem_flatMap]
    exact ⟨r, hr, List.mem_map.2 ⟨_, (mem_pickL r pat _).2 ⟨⟨s, hs, rfl⟩, hm⟩, rfl⟩⟩
end Go.Proofs.YtnoimmhdoaeeiaaDoor
