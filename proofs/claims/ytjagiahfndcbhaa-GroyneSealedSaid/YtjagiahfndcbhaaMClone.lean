/- The walk of maps.Clone at a map of files. -/
import Derived.Test.YtjagiahfndcbhaaFMap
import Derived.Test.YtjagiahfndcbhaaBase
import Derived.Shelf.SlMaps.Clone
namespace Go.Proofs.Ytjagiahfndcbhaa
open Go.RowKit Go.Maps

theorem mapsCloneNil (w : World) : Calls Try.prog 22 #[.map none] w fun e w' => e = .returned (.map none) ∧ w' = w := by
  have hq := nilm_eq
  go_enter Try.func22, Try.ntmps22
  go_wp2_with fail
  go_ret
  exact ⟨rfl, rfl⟩
theorem mapsClone {w : World} {B : Nat} {o : Option Value} (h : FMap w B o) : Calls Try.prog 22 #[.map (some B)] w fun e w' => e = .returned (.map (some w.heap.size)) ∧ FMap w' w.heap.size o ∧ Chg Non w w' := by
  have hq := nilm_eq
  have hlt := h.lt
  obtain ⟨es, clock, hb, F, hs, hD⟩ := h
  have HF := hide F
  have HD := hide hD
  clear F hD
  go_enter Try.func22, Try.ntmps22
  go_wp2_with fail
  rw [run_callFunc_extern Try.func35 (by kernel_rfl) (by kernel_rfl) (by kernel_rfl) (e := Extern.MapsClone.clone) (by kernel_rfl), run_maps_clone_sl w 44 hb]
  simp only [Result.andThen]
  rw [Oper.upon_value]
  go_wp2_with fail
  rw [run_typeAssert_map_sl _ 44 20 _ _ _ Try.underlying44]
  simp only [Result.andThen]
  rw [Oper.upon_value]
  go_wp2_with fail
  go_ret
  exact ⟨rfl, ⟨es, clock, (MapKept.heap_alloc w _).1, HF.out, hs, HD.out⟩, (Chg.refl Non w).alloc _⟩
end Go.Proofs.Ytjagiahfndcbhaa
