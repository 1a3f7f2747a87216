/- Sorting and making single, as contracts in these words; the walk of label's Pick. -/
import Derived.Test.YtnoimmhdoaeeiaaDoorPick
namespace Go.Proofs.YtnoimmhdoaeeiaaDoor
open Go.RowKit Go.Lib Go.Sort

theorem compact_srt (l : List (List UInt8)) : Lib.compact (l.mergeSort leS) = srt l := by
  rw [Lib.compact, List.length_mergeSort]
  exact srt_compact l
theorem pickSort {w : World} {base b c : Nat} {L : List ByteArray} (h : OwnS w base (.slice (some ⟨b, 0, none⟩) L.length c) L) (hs : ∀ s ∈ L, s.size ≤ 1000000000) (hl : L.length ≤ 1000000) (hb : b < w.heap.size) :
    Calls Tryd.prog 17 #[.slice (some ⟨b, 0, none⟩) L.length c, .func (.func 18) #[] #[]] w fun e w' => e = .returned (.tuple #[]) ∧
      Holds encStr w' b 0 ((L.map (·.data.toList)).mergeSort leS).toArray ∧ Chg (fun k => k = b) w w' := by
  have eg : ∀ args w, (callFunc 18 args).run Tryd.prog w = .ok (.enter 18 args) w := enters_of Tryd.func18 (by kernel_rfl) rfl
  have hH : Holds encT w b 0 (toT L hs).toArray := holdsT.2 (by rw [toT_val]; exact holds_own h)
  have hsz : (toT L hs).toArray.size = L.length := by simp [toT]
  have hcon := Tryd.slices_SortFunc_total encT (fun _ => rfl) cfT swoT 18 #[] b 0 c (toT L hs).toArray w eg (layT w b _) hH hb (by rw [hsz]; omega) totT
  rw [hsz] at hcon
  refine hcon.mono ?_
  rintro e w' ⟨rfl, n, os, rfl⟩
  refine ⟨rfl, ?_, sortWorld_chg _ _ _ _ _ _ _⟩
  have h2 := holds_sortWorld encT w b 0 n (toT L hs).toArray ((toT L hs).toArray.toList.mergeSort fun x y => !(ltOf cfT) y x).toArray os hb hH (by simp)
  have h3 := holdsT.1 h2
  rw [sortT, show (toT L hs).toArray.toList = toT L hs from rfl, toT_val] at h3
  exact h3
theorem pickCompact {w : World} {b c : Nat} {D : List (List UInt8)} (h : Holds encStr w b 0 (D.mergeSort leS).toArray) (hl : D.length ≤ 1000000) (hc : D.length ≤ c) (hm : c ≤ maxLen) :
    Calls Tryd.prog 19 #[.slice (some ⟨b, 0, none⟩) D.length c] w fun e w' => ∃ u, e = .returned u ∧ RdS w' (fun k => k = b) u ((srt D).map fun l => ⟨l.toArray⟩) ∧ Chg (fun k => k = b) w w' := by
  have hlen : (D.mergeSort leS).length = D.length := List.length_mergeSort _
  have hcon := Tryd.slices_Compact_string b 0 c (D.mergeSort leS) w h (by rw [hlen]; omega) (by rw [hlen]; exact hc)
  rw [hlen, compact_srt] at hcon
  refine hcon.mono ?_
  rintro e w' ⟨rfl, q, rfl⟩
  have hsl : (srt D).length ≤ D.length := by
    rw [← compact_srt]
    rw [Lib.compact, hlen, Lib.compactUpTo, List.length_map]
    exact Nat.le_trans (List.length_filter_le _ _) (by simp)
  refine ⟨_, rfl, holds_read (holds_putRow encStr (Sort.ahead w q) b 0 (D.mergeSort leS).toArray _ (holds_ahead encStr w q b 0 _ h) (by simp; omega)) (fun j hj => ?_) (by omega) hm, putRow_chg _ _ _ _ _ _⟩
  have hjd : j < (srt D ++ List.replicate (D.length - (srt D).length) []).toArray.size := by simp; omega
  refine ⟨hjd, ?_⟩
  rw [getElem!_pos _ j hjd]
  simp [List.getElem_append_left hj]
end Go.Proofs.YtnoimmhdoaeeiaaDoor
