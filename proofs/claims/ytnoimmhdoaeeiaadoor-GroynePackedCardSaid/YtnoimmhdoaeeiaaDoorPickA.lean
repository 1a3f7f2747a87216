/- What sorting a row in place does to memory, in these words. Plain theorems, no walk. -/
import Derived.Test.YtnoimmhdoaeeiaaDoorSS
import Derived.Test.YtnoimmhdoaeeiaaDoorLabC
import Derived.Test.YtnoimmhdoaeeiaaDoorLabD
namespace Go.Proofs.YtnoimmhdoaeeiaaDoor
open Go.RowKit Go.Lib Go.Sort

theorem mapBlock_size (w : World) (blk : Nat) (f : Array Value → Array Value) : (mapBlock w blk f).heap.size = w.heap.size := by
  unfold mapBlock
  simp
theorem mapBlock_chg (w : World) (blk : Nat) (f : Array Value → Array Value) : Chg (fun k => k = blk) w (mapBlock w blk f) := by
  refine ⟨rfl, rfl, rfl, Nat.le_of_eq (mapBlock_size w blk f).symm, fun k hk hn => ?_⟩
  unfold mapBlock
  simp only [Array.getElem?_modify]
  rw [if_neg (fun e => hn e.symm)]
theorem ahead_chg (w : World) (n : Nat) : Chg Non w (Sort.ahead w n) := ⟨rfl, rfl, rfl, Nat.le_refl _, fun _ _ _ => rfl⟩
theorem grow_chg (w : World) (os : Array Obj) : Chg Non w (grow w os) := by
  refine ⟨rfl, rfl, rfl, ?_, fun k hk _ => ?_⟩
  · show w.heap.size ≤ (w.heap ++ os).size
    rw [Array.size_append]; omega
  · show (w.heap ++ os)[k]? = _
    rw [Array.getElem?_append_left hk]
theorem Lay.chg {w w' : World} (h : Lay w w') : Chg Non w w' := by
  obtain ⟨q, os, rfl⟩ := h
  exact ((Chg.refl Non w).drewN q).trans0 (grow_chg _ _)
theorem putRow_chg {α : Type} [Inhabited α] (enc : α → Value) (w : World) (n blk off : Nat) (d : Array α) : Chg (fun k => k = blk) w (putRow enc (Sort.ahead w n) blk off d) :=
  ((ahead_chg w n).mono fun _ _ h => h.elim).trans (mapBlock_chg _ _ _) fun _ _ h => h
theorem sortWorld_chg {α : Type} [Inhabited α] (enc : α → Value) (w : World) (n blk off : Nat) (d : Array α) (os : Array Obj) : Chg (fun k => k = blk) w (sortWorld enc w blk off n d os) :=
  (putRow_chg enc w n blk off d).trans0 (grow_chg _ _)
theorem str_eta (s : ByteArray) : (⟨s.data.toList.toArray⟩ : ByteArray) = s := by cases s; simp
theorem holds_own {w : World} {base b n c : Nat} {l : List ByteArray} (h : OwnS w base (.slice (some ⟨b, 0, none⟩) n c) l) : Holds encStr w b 0 (l.map (·.data.toList)).toArray := by
  intro j hj
  have hjl : j < l.length := by simpa using hj
  have e : n = l.length := by obtain ⟨A', c', e, _, _⟩ := h.shape; injection e
  subst e
  rw [Nat.zero_add]
  refine ⟨?_, World.ownsRow.frozenAt h j⟩
  rw [World.ownsRow.cellAt h j (by omega), List.getElem?_map, List.getElem?_eq_getElem hjl, getElem!_pos _ j hj]
  simp [sv, encStr, str_eta]
theorem holds_read {w : World} {b c : Nat} {R : List (List UInt8)} {d : Array (List UInt8)} (h : Holds encStr w b 0 d) (hR : ∀ (j : Nat) (hj : j < R.length), j < d.size ∧ d[j]! = R[j]) (hc : R.length ≤ c) (hm : c ≤ maxLen) :
    RdS w (fun k => k = b) (.slice (some ⟨b, 0, none⟩) R.length c) (R.map fun l => ⟨l.toArray⟩) := by
  refine ⟨by simp, some ⟨b, 0, none⟩, c, by simp, by simpa using hc, hm, fun _ => ⟨_, rfl, rfl, fun j u hu => ?_⟩⟩
  rw [List.map_map, List.getElem?_map] at hu
  obtain ⟨x, hx, rfl⟩ := Option.map_eq_some_iff.1 hu
  obtain ⟨hj, rfl⟩ := List.getElem?_eq_some_iff.1 hx
  obtain ⟨h1, h2⟩ := hR j hj
  have := (h j h1).1
  rw [Nat.zero_add] at this
  rw [add_none, Nat.zero_add, this, h2]
  rfl
end Go.Proofs.YtnoimmhdoaeeiaaDoor
