/- The walk of label's Pick. -/
import Derived.Test.YtnoimmhdoaeeiaaDoorPickA
namespace Go.Proofs.YtnoimmhdoaeeiaaDoor
open Go.RowKit Go.Lib Go.Sort

/-- texts that the walks' numbers bear -/
abbrev Txt := { l : List UInt8 // l.length ≤ 1000000000 }
instance : Inhabited Txt := ⟨⟨[], by simp⟩⟩
def encT (x : Txt) : Value := encStr x.1
def cfT (x y : Txt) : Int := cmpL x.1 y.1
theorem swoT : SWO (ltOf cfT) where
  irrefl x := swoS.irrefl x.1
  trans x y z h1 h2 := swoS.trans x.1 y.1 z.1 h1 h2
  ntrans x y z h1 h2 := swoS.ntrans x.1 y.1 z.1 h1 h2
theorem totT (x y : Txt) (h1 : ltOf cfT x y = false) (h2 : ltOf cfT y x = false) : x = y := Subtype.ext (totS x.1 y.1 h1 h2)
theorem sortT (D : List Txt) : (D.mergeSort fun x y => !(ltOf cfT) y x).map Subtype.val = (D.map Subtype.val).mergeSort leS :=
  List.map_mergeSort fun a _ b _ => rfl
theorem layT (w : World) (b n : Nat) : CmpLays1 Tryd.prog 18 #[] encT cfT b 0 n w := by
  intro m os dk hs x y
  exact (labCompare (Str.of x.1) (Str.of y.1) x.2 y.2 _).mono fun _ _ ⟨h1, h2⟩ => ⟨h1, h2⟩
def toT (l : List ByteArray) (h : ∀ s ∈ l, s.size ≤ 1000000000) : List Txt := l.attach.map fun s => ⟨s.1.data.toList, by have := h s.1 s.2; rw [← (Str.any s.1).sz]; exact this⟩
theorem toT_val (l : List ByteArray) (h : ∀ s ∈ l, s.size ≤ 1000000000) : (toT l h).map Subtype.val = l.map (·.data.toList) := by
  rw [toT, List.map_map]
  have : (Subtype.val ∘ fun s : { x // x ∈ l } => (⟨s.1.data.toList, by have := h s.1 s.2; rw [← (Str.any s.1).sz]; exact this⟩ : Txt)) = fun s => s.1.data.toList := rfl
  rw [this]
  exact List.attach_map_val (l := l) (f := fun s => s.data.toList)
theorem holdsT {w : World} {b : Nat} {D : List Txt} : Holds encT w b 0 D.toArray ↔ Holds encStr w b 0 (D.map Subtype.val).toArray := by
  unfold Holds
  simp only [List.size_toArray, List.length_map]
  refine forall_congr' fun j => forall_congr' fun hj => ?_
  rw [getElem!_pos _ j (by simpa using hj), getElem!_pos _ j (by simpa using hj)]
  simp [encT]
def pickL (l : List ByteArray) (pat : ByteArray) : List (List UInt8) := srt ((l.map (·.data.toList)).filter fun s => matS s pat.data.toList)
end Go.Proofs.YtnoimmhdoaeeiaaDoor
