/- Texts turned into bytes, and bytes into texts, in these words. Plain theorems, no walk. -/
import Derived.Test.YtpbgjldjipgfeaaBase
import Derived.Lib.ConvBytes
import Derived.Lib.SlBytesRow
import Derived.Laws.AppendOwn
namespace Go.Proofs.Ytpbgjldjipgfeaa
open Go.RowKit

/-- '[]byte(s)' -/
theorem conv_bytes (w : World) (s : ByteArray) : (convert 9 28 (.string s)).run Try.prog w = .ok (.slice (some ⟨w.heap.size, 0, none⟩) s.size (grownCap w s.size 0 5)) (Lib.bytesWorld w 5 s) :=
  Lib.run_convert_string_bytes w 9 28 5 s Try.underlying9 Try.underlying28 Try.underlying5
theorem bytesWorld_chg (w : World) (e : TypeId) (s : ByteArray) : Chg Non w (Lib.bytesWorld w e s) :=
  ⟨rfl, rfl, rfl, by rw [Lib.bytesWorld_size]; omega, fun k hk _ => Lib.bytesWorld_at_old w e s k hk⟩
set_option maxRecDepth 100000 in
theorem bytesWorld_rd (w : World) (e : TypeId) (s : ByteArray) (hs : s.size ≤ 1000000000) :
    RdB (Lib.bytesWorld w e s) (fun k => k = w.heap.size) (.slice (some ⟨w.heap.size, 0, none⟩) s.size (grownCap w s.size 0 e)) s.data.toList := by
  have hl : s.data.toList.length = s.size := by rw [Array.length_toList]; rfl
  refine ⟨by rw [bvs_length]; omega, some ⟨w.heap.size, 0, none⟩, grownCap w s.size 0 e, by rw [hl], by rw [hl]; exact grownCap_ge _ _ _ _, grownCap_le_maxLen _ _ _ _ (by simp only [maxLen]; omega), fun _ => ⟨_, rfl, rfl, fun j u hu => ?_⟩⟩
  rw [bvs_get] at hu
  obtain ⟨b, hb, rfl⟩ := Option.map_eq_some_iff.1 hu
  have hj := (List.getElem?_eq_some_iff.1 hb).1
  rw [add_none, Nat.zero_add, Lib.bytesWorld_cell w e s j (by omega), List.getD_eq_getElem?_getD, hb]
  rfl
/-- 'string(b)' -/
theorem conv_text {w : World} {F : Nat → Prop} {b o c : Nat} {l : List UInt8} (h : RdB w F (.slice (some ⟨b, o, none⟩) l.length c) l) : (convert 28 9 (.slice (some ⟨b, o, none⟩) l.length c)).run Try.prog w = .ok (.string ⟨l.toArray⟩) w := by
  have hc : Lib.Bytes w b o ⟨l.toArray⟩ := fun i hi => by
    have hil : i < l.length := by simpa [ByteArray.size] using hi
    obtain ⟨ad, hA, _, hcell⟩ := RdB.at_ h hil
    injection hA with hA
    subst hA
    rw [add_none] at hcell
    exact hcell
  have hsz : (⟨l.toArray⟩ : ByteArray).size = l.length := by simp [ByteArray.size]
  have := Lib.run_convert_whole (P := Try.prog) w 28 5 9 Try.underlying28 Try.underlying5 Try.underlying9 b o ⟨l.toArray⟩ hc c
  rw [hsz] at this
  exact this
end Go.Proofs.Ytpbgjldjipgfeaa
