/- A map of files with at most one name in it, as what stands there. Plain theorems, no walk. -/
import Derived.Test.YtfgecgmgbngeaaaGreatProg
import Derived.Test.YtfgecgmgbngeaaaGreatWords
import Derived.Maps.Own
import Derived.Maps.OwnSet
import Derived.Maps.Views
import Derived.Maps.RangeWalk
import Derived.Sort.MapsRangeIn
set_option linter.unusedVariables false
set_option linter.unusedSimpArgs false
set_option maxRecDepth 100000
namespace Go.Proofs.YtfgecgmgbngeaaaGreat
open Go.RowKit Go.Maps

theorem keyF : Keyed Tryz.prog 9 := string_keyed Tryz.underlying9
theorem zeroB (w : World) : (zeroValue 30).run Tryz.prog w = .ok (.slice none 0 0) w := by kernel_rfl
/-- the one name -/
abbrev fN : ByteArray := ⟨#[102]⟩
abbrev fL : Lit := .string [102]
theorem fKey : keyOf Tryz.prog 9 (.string fN) = some fL := WideMaps.keyOf_string_mk Tryz.underlying9 (by decide)
/-- an element reads as itself -/
def heldR (v : Value) : Option (DataW Value × List MemPlace) := some (.held v, [])
def datF : Option Value → DataW Value
  | none => .map []
  | some u => .map [(fL, .held u)]
/-- block B is a map of files: nothing in it, or one file, whose bytes are the slice u -/
def FMap (w : World) (B : Nat) (o : Option Value) : Prop := w.ownsMap Tryz.prog 9 heldR B 1 (datF o)
def nilS : Value := .slice none 0 0
section
variable {w w' : World} {S : Nat → Prop} {B : Nat} {o : Option Value}
theorem FMap.chg (h : FMap w B o) (hc : Chg S w w') (hB : ¬ S B) : FMap w' B o := by
  obtain ⟨es, clock, hb, F, hs, hD⟩ := h
  exact ⟨es, clock, hc.heap hb hB, F, hs, hD⟩
theorem FMap.lt (h : FMap w B o) : B < w.heap.size := World.ownsMap.lt h
theorem FMap.new (w : World) : FMap (w.alloc (.map #[] 0)) w.heap.size none := (World.ownsMap_made w Tryz.prog 9 heldR).mono (Nat.zero_le _)
theorem FMap.no_cells (h : FMap w B o) {t : TypeId} {cs : Array Value} : ¬ Blk w B t cs := by
  obtain ⟨es, clock, hb, _⟩ := h
  intro h2
  rw [Blk, hb] at h2
  cases h2
theorem FMap.no_cell (h : FMap w B o) {p : Addr} {u : Value} (hp : w.cell? p = some u) : p.block ≠ B := by
  obtain ⟨es, clock, hb, _⟩ := h
  intro e
  subst e
  simp [World.cell?, hb] at hp
theorem datF_at (o : Option Value) : (datF o).atKey fL (.held nilS) = .held (o.getD nilS) := by
  cases o with
  | none => rfl
  | some u => rfl
theorem datF_has (o : Option Value) : Maps.has (datF o) fL = o.isSome := by
  cases o with
  | none => rfl
  | some u => rfl
theorem FMap.look (h : FMap w B o) : (Instr.lookup 46 (.map (some B)) (.string fN) false).run Tryz.prog w = .ok (o.getD nilS) w := by
  obtain ⟨v, ps, hr, hv⟩ := World.ownsMap.lookup h keyF Tryz.underlying46 (zeroB w) (zd := .held nilS) rfl fKey
  rw [datF_at] at hv
  simp only [heldR, Option.some.injEq, Prod.mk.injEq, DataW.held.injEq] at hv
  rw [hr, hv.1]
theorem FMap.look_ok (h : FMap w B o) : (Instr.lookup 46 (.map (some B)) (.string fN) true).run Tryz.prog w = .ok (.tuple #[o.getD nilS, .bool o.isSome]) w := by
  obtain ⟨v, ps, hr, hv⟩ := World.ownsMap.look_ok h keyF Tryz.underlying46 (zeroB w) (zd := .held nilS) rfl fKey
  rw [datF_at] at hv
  rw [datF_has] at hr
  simp only [heldR, Option.some.injEq, Prod.mk.injEq, DataW.held.injEq] at hv
  rw [hr, hv.1]
theorem look_none (w : World) : (Instr.lookup 46 (.map none) (.string fN) false).run Tryz.prog w = .ok nilS w :=
  Maps.look_nil (w := w) false keyF Tryz.underlying46 (zeroB w) fKey
theorem look_none_ok (w : World) : (Instr.lookup 46 (.map none) (.string fN) true).run Tryz.prog w = .ok (.tuple #[nilS, .bool false]) w :=
  Maps.look_nil (w := w) true keyF Tryz.underlying46 (zeroB w) fKey
theorem ownsMap_tight {l : List (Lit × DataW Value)} {n : Nat} (h : w.ownsMap Tryz.prog 9 heldR B n (.map l)) : w.ownsMap Tryz.prog 9 heldR B l.length (.map l) := by
  obtain ⟨es, clock, hb, F, hs, hD⟩ := h
  refine ⟨es, clock, hb, F, ?_, hD⟩
  injection hD with hD
  rw [hD, length_sorted]
  simp
theorem datF_put (o : Option Value) (u : Value) : (datF o).put fL (.held u) = .map [(fL, .held u)] := by
  cases o with
  | none => rfl
  | some v => rfl
theorem FMap.put {v : Value} (h : w.ownsMap Tryz.prog 9 heldR B 2 ((datF o).put fL (.held v))) : FMap w B (some v) := by
  rw [datF_put] at h
  exact ownsMap_tight h
theorem nilm_eq (w : World) (r : Option Nat) : (binOp .eql 46 (.map r) (.map none)).run Tryz.prog w = .ok (.bool r.isNone) w := run_eql_map_nil w _ _ _ r Tryz.underlying46
end
end Go.Proofs.YtfgecgmgbngeaaaGreat
