/- A list literal of lists that the call owns, each made behind the one before. Plain theorems. -/
import Derived.Test.YtlklcdjhlpadiaaApartB
namespace Go.Proofs.Ytlklcdjhlpadiaa
open Go.RowKit

/-- the values own their bytes, no two of them in one block -/
def OwnCh (w : World) (lo : Nat) : List (Value × List UInt8) → Prop
  | [] => True
  | (x, l) :: r => OwnB w lo x l ∧ (∀ p ∈ r, ∀ b, x.ownBlock = some b → p.1.ownBlock ≠ some b) ∧ OwnCh w lo r
theorem OwnCh.nil_ (w : World) (lo : Nat) : OwnCh w lo [] := trivial
theorem OwnCh.own {w : World} {lo : Nat} : ∀ {r : List (Value × List UInt8)}, OwnCh w lo r → ∀ (k : Nat) (x : Value) (l : List UInt8), r[k]? = some (x, l) → OwnB w lo x l
  | [], _, k, x, l, h => by simp at h
  | (x0, l0) :: r, ⟨h0, _, hr⟩, 0, x, l, h => by
    simp at h
    obtain ⟨rfl, rfl⟩ := h
    exact h0
  | (x0, l0) :: r, ⟨h0, _, hr⟩, k + 1, x, l, h => hr.own k x l (by simpa using h)
theorem OwnCh.mem {w : World} {lo : Nat} {r : List (Value × List UInt8)} (h : OwnCh w lo r) {p : Value × List UInt8} (hp : p ∈ r) : OwnB w lo p.1 p.2 := by
  obtain ⟨k, hk, e⟩ := List.mem_iff_getElem.1 hp
  exact h.own k p.1 p.2 (by rw [List.getElem?_eq_getElem hk, e])
theorem OwnCh.low {w : World} {lo lo' : Nat} (hl : lo ≤ lo') : ∀ {r : List (Value × List UInt8)}, OwnCh w lo' r → OwnCh w lo r
  | [], _ => trivial
  | (x, l) :: r, ⟨h0, h1, hr⟩ => ⟨h0.low hl, h1, hr.low hl⟩
/-- the rest lies behind -/
theorem OwnCh.cons_ {w : World} {lo mid : Nat} {x : Value} {l : List UInt8} {r : List (Value × List UInt8)} (h : OwnB w lo x l) (hm : lo ≤ mid) (hx : ∀ b, x.ownBlock = some b → b < mid) (hr : OwnCh w mid r) : OwnCh w lo ((x, l) :: r) :=
  ⟨h, fun p hp b hb e => by have h1 := hx b hb; have h2 := ((hr.mem hp).lt b e).1; omega, hr.low hm⟩
/-- two that lie apart, the rest behind them -/
theorem OwnCh.cons2_ {w : World} {lo mid : Nat} {x y : Value} {l m : List UInt8} {r : List (Value × List UInt8)} (h : OwnB w lo x l) (h' : OwnB w lo y m) (hm : lo ≤ mid) (hx : ∀ b, x.ownBlock = some b → b < mid) (hy : ∀ b, y.ownBlock = some b → b < mid)
    (hxy : ∀ b, x.ownBlock = some b → y.ownBlock ≠ some b) (hr : OwnCh w mid r) : OwnCh w lo ((x, l) :: (y, m) :: r) :=
  ⟨h, fun p hp b hb e => by
    rcases List.mem_cons.1 hp with rfl | hp
    · exact hxy b hb e
    · have h1 := hx b hb; have h2 := ((hr.mem hp).lt b e).1; omega, OwnCh.cons_ h' hm hy hr⟩
theorem OwnCh.sep {w : World} {lo : Nat} : ∀ {r : List (Value × List UInt8)}, OwnCh w lo r → ∀ (i j : Nat) (x y : Value) (l m : List UInt8) (b : Nat), i < j → r[i]? = some (x, l) → r[j]? = some (y, m) → x.ownBlock = some b → y.ownBlock ≠ some b
  | [], _, i, j, x, y, l, m, b, _, h, _, _ => by simp at h
  | (x0, l0) :: r, ⟨h0, h1, hr⟩, 0, j + 1, x, y, l, m, b, _, hx, hy, hb => by
    simp at hx
    obtain ⟨rfl, rfl⟩ := hx
    exact h1 (y, m) (List.mem_of_getElem? (by simpa using hy)) b hb
  | (x0, l0) :: r, ⟨h0, h1, hr⟩, i + 1, j + 1, x, y, l, m, b, hij, hx, hy, hb =>
    hr.sep i j x y l m b (by omega) (by simpa using hx) (by simpa using hy) hb
theorem OwnsBB.lit {w : World} {base n : Nat} {r : List (Value × List UInt8)} (h : OwnCh w base r) (hbase : base ≤ w.heap.size) (hn : n = r.length) (hm : n ≤ maxLen) {cs : Array Value} (hcs : cs = (r.map (·.1)).toArray) {lls : List (List UInt8)} (hl : lls = r.map (·.2)) :
    OwnsBB (w.alloc (.cells cs 22)) base (.slice (some ⟨w.heap.size, 0, none⟩) n n) lls := by
  subst hcs; subst hl; subst hn
  have hget : ∀ (k : Nat) (x : Value), (r.map (·.1))[k]? = some x → ∃ l, r[k]? = some (x, l) := fun k x hx => by
    rw [List.getElem?_map] at hx
    obtain ⟨⟨x', l⟩, he, rfl⟩ := Option.map_eq_some_iff.1 hx
    exact ⟨l, he⟩
  refine ⟨r.map (·.1), by simp, ?_, ⟨fun i j x y b hij hx hy hb => ?_, fun i x b hx hb e => ?_⟩, fun k x l hx hl => ?_⟩
  · have h1 := World.ownsRow_lit (base := base) (e := 22) (size := 1) w (r.map (·.1)).toArray r.length hbase hm (by simp)
    simpa using h1
  · obtain ⟨l, hx⟩ := hget i x hx
    obtain ⟨m, hy⟩ := hget j y hy
    exact h.sep i j x y l m b hij hx hy hb
  · obtain ⟨l, hx⟩ := hget i x hx
    have h1 := ((h.own i x l hx).lt b hb).2
    injection e with e
    simp at e
    omega
  · obtain ⟨l', hx⟩ := hget k x hx
    rw [List.getElem?_map, hx] at hl
    simp at hl
    subst hl
    exact (h.own k x l' hx).al _
theorem RowsC.lit {w : World} {base n : Nat} {r : List (Value × List UInt8)} (h : OwnCh w base r) (hbase : base ≤ w.heap.size) (hn : n = r.length) (hm : n ≤ maxLen) {cs : Array Value} (hcs : cs = (r.map (·.1)).toArray) :
    RowsC (w.alloc (.cells cs 22)) base (.slice (some ⟨w.heap.size, 0, none⟩) n n) (r.map (·.1)) (fun j => ((r.map (·.2))[j]?).getD []) ∧ True := by
  subst hcs; subst hn
  have hget : ∀ (k : Nat) (x : Value), (r.map (·.1))[k]? = some x → ∃ l, r[k]? = some (x, l) := fun k x hx => by
    rw [List.getElem?_map] at hx
    obtain ⟨⟨x', l⟩, he, rfl⟩ := Option.map_eq_some_iff.1 hx
    exact ⟨l, he⟩
  refine ⟨⟨?_, ⟨fun i j x y b hij hx hy hb => ?_, fun i x b hx hb e => ?_⟩, fun k x hx => ?_⟩, trivial⟩
  · have h1 := World.ownsRow_lit (base := base) (e := 22) (size := 1) w (r.map (·.1)).toArray r.length hbase hm (by simp)
    simpa using h1
  · obtain ⟨l, hx⟩ := hget i x hx
    obtain ⟨m, hy⟩ := hget j y hy
    exact h.sep i j x y l m b hij hx hy hb
  · obtain ⟨l, hx⟩ := hget i x hx
    have h1 := ((h.own i x l hx).lt b hb).2
    injection e with e
    simp at e
    omega
  · obtain ⟨l', hx⟩ := hget k x hx
    show OwnB _ base x (((r.map (·.2))[k]?).getD [])
    rw [List.getElem?_map, hx]
    exact (h.own k x l' hx).al _
end Go.Proofs.Ytlklcdjhlpadiaa
