/- A list literal of lists that the call owns, each made behind the one before. Plain theorems. -/
import Derived.Test.YtijnfjnkjojjnaaBB
namespace Go.Proofs.Ytijnfjnkjojjnaa
open Go.RowKit

/-- the values own their bytes, each in memory behind that of the one before -/
def OwnCh (w : World) : Nat → List (Value × List UInt8) → Prop
  | _, [] => True
  | lo, (x, l) :: r => OwnB w lo x l ∧ ∃ mid, lo ≤ mid ∧ (∀ b, x.ownBlock = some b → b < mid) ∧ OwnCh w mid r
theorem OwnCh.nil_ (w : World) (lo : Nat) : OwnCh w lo [] := trivial
theorem OwnCh.cons_ {w : World} {lo mid : Nat} {x : Value} {l : List UInt8} {r : List (Value × List UInt8)} (h : OwnB w lo x l) (hm : lo ≤ mid) (hx : ∀ b, x.ownBlock = some b → b < mid) (hr : OwnCh w mid r) : OwnCh w lo ((x, l) :: r) := ⟨h, mid, hm, hx, hr⟩
theorem OwnCh.own {w : World} : ∀ {lo : Nat} {r : List (Value × List UInt8)}, OwnCh w lo r → ∀ (k : Nat) (x : Value) (l : List UInt8), r[k]? = some (x, l) → OwnB w lo x l
  | _, [], _, k, x, l, h => by simp at h
  | lo, (x0, l0) :: r, ⟨h0, mid, hm, _, hr⟩, 0, x, l, h => by
    simp at h
    obtain ⟨rfl, rfl⟩ := h
    exact h0
  | lo, (x0, l0) :: r, ⟨h0, mid, hm, _, hr⟩, k + 1, x, l, h => (hr.own k x l (by simpa using h)).low hm
theorem OwnCh.sep {w : World} : ∀ {lo : Nat} {r : List (Value × List UInt8)}, OwnCh w lo r → ∀ (i j : Nat) (x y : Value) (l m : List UInt8) (b : Nat), i < j → r[i]? = some (x, l) → r[j]? = some (y, m) → x.ownBlock = some b → y.ownBlock ≠ some b
  | _, [], _, i, j, x, y, l, m, b, _, h, _, _ => by simp at h
  | lo, (x0, l0) :: r, ⟨h0, mid, hm, hx0, hr⟩, 0, j + 1, x, y, l, m, b, _, hx, hy, hb => fun e => by
    simp at hx
    obtain ⟨rfl, rfl⟩ := hx
    have h1 := hx0 b hb
    have h2 := ((hr.own j y m (by simpa using hy)).lt b e).1
    omega
  | lo, (x0, l0) :: r, ⟨h0, mid, hm, hx0, hr⟩, i + 1, j + 1, x, y, l, m, b, hij, hx, hy, hb =>
    hr.sep i j x y l m b (by omega) (by simpa using hx) (by simpa using hy) hb
theorem OwnsBB.lit {w : World} {base n : Nat} {r : List (Value × List UInt8)} (h : OwnCh w base r) (hbase : base ≤ w.heap.size) (hn : n = r.length) (hm : n ≤ maxLen) {cs : Array Value} (hcs : cs = (r.map (·.1)).toArray) {lls : List (List UInt8)} (hl : lls = r.map (·.2)) :
    OwnsBB (w.alloc (.cells cs 26)) base (.slice (some ⟨w.heap.size, 0, none⟩) n n) lls := by
  subst hcs; subst hl; subst hn
  have hget : ∀ (k : Nat) (x : Value), (r.map (·.1))[k]? = some x → ∃ l, r[k]? = some (x, l) := fun k x hx => by
    rw [List.getElem?_map] at hx
    obtain ⟨⟨x', l⟩, he, rfl⟩ := Option.map_eq_some_iff.1 hx
    exact ⟨l, he⟩
  refine ⟨r.map (·.1), by simp, ?_, ⟨fun i j x y b hij hx hy hb => ?_, fun i x b hx hb e => ?_⟩, fun k x l hx hl => ?_⟩
  · have h1 := World.ownsRow_lit (base := base) (e := 26) (size := 1) w (r.map (·.1)).toArray r.length hbase hm (by simp)
    simpa using h1
  · obtain ⟨l, hx⟩ := hget i x hx
    obtain ⟨m, hy⟩ := hget j y hy
    exact h.sep i j x y l m b hij hx hy hb
  · obtain ⟨l, hx⟩ := hget i x hx
    have h1 := ((h.own i x l hx).lt b hb).2
    injection e with e
    simp at e
    omega
  · obtain ⟨l', hx⟩ := hget k x hx
    rw [List.getElem?_map, hx] at hl
    simp at hl
    subst hl
    exact (h.own k x l' hx).al _
end Go.Proofs.Ytijnfjnkjojjnaa
