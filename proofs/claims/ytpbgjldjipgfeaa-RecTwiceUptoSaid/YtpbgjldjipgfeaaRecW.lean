/- The walk of rec.Read, shape by shape. -/
import Derived.Test.YtpbgjldjipgfeaaRecV
namespace Go.Proofs.Ytpbgjldjipgfeaa
open Go.RowKit
set_option linter.unusedVariables false

/-- a record of the call's own -/
structure RecOwn (w : World) (base : Nat) (x : RcS) (a b c d : Value) (xs ys : List (Value × Value)) : Prop where
  wl : xs.length = x.ws.length
  rl : ys.length = x.rs.length
  ws : w.ownsRow base 49 3 a x.ws.length (flW xs x.ws)
  rs : w.ownsRow base 63 3 b x.rs.length (flW ys x.rs)
  sh : w.ownsRow base 3 1 c x.shards.length (x.shards.map fun n => .int .i64 n)
  ps : OwnPs w base (pcW xs x.ws ++ pcW ys x.rs ++ [(d, x.reply)])
theorem rdW_of {w : World} {base : Nat} {ty : TypeId} {v : Value} {l : List WrS} {xs : List (Value × Value)} (hl : xs.length = l.length) (h : w.ownsRow base ty 3 v l.length (flW xs l)) (hp : ∀ p ∈ pcW xs l, OwnB w base p.1 p.2) : RdW w (fun k => base ≤ k) v l := by
  refine ⟨xs, hl, (RdV.of_own h).mono fun k hk => (World.ownsRow.lt h k hk).1, fun i x y hx hy => ?_⟩
  have hi := (List.getElem?_eq_some_iff.1 hx).1
  have hz : (xs.zip l)[i]? = some (x, y) := by
    rw [List.getElem?_zip_eq_some]; exact ⟨hx, hy⟩
  have hm : (x, y) ∈ xs.zip l := List.mem_of_getElem? hz
  have h1 : (x.1, y.a) ∈ pcW xs l := List.mem_flatMap.2 ⟨(x, y), hm, by simp⟩
  have h2 : (x.2, y.b) ∈ pcW xs l := List.mem_flatMap.2 ⟨(x, y), hm, by simp⟩
  exact ⟨(hp _ h1).rd.mono fun k hk => ((hp _ h1).lt k hk).1, (hp _ h2).rd.mono fun k hk => ((hp _ h2).lt k hk).1⟩
theorem RecOwn.rd {w : World} {base : Nat} {x : RcS} {a b c d : Value} {xs ys : List (Value × Value)} (h : RecOwn w base x a b c d xs ys) (hu : U64 x.boot ∧ U64 x.sess ∧ U64 x.seq ∧ U64 x.id) (hk : (Lit.int .i64 x.kind).wf = true) : RecR w (fun k => base ≤ k) x a b c d := by
  obtain ⟨h1, h2, h3, h4, h5, h6⟩ := h
  refine ⟨rdW_of h1 h3 fun p hp => h6.1 p (by simp [hp]), rdW_of h2 h4 fun p hp => h6.1 p (by simp [hp]), ?_, ?_, hu.1, hu.2.1, hu.2.2.1, hu.2.2.2, hk⟩
  · have := RdV.of_own h5
    unfold RdI
    exact this.mono fun k hk => (World.ownsRow.lt h5 k hk).1
  · have h7 := h6.1 (d, x.reply) (by simp)
    exact h7.rd.mono fun k hk => (h7.lt k hk).1
/-- what a record must be: its numbers fit -/
structure RcWf (x : RcS) : Prop where
  u : U64 x.boot ∧ U64 x.sess ∧ U64 x.seq ∧ U64 x.id
  sh : ∀ s ∈ x.shards, -9223372036854775808 ≤ s ∧ s ≤ 9223372036854775807
theorem row_iterAt {w : World} {base sz n : Nat} {e : TypeId} {v : Value} {xs : List Value} {g : Nat} {s : ByteArray} {pos : Nat} (h : w.ownsRow base e sz v n xs) (hk : w.heap[g]? = some (.stringIter s pos)) (pos' : Nat) : (w.iterAt g s pos').ownsRow base e sz v n xs := by
  refine ⟨h.1, ?_⟩
  rcases h.2 with hn | ⟨g', cap, cur, rfl, hb, hg, rest⟩
  · exact .inl hn
  · refine .inr ⟨g', cap, cur, rfl, hb, ?_, rest⟩
    rw [Lib.iterAt_other _ _ _ _ _ (fun e => by subst e; rw [hk] at hg; cases hg)]
    exact hg
theorem OwnPs.iterAt {w : World} {base : Nat} {ps : List (Value × List UInt8)} {g : Nat} {s : ByteArray} {pos : Nat} (h : OwnPs w base ps) (hk : w.heap[g]? = some (.stringIter s pos)) (pos' : Nat) : OwnPs (w.iterAt g s pos') base ps :=
  ⟨fun p hp => row_iterAt (h.1 p hp) hk pos', h.2⟩
theorem Blk.iterAt {w : World} {b : Nat} {t : TypeId} {cs : Array Value} {g : Nat} {s : ByteArray} {pos : Nat} (h : Blk w b t cs) (hk : w.heap[g]? = some (.stringIter s pos)) (pos' : Nat) : Blk (w.iterAt g s pos') b t cs := by
  unfold Blk at h ⊢
  rw [Lib.iterAt_other _ _ _ _ _ (fun e => by subst e; rw [hk] at h; cases h)]
  exact h
theorem RdV.iterAt {w : World} {F : Nat → Prop} {sz n : Nat} {v : Value} {xs : List Value} {g : Nat} {s : ByteArray} {pos : Nat} (h : RdV w F sz v n xs) (hk : w.heap[g]? = some (.stringIter s pos)) (pos' : Nat) : RdV (w.iterAt g s pos') F sz v n xs := by
  obtain ⟨h1, A, c, hv, hc, hm, h2⟩ := h
  refine ⟨h1, A, c, hv, hc, hm, fun hn => ?_⟩
  obtain ⟨ad, e, hf, hcell⟩ := h2 hn
  exact ⟨ad, e, hf, fun j u hu => cell_iterAt hk (hcell j u hu)⟩
theorem RdOk.iterAt {w : World} {F : Nat → Prop} {g : Nat} {vs : List Value} {k : Nat} {s : ByteArray} {pos : Nat} (h : RdOk w F g vs) (hk : w.heap[k]? = some (.stringIter s pos)) (pos' : Nat) : RdOk (w.iterAt k s pos') F g vs := by
  obtain ⟨v, h1, h2, h3⟩ := h
  exact ⟨v, h1.iterAt hk pos', h2.iterAt hk pos', h3⟩
theorem readStart {w2 w3 : World} {g n m : Nat} {U : Option Addr} {parts : List (List UInt8)} (hO : OwnsBB w3 w2.heap.size (.slice U n m) parts) (hn : n = parts.length) (hb : Blk w3 g 78 #[.slice none 0 0, .int .i64 0]) (hszg : w2.heap.size = g + 1) :
    ∃ vs0 : List Value, vs0.length = parts.length ∧ RdOk ((w3.setCell ⟨g, 0, none⟩ (.slice U n m)).setCell ⟨g, 1, none⟩ (.int .i64 0)) (fun b => g < b ∧ b < w3.heap.size) g vs0 ∧
      OwnPs ((w3.setCell ⟨g, 0, none⟩ (.slice U n m)).setCell ⟨g, 1, none⟩ (.int .i64 0)) (g + 1) (vs0.zip parts) ∧ (∀ p ∈ vs0.zip parts, ∀ k, p.1.ownBlock = some k → k < w3.heap.size) ∧
      Chg (fun k => k = g) w3 ((w3.setCell ⟨g, 0, none⟩ (.slice U n m)).setCell ⟨g, 1, none⟩ (.int .i64 0)) := by
  subst hn
  obtain ⟨vs0, h1, h2, h3⟩ := hO.psOf
  rw [hszg] at h3
  have hB := (hb.set_ 0 (.slice U parts.length m)).set_ 1 (.int .i64 0)
  simp only [List.setIfInBounds_toArray, List.set_cons_succ, List.set_cons_zero] at hB
  have hc : Chg (fun k => k = g) w3 ((w3.setCell ⟨g, 0, none⟩ (.slice U parts.length m)).setCell ⟨g, 1, none⟩ (.int .i64 0)) := ((Chg.refl (fun k => k = g) w3).setCell (p := ⟨g, 0, none⟩) (fun _ => rfl) _).setCell (p := ⟨g, 1, none⟩) (fun _ => rfl) _
  refine ⟨vs0, h1, ⟨_, hB, ?_, fun h => Nat.lt_irrefl _ h.1⟩, h3.chg hc fun k hk _ e => by omega, h3.lt, hc⟩
  rw [h1]
  refine ((RdV.of_own h2).mono (F' := fun b => g < b ∧ b < w3.heap.size) fun k hk => ?_).chg hc fun k (hk : g < k ∧ k < w3.heap.size) (e : k = g) => by omega
  have := World.ownsRow.lt h2 k hk
  omega
theorem OwnPs.one {w : World} {base : Nat} {v : Value} {l : List UInt8} (h : OwnB w base v l) : OwnPs w base [(v, l)] := ⟨fun p hp => by simp at hp; subst hp; exact h, List.pairwise_singleton _ _⟩
theorem ret_rec {a b : Array Value} (h : a = b) : Ending.returned (.tuple #[.agg a, .int .i64 0]) = .returned (.tuple #[.agg b, .int .i64 0]) := by rw [h]
theorem fits_rec {x : RcS} (hs : RcSm x) : Fits ([kiB x.kind] :: fldR x) := by
  have a1 := txB_len x
  have a2 := triB_len x.ws
  have a3 := triB_len x.rs
  have a4 := flB_len x.commit
  have a5 := shB_len x.shards
  have a6 := numB_length x.id
  have a7 : (nmB x.name).length = x.name.size := Array.length_toList
  obtain ⟨h1, h2, h3, h4, h5, h6, h7⟩ := hs
  have hlen : (fldR x).length ≤ 4 := by
    unfold fldR
    split
    · simp
    split
    · simp
    split
    · simp
    split
    · simp
    split
    · simp
    · simp
  have hmem : ∀ l ∈ fldR x, l.length ≤ 100000000 := by
    intro l hl
    unfold fldR at hl
    split at hl
    · simp at hl; rcases hl with rfl | rfl | rfl <;> omega
    split at hl
    · simp at hl; subst hl; omega
    split at hl
    · simp at hl; rcases hl with rfl | rfl | rfl <;> omega
    split at hl
    · simp at hl; rcases hl with rfl | rfl <;> omega
    split at hl
    · simp at hl; rcases hl with rfl | rfl | rfl | rfl <;> omega
    · simp at hl
  refine ⟨by simp only [List.length_cons]; omega, fun l hl => ?_⟩
  rcases List.mem_cons.1 hl with rfl | hl
  · simp
  · have := hmem l hl; omega
end Go.Proofs.Ytpbgjldjipgfeaa
