/- What a drive of one file is in memory. Plain theorems, no walk. -/
import Derived.Test.YtjagiahfndcbhaaDrvA
namespace Go.Proofs.Ytjagiahfndcbhaa
open Go.RowKit Go.Maps

def wI (a : Nat) (d : Value) : Value := .iface 82 (wV a d)
/-- the map value v: no file (none), or one with these bytes -/
def FS (w : World) (base : Nat) (F : Nat → Prop) (v : Value) (o : Option (List UInt8)) : Prop :=
  (v = .map none ∧ o = none) ∨ ∃ B u, v = .map (some B) ∧ base ≤ B ∧ FMap w B u ∧ ((u = none ∧ o = none) ∨ ∃ x l, u = some x ∧ o = some l ∧ RdB w F x l)
/-- the queue: writes of q, one behind the other, from place p on -/
def QS (w : World) (F : Nat → Prop) (v : Value) (p : Nat) (q : List (List UInt8)) : Prop :=
  ∃ xs : List Value, xs.length = q.length ∧ RdV w F 1 v q.length xs ∧ ∀ (i : Nat) (x : Value) (l : List UInt8), xs[i]? = some x → q[i]? = some l → ∃ d, x = wI (p + (q.take i).flatten.length) d ∧ RdB w F d l
structure Drv (w : World) (base g : Nat) (F : Nat → Prop) (sv nv qv : Value) (so no : Option (List UInt8)) (q : List (List UInt8)) : Prop where
  blk : Blk w g 47 #[sv, nv, qv, .int .i64 1073741824, .bool false, .int .i64 0, .bool false]
  le : base ≤ g
  s : FS w base F sv so
  n : FS w base F nv no
  qu : QS w F qv (so.getD []).length q
  c : no.getD [] = so.getD [] ++ q.flatten
  sep : ∀ B, sv = .map (some B) → nv ≠ .map (some B)
  f : ∀ b, F b → base ≤ b ∧ b < w.heap.size ∧ b ≠ g
section
variable {w w' : World} {base g p : Nat} {F F' S : Nat → Prop} {v sv nv qv : Value} {o so no : Option (List UInt8)} {q : List (List UInt8)}
theorem RdV.noMap {n : Nat} {xs : List Value} {B : Nat} {u : Option Value} (h : RdV w F 1 v n xs) (hm : FMap w B u) : RdV w (fun b => F b ∧ b ≠ B) 1 v n xs := by
  obtain ⟨h1, A, c, h2, h3, h4, h5⟩ := h
  refine ⟨h1, A, c, h2, h3, h4, fun hn => ?_⟩
  obtain ⟨ad, e, hF, hc⟩ := h5 hn
  refine ⟨ad, e, ⟨hF, fun hb => ?_⟩, hc⟩
  have h0 : 0 < xs.length := by rw [h1]; omega
  have := hc 0 xs[0] (List.getElem?_eq_getElem h0)
  exact hm.no_cell this (by rw [block_of_add]; exact hb)
theorem RdB.noMap {l : List UInt8} {B : Nat} {u : Option Value} (h : RdB w F v l) (hm : FMap w B u) : RdB w (fun b => F b ∧ b ≠ B) v l := RdV.noMap h hm
theorem FS.chg (h : FS w base F v o) (hc : Chg S w w') (hF : ∀ b, F b → ¬ S b) (hB : ∀ B, v = .map (some B) → ¬ S B) : FS w' base F v o := by
  rcases h with h | ⟨B, u, rfl, h1, h2, h3⟩
  · exact .inl h
  · refine .inr ⟨B, u, rfl, h1, h2.chg hc (hB B rfl), ?_⟩
    rcases h3 with h | ⟨x, l, h4, h5, h6⟩
    · exact .inl h
    · exact .inr ⟨x, l, h4, h5, h6.chg hc hF⟩
theorem FS.mono (h : FS w base F v o) (hF : ∀ b, F b → F' b) : FS w base F' v o := by
  rcases h with h | ⟨B, u, rfl, h1, h2, h3⟩
  · exact .inl h
  · refine .inr ⟨B, u, rfl, h1, h2, ?_⟩
    rcases h3 with h | ⟨x, l, h4, h5, h6⟩
    · exact .inl h
    · exact .inr ⟨x, l, h4, h5, h6.mono hF⟩
theorem FS.noMap {B : Nat} {u : Option Value} (h : FS w base F v o) (hm : FMap w B u) : FS w base (fun b => F b ∧ b ≠ B) v o := by
  rcases h with h | ⟨B, u, rfl, h1, h2, h3⟩
  · exact .inl h
  · refine .inr ⟨B, u, rfl, h1, h2, ?_⟩
    rcases h3 with h | ⟨x, l, h4, h5, h6⟩
    · exact .inl h
    · exact .inr ⟨x, l, h4, h5, h6.noMap hm⟩
theorem FS.lt (h : FS w base F v o) {B : Nat} (e : v = .map (some B)) : base ≤ B ∧ B < w.heap.size := by
  rcases h with ⟨rfl, _⟩ | ⟨B', u, rfl, h1, h2, _⟩
  · cases e
  · injection e with e; injection e with e; subst e
    exact ⟨h1, h2.lt⟩
theorem FS.map (h : FS w base F v o) {B : Nat} (e : v = .map (some B)) : ∃ u, FMap w B u := by
  rcases h with ⟨rfl, _⟩ | ⟨B', u, rfl, h1, h2, _⟩
  · cases e
  · injection e with e; injection e with e; subst e
    exact ⟨u, h2⟩
theorem QS.chg (h : QS w F v p q) (hc : Chg S w w') (hF : ∀ b, F b → ¬ S b) : QS w' F v p q := by
  obtain ⟨xs, h1, h2, h3⟩ := h
  refine ⟨xs, h1, h2.chg hc hF, fun i x l hx hl => ?_⟩
  obtain ⟨d, e, hd⟩ := h3 i x l hx hl
  exact ⟨d, e, hd.chg hc hF⟩
theorem QS.mono (h : QS w F v p q) (hF : ∀ b, F b → F' b) : QS w F' v p q := by
  obtain ⟨xs, h1, h2, h3⟩ := h
  refine ⟨xs, h1, h2.mono hF, fun i x l hx hl => ?_⟩
  obtain ⟨d, e, hd⟩ := h3 i x l hx hl
  exact ⟨d, e, hd.mono hF⟩
theorem QS.noMap {B : Nat} {u : Option Value} (h : QS w F v p q) (hm : FMap w B u) : QS w (fun b => F b ∧ b ≠ B) v p q := by
  obtain ⟨xs, h1, h2, h3⟩ := h
  refine ⟨xs, h1, RdV.noMap h2 hm, fun i x l hx hl => ?_⟩
  obtain ⟨d, e, hd⟩ := h3 i x l hx hl
  exact ⟨d, e, hd.noMap hm⟩
theorem QS.nil_ (w : World) (F : Nat → Prop) (p : Nat) : QS w F nilS p [] := ⟨[], rfl, RdV.nil_ w F 1, fun i x l hx _ => by simp at hx⟩
theorem Drv.chg (h : Drv w base g F sv nv qv so no q) (hc : Chg S w w') (hg : ¬ S g) (hF : ∀ b, F b → ¬ S b) (hs : ∀ B, sv = .map (some B) → ¬ S B) (hn : ∀ B, nv = .map (some B) → ¬ S B) : Drv w' base g F sv nv qv so no q :=
  ⟨h.blk.chg hc hg, h.le, h.s.chg hc hF hs, h.n.chg hc hF hn, h.qu.chg hc hF, h.c, h.sep, fun b hb => ⟨(h.f b hb).1, Nat.lt_of_lt_of_le (h.f b hb).2.1 hc.size, (h.f b hb).2.2⟩⟩
theorem Drv.c0 (h : Drv w base g F sv nv qv so no q) (hc : Chg Non w w') : Drv w' base g F sv nv qv so no q := h.chg hc (fun h => h) (fun _ _ h => h) (fun _ _ h => h) (fun _ _ h => h)
/-- the reading of what stands in the file -/
theorem FS.read (h : FS w base F v o) : ∃ x, RdB w F x (o.getD []) ∧ (v = .map none ∧ x = nilS ∨ ∃ B u, v = .map (some B) ∧ FMap w B u ∧ u.getD nilS = x) := by
  rcases h with ⟨rfl, rfl⟩ | ⟨B, u, rfl, h1, h2, h3⟩
  · exact ⟨nilS, RdB.nil_ w F, .inl ⟨rfl, rfl⟩⟩
  · rcases h3 with ⟨rfl, rfl⟩ | ⟨x, l, rfl, rfl, h6⟩
    · exact ⟨nilS, RdB.nil_ w F, .inr ⟨B, none, rfl, h2, rfl⟩⟩
    · exact ⟨x, h6, .inr ⟨B, some x, rfl, h2, rfl⟩⟩
/-- 'seen[name]' -/
theorem FS.look (h : FS w base F v o) : ∃ x, RdB w F x (o.getD []) ∧ ∀ w', Chg Non w w' → (Instr.lookup 44 v (.string fN) false).run Try.prog w' = .ok x w' := by
  obtain ⟨x, hx, h1 | ⟨B, u, h1, h2, h3⟩⟩ := h.read
  · obtain ⟨rfl, rfl⟩ := h1
    exact ⟨_, hx, fun w' _ => look_none w'⟩
  · subst h1
    refine ⟨x, hx, fun w' hc => ?_⟩
    rw [← h3]
    exact (h2.chg hc fun h => h).look
end
end Go.Proofs.Ytjagiahfndcbhaa
