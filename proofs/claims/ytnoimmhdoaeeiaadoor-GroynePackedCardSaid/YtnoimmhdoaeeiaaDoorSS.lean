/- Lists of texts, and lists of such lists, in memory. Plain theorems, no walk. -/
import Derived.Test.YtnoimmhdoaeeiaaDoorWords
import Derived.Test.YtnoimmhdoaeeiaaDoorBase
namespace Go.Proofs.YtnoimmhdoaeeiaaDoor
open Go.RowKit

def sv (s : ByteArray) : Value := .string s
def RdS (w : World) (F : Nat → Prop) (v : Value) (l : List ByteArray) : Prop := RdV w F 1 v l.length (l.map sv)
def OwnS (w : World) (base : Nat) (v : Value) (l : List ByteArray) : Prop := w.ownsRow base 9 1 v l.length (l.map sv)
section
variable {w w' : World} {F F' S : Nat → Prop} {v : Value} {l m : List ByteArray} {base : Nat}
theorem RdS.mono (h : RdS w F v l) (hF : ∀ k, F k → F' k) : RdS w F' v l := RdV.mono h hF
theorem RdS.chg (h : RdS w F v l) (hc : Chg S w w') (hF : ∀ k, F k → ¬ S k) : RdS w' F v l := RdV.chg h hc hF
theorem RdS.c0 (h : RdS w F v l) (hc : Chg Non w w') : RdS w' F v l := RdV.chg h hc fun _ _ h => h
theorem RdS.dr (h : RdS w F v l) : RdS w.drew F v l := h.c0 ((Chg.refl Non w).drew)
theorem RdS.dn (h : RdS w F v l) (q : Nat) : RdS (w.drewN q) F v l := h
theorem RdS.al (h : RdS w F v l) (o : Obj) : RdS (w.alloc o) F v l := h.c0 ((Chg.refl Non w).alloc o)
theorem RdS.lt (h : RdS w F v l) : RdS w (fun k => F k ∧ k < w.heap.size) v l := RdV.lt h (by omega)
theorem RdS.nil_ (w : World) (F : Nat → Prop) : RdS w F (.slice none 0 0) [] := RdV.nil_ w F 1
theorem RdS.shape (h : RdS w F v l) : ∃ A c, v = .slice A l.length c ∧ l.length ≤ c ∧ c ≤ maxLen := RdV.shape h
theorem RdS.at_ {A : Option Addr} {n c : Nat} (h : RdS w F (.slice A n c) l) {k : Nat} (hk : k < l.length) : ∃ ad, A = some ad ∧ F ad.block ∧ w.cell? (ad.add k) = some (.string l[k]) := by
  obtain ⟨A', c', e, _, _⟩ := RdV.shape h
  injection e with e1 e2 e3
  subst e1; subst e2; subst e3
  obtain ⟨ad, u, hA, hf, hu, hc⟩ := RdV.at_ h hk (i := 0) (by omega)
  simp only [Nat.mul_one, Nat.add_zero] at hu hc
  rw [List.getElem?_map, List.getElem?_eq_getElem hk] at hu
  simp only [Option.map_some, Option.some.injEq, sv] at hu
  subst hu
  exact ⟨ad, hA, hf, hc⟩
theorem RdS.front {A : Option Addr} {n c j : Nat} (h : RdS w F (.slice A n c) l) (hj : j ≤ l.length) : RdS w F (.slice A j c) (l.take j) := by
  obtain ⟨h1, A', c', e, h2, h3, h4⟩ := h
  injection e with e1 e2 e3
  subst e1; subst e2; subst e3
  have el : (l.take j).length = j := by simp; omega
  refine ⟨by simp, A, c, by rw [el], by rw [el]; omega, h3, fun hn => ?_⟩
  obtain ⟨ad, hA, hF, hc⟩ := h4 (by rw [el] at hn; omega)
  refine ⟨ad, hA, hF, fun i u hu => hc i u ?_⟩
  rw [List.map_take, List.getElem?_take] at hu
  split at hu
  · exact hu
  · cases hu
theorem OwnS.rd (h : OwnS w base v l) : RdS w (fun k => v.ownBlock = some k) v l := RdV.of_own h
theorem OwnS.nil_ (w : World) (base : Nat) : OwnS w base (.slice none 0 0) [] := World.ownsRow_nil w base _ 1
theorem OwnS.lt (h : OwnS w base v l) : ∀ k, v.ownBlock = some k → base ≤ k ∧ k < w.heap.size := World.ownsRow.lt h
theorem OwnS.chg (h : OwnS w base v l) (hc : Chg S w w') (hn : ∀ k, v.ownBlock = some k → ¬ S k) : OwnS w' base v l := by
  refine ⟨h.1, ?_⟩
  rcases h.2 with hn' | ⟨b, cap, cur, rfl, hbb, hgg, rest⟩
  · exact .inl hn'
  · exact .inr ⟨b, cap, cur, rfl, hbb, hc.heap hgg (hn b rfl), rest⟩
theorem OwnS.c0 (h : OwnS w base v l) (hc : Chg Non w w') : OwnS w' base v l := h.chg hc fun _ _ h => h
theorem OwnS.low (h : OwnS w base v l) {b' : Nat} (hb : b' ≤ base) : OwnS w b' v l := by
  refine ⟨h.1, ?_⟩
  rcases h.2 with hn' | ⟨b, cap, cur, rfl, hbb, rest⟩
  · exact .inl hn'
  · exact .inr ⟨b, cap, cur, rfl, by omega, rest⟩
theorem OwnS.shape (h : OwnS w base v l) : ∃ A c, v = .slice A l.length c ∧ l.length ≤ c ∧ c ≤ maxLen := h.rd.shape
theorem OwnS.rdB (h : OwnS w base v l) : RdS w (fun k => base ≤ k ∧ k < w.heap.size) v l := h.rd.mono fun k hk => h.lt k hk
/-- one text in the block just made -/
theorem RdS.one (w : World) (t : TypeId) (s : ByteArray) : RdS (w.alloc (.cells #[.string s] t)) (fun k => k = w.heap.size) (.slice (some ⟨w.heap.size, 0, none⟩) 1 1) [s] :=
  ⟨rfl, _, 1, rfl, Nat.le_refl _, by simp [maxLen], fun _ => ⟨_, rfl, rfl, fun j u hu => by
    rw [add_none, (Blk.new w t #[.string s]).cell, Nat.zero_add]
    match j, hu with
    | 0, hu => simpa [sv] using hu
    | j + 1, hu => simp at hu⟩⟩
end
theorem info_str : (Tryd.prog.info? 9).map (fun i => (i.zero, i.size, i.bytes)) = some (some (.string ⟨#[]⟩), 1, 16) := by kernel_rfl
theorem svs_one (l : List ByteArray) : ∀ u ∈ l.map sv, u.oneCell' = true := by
  intro u hu
  obtain ⟨s, _, rfl⟩ := List.mem_map.1 hu
  rfl
/-- append of texts -/
theorem append_S {w : World} {ops : Array Oper} {rest : List Oper} {o : Oper} {a : Act} {Q : Exit → Act → World → Prop} (hgd : o.guard = none) (s x : Operand)
    (ho : o.op = .call { callee := .builtin .append, args := #[s, x], argTypes := #[24, 24] })
    {base : Nat} {v : Value} {l m : List ByteArray} (hown : OwnS w base v l) (hv : a.eval s = v)
    {F : Nat → Prop} {y : Value} (hr : RdS w F y m) (hy : a.eval x = y) (hb : l.length + m.length ≤ 1000000000000) (hbase : base ≤ w.heap.size)
    (h : ∀ v' w', OwnS w' base v' (l ++ m) → w.grownBy w' v.ownBlock → (v'.ownBlock = v.ownBlock ∨ v'.ownBlock = some w.heap.size) → wpList Tryd.prog ops Q rest (a.put o.dst v') w') : wpList Tryd.prog ops Q (o :: rest) a w := by
  obtain ⟨i, hi, hz, h1, h2⟩ := info_parts info_str
  refine wpList_append_rd w hgd s x _ ho base 9 i _ 1 16 Tryd.underlying24 hi hz h1 h2 rfl (by omega) v hv _ _ hown F y hy _ _ hr (svs_one m) (by simp only [maxLen]; omega) (by omega) hbase ?_
  intro v' w' hown' hg _ hat
  refine h v' w' ?_ hg hat
  rw [OwnS, List.length_append, List.map_append]
  exact hown'

/-- the slice value v reads as the lists of texts ll -/
def RdSS (w : World) (F : Nat → Prop) (v : Value) (ll : List (List ByteArray)) : Prop :=
  ∃ vs : List Value, vs.length = ll.length ∧ RdV w F 1 v ll.length vs ∧ ∀ (k : Nat) (x : Value) (l : List ByteArray), vs[k]? = some x → ll[k]? = some l → RdS w F x l
section
variable {w w' : World} {F F' S : Nat → Prop} {v : Value} {ll : List (List ByteArray)}
theorem RdSS.mono (h : RdSS w F v ll) (hF : ∀ k, F k → F' k) : RdSS w F' v ll := by
  obtain ⟨vs, h1, h2, h3⟩ := h
  exact ⟨vs, h1, h2.mono hF, fun k x l hx hl => (h3 k x l hx hl).mono hF⟩
theorem RdSS.chg (h : RdSS w F v ll) (hc : Chg S w w') (hF : ∀ k, F k → ¬ S k) : RdSS w' F v ll := by
  obtain ⟨vs, h1, h2, h3⟩ := h
  exact ⟨vs, h1, h2.chg hc hF, fun k x l hx hl => (h3 k x l hx hl).chg hc hF⟩
theorem RdSS.c0 (h : RdSS w F v ll) (hc : Chg Non w w') : RdSS w' F v ll := h.chg hc fun _ _ h => h
theorem RdSS.nil_ (w : World) (F : Nat → Prop) : RdSS w F (.slice none 0 0) [] := ⟨[], rfl, RdV.nil_ w F 1, fun k x l hx _ => by simp at hx⟩
theorem RdSS.shape (h : RdSS w F v ll) : ∃ A c, v = .slice A ll.length c ∧ ll.length ≤ c ∧ c ≤ maxLen := by
  obtain ⟨vs, h1, h2, h3⟩ := h
  exact h2.shape
theorem RdSS.at_ {A : Option Addr} {n c : Nat} (h : RdSS w F (.slice A n c) ll) {k : Nat} (hk : k < ll.length) :
    ∃ ad x, A = some ad ∧ F ad.block ∧ w.cell? (ad.add k) = some x ∧ RdS w F x ll[k] := by
  obtain ⟨vs, h1, h2, h3⟩ := h
  obtain ⟨A', c', e, _, _⟩ := RdV.shape h2
  injection e with e1 e2 e3
  subst e1; subst e2; subst e3
  obtain ⟨ad, u, hA, hf, hu, hc⟩ := RdV.at_ h2 hk (i := 0) (by omega)
  simp only [Nat.mul_one, Nat.add_zero] at hu hc
  exact ⟨ad, u, hA, hf, hc, h3 k u _ hu (List.getElem?_eq_getElem hk)⟩
theorem RdSS.front {A : Option Addr} {n c j : Nat} (h : RdSS w F (.slice A n c) ll) (hj : j ≤ ll.length) : RdSS w F (.slice A j c) (ll.take j) := by
  obtain ⟨vs, h0, ⟨h1, A', c', e, h2, h3, h4⟩, h5⟩ := h
  injection e with e1 e2 e3
  subst e1; subst e2; subst e3
  have el : (ll.take j).length = j := by simp; omega
  refine ⟨vs.take j, by rw [el, List.length_take]; omega, ⟨by rw [el, List.length_take]; omega, A, c, by rw [el], by rw [el]; omega, h3, fun hn => ?_⟩, fun k x l hx hl => ?_⟩
  · obtain ⟨ad, hA, hF, hc⟩ := h4 (by rw [el] at hn; omega)
    refine ⟨ad, hA, hF, fun i u hu => hc i u ?_⟩
    rw [List.getElem?_take] at hu
    split at hu
    · exact hu
    · cases hu
  · rw [List.getElem?_take] at hx hl
    split at hx
    · rename_i hk
      rw [if_pos hk] at hl
      exact h5 k x l hx hl
    · cases hx
end
end Go.Proofs.YtnoimmhdoaeeiaaDoor
