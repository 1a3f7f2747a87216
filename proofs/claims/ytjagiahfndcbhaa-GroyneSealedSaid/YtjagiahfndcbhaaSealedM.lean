/- What the first loop of GroyneSealed keeps. Plain theorems, no walk. -/
import Derived.Test.YtjagiahfndcbhaaSealedL
import Derived.Test.YtjagiahfndcbhaaDrvB
namespace Go.Proofs.Ytjagiahfndcbhaa
open Go.RowKit Go.Maps

theorem OwnI.no_map {w : World} {base B : Nat} {v : Value} {l : List Int} {u : Option Value} (h : OwnI w base v l) (hm : FMap w B u) : v.ownBlock ≠ some B := by
  rcases h.2 with ⟨rfl, _⟩ | ⟨b, cap, cur, rfl, _, hb, _⟩
  · simp [Value.ownBlock]
  · intro e
    simp only [Value.ownBlock, Option.some.injEq] at e
    subst e
    exact hm.no_cells (t := 3) (cs := cur) hb
/-- the first i records are in the file, and the ends of the first k are told -/
structure SL (W wr : World) (base g : Nat) (rv : Value) (rl C : List (List UInt8)) (i k : Nat) (F : Nat → Prop) (sv nv qv : Value) (so no : Option (List UInt8)) (q : List (List UInt8)) (sure : Nat) (ev : Value) : Prop where
  d : Drv wr base g F sv nv qv so no q
  c : no.getD [] = sealsB (C.take i)
  s : so.getD [] = sealsB (C.take sure)
  si : sure ≤ i
  ql : q.length ≤ i
  e : OwnI wr base ev (endsC C k)
  ea : ∀ b, ev.ownBlock = some b → ¬ F b ∧ b ≠ g
  w : Chg Non W wr
  bw : base ≤ wr.heap.size
  wb : W.heap.size ≤ base
  r : RdBB wr (fun b => b < base) rv rl
section
variable {W wr w' : World} {base g i k sure : Nat} {rv sv nv qv sv' nv' qv' ev ev' : Value} {rl C : List (List UInt8)} {F F' : Nat → Prop} {so no : Option (List UInt8)} {q : List (List UInt8)}
theorem SL.c0 (h : SL W wr base g rv rl C i k F sv nv qv so no q sure ev) (hc : Chg Non wr w') : SL W w' base g rv rl C i k F sv nv qv so no q sure ev :=
  ⟨h.d.c0 hc, h.c, h.s, h.si, h.ql, h.e.c0 hc, h.ea, h.w.trans0 hc, Nat.le_trans h.bw hc.size, h.wb, h.r.c0 hc⟩
theorem SL.start {W w1 wr : World} {rv : Value} {rl C : List (List UInt8)} {g : Nat} (hD : Drv wr w1.heap.size g Non (.map none) (.map none) nilS none none []) (hw : Chg Non W w1) (hc : Chg Non w1 wr) (hr : RdBB wr (fun b => b < w1.heap.size) rv rl) :
    SL W wr w1.heap.size g rv rl C 0 0 Non (.map none) (.map none) nilS none none [] 0 nilS :=
  ⟨hD, rfl, rfl, Nat.le_refl _, Nat.le_refl _, OwnI.nil_ _ _, fun b hb => by simp [nilS, Value.ownBlock] at hb, hw.trans0 hc, hc.size, hw.size, hr⟩
/-- what an operation of the drive leaves of the rest -/
theorem SL.rest (h : SL W wr base g rv rl C i k F sv nv qv so no q sure ev) {S : Nat → Prop} (hc : Chg S wr w') (hS : ∀ b, S b → b = g ∨ nv = .map (some b)) :
    OwnI w' base ev (endsC C k) ∧ Chg Non W w' ∧ base ≤ w'.heap.size ∧ RdBB w' (fun b => b < base) rv rl := by
  have hb : ∀ b, S b → base ≤ b := fun b hb => by
    rcases hS b hb with e | e
    · rw [e]; exact h.d.le
    · exact (h.d.n.lt e).1
  refine ⟨h.e.chg hc fun b hb2 hs => ?_, h.w.trans hc fun b hlt hs => ?_, Nat.le_trans h.bw hc.size, h.r.chg hc fun b hlt hs => ?_⟩
  · rcases hS b hs with e | e
    · exact (h.ea b hb2).2 e
    · obtain ⟨u, hu⟩ := h.d.n.map e
      exact h.e.no_map hu hb2
  · have := hb b hs
    have := h.wb
    omega
  · have := hb b hs
    omega
theorem SL.app (h : SL W wr base g rv rl C i k F sv nv qv so no q sure ev) (hi : i < C.length) (hD : Drv w' base g F' sv nv' qv' so (some (no.getD [] ++ sealB C[i])) (q ++ [sealB C[i]])) (hc : Chg (fun k => k = g ∨ nv = .map (some k)) wr w')
    (hF : ∀ b, F' b → F b ∨ wr.heap.size ≤ b) : SL W w' base g rv rl C (i + 1) k F' sv nv' qv' so (some (no.getD [] ++ sealB C[i])) (q ++ [sealB C[i]]) sure ev := by
  obtain ⟨h1, h2, h3, h4⟩ := h.rest hc fun b hb => hb
  refine ⟨hD, ?_, h.s, Nat.le_succ_of_le h.si, by rw [List.length_append, List.length_singleton]; have := h.ql; omega, h1, fun b hb => ⟨fun hf => ?_, (h.ea b hb).2⟩, h2, h3, h.wb, h4⟩
  · rw [Option.getD_some, h.c, sealsB_take C i hi]
  · rcases hF b hf with h5 | h5
    · exact (h.ea b hb).1 h5
    · have := (h.e.lt b hb).2
      omega
theorem SL.ends (h : SL W wr base g rv rl C i k F sv nv qv so no q sure ev) (ho : OwnI w' base ev' (endsC C (k + 1))) (hg : wr.grownBy w' ev.ownBlock) (hat : ev'.ownBlock = ev.ownBlock ∨ ev'.ownBlock = some wr.heap.size) :
    SL W w' base g rv rl C i (k + 1) F sv nv qv so no q sure ev' := by
  have hc := Chg.of_grown hg
  have hm : ∀ v, FS wr base F v so ∨ FS wr base F v no → ∀ B, v = .map (some B) → ¬ some B = ev.ownBlock := fun v hv B e e2 => by
    rcases hv with hv | hv
    · obtain ⟨u, hu⟩ := hv.map e
      exact h.e.no_map hu e2.symm
    · obtain ⟨u, hu⟩ := hv.map e
      exact h.e.no_map hu e2.symm
  refine ⟨h.d.chg hc (fun e => (h.ea g e.symm).2 rfl) (fun b hb e => (h.ea b e.symm).1 hb) (hm sv (.inl h.d.s)) (hm nv (.inr h.d.n)), h.c, h.s, h.si, h.ql, ho, fun b hb => ?_, h.w.trans hc fun b hlt e => ?_, Nat.le_trans h.bw hc.size, h.wb, h.r.chg hc fun b hlt e => ?_⟩
  · rcases hat with e | e
    · exact h.ea b (e ▸ hb)
    · rw [e] at hb
      injection hb with hb
      subst hb
      exact ⟨fun hf => Nat.lt_irrefl _ (h.d.f _ hf).2.1, fun e2 => by have := h.d.blk.lt; omega⟩
  · have := (h.e.lt b e.symm).1
    have := h.wb
    omega
  · have := (h.e.lt b e.symm).1
    omega
theorem SL.flush (h : SL W wr base g rv rl C i k F sv nv qv so no q sure ev) (hD : Drv w' base g F sv' nv nilS no no []) (hc : Chg (fun k => k = g) wr w') :
    SL W w' base g rv rl C i k F sv' nv nilS no no [] i ev := by
  obtain ⟨h1, h2, h3, h4⟩ := h.rest hc fun b hb => .inl hb
  exact ⟨hD, h.c, h.c, Nat.le_refl _, Nat.zero_le _, h1, h.ea, h2, h3, h.wb, h4⟩
end
end Go.Proofs.Ytjagiahfndcbhaa
