/- What a drive's files are in memory. Plain theorems, no walk. -/
import Derived.Test.YtfgecgmgbngeaaaGreatMapM
import Derived.Test.YtfgecgmgbngeaaaGreatFMap
import Derived.Test.YtfgecgmgbngeaaaGreatBase
import Derived.Shelf.SlMaps.Clone
set_option linter.unusedSimpArgs false
set_option maxRecDepth 100000
namespace Go.Proofs.YtfgecgmgbngeaaaGreat
open Go.RowKit Go.Maps
set_option linter.unusedVariables false

/-- a list of files: names, the slices that stand there, their bytes -/
abbrev FL := List (Nm × (Value × List UInt8))
abbrev datS (l : FL) : DataW Value := dat klS (fun x => .held x.1) l
def fOf (l : FL) : Fls := fun k => (aGet klS l k).map (·.2)
theorem fOf_nil : fOf [] = noF := rfl
theorem fOf_put {l : FL} (h : Once l) (k : Nm) (x : Value) (b : List UInt8) : fOf (aPut klS k (x, b) l) = setF (fOf l) k (some b) := by
  funext j
  unfold fOf setF
  by_cases e : j = k
  · subst e; rw [put_same keyS h, if_pos rfl]; rfl
  · rw [put_other keyS h e, if_neg e]
theorem fOf_del {l : FL} (h : Once l) (k : Nm) : fOf (aDel klS k l) = setF (fOf l) k none := by
  funext j
  unfold fOf setF
  by_cases e : j = k
  · subst e; rw [del_same keyS, if_pos rfl]; rfl
  · rw [del_other keyS h e, if_neg e]
/-- the map value v is the list of files l -/
structure FsL (w : World) (sup : List Nm) (F : Nat → Prop) (v : Value) (l : FL) : Prop where
  once : Once l
  sup : ∀ p ∈ l, p.1 ∈ sup
  rd : ∀ p ∈ l, RdB w F p.2.1 p.2.2
  map : (v = .map none ∧ l = []) ∨ ∃ B, v = .map (some B) ∧ w.ownsMap Tryz.prog 9 heldR B l.length (datS l)
/-- .. and reads as f -/
def FsAt (w : World) (sup : List Nm) (F : Nat → Prop) (v : Value) (f : Fls) : Prop := ∃ l, FsL w sup F v l ∧ f = fOf l
theorem len_sub {α : Type} [DecidableEq α] : ∀ (l sup : List α), l.Pairwise (· ≠ ·) → (∀ x ∈ l, x ∈ sup) → l.length ≤ sup.length
  | [], _, _, _ => Nat.zero_le _
  | x :: r, sup, h, hs => by
    obtain ⟨h1, h2⟩ := List.pairwise_cons.1 h
    have hx := hs x (by simp)
    have ih := len_sub r (sup.erase x) h2 fun y hy => (List.mem_erase_of_ne (h1 y hy).symm).2 (hs y (by simp [hy]))
    rw [List.length_erase_of_mem hx] at ih
    have := List.length_pos_of_mem hx
    rw [List.length_cons]; omega
section
variable {w w' : World} {sup : List Nm} {F F' S : Nat → Prop} {v : Value} {l : FL} {f : Fls}
theorem FsL.len (h : FsL w sup F v l) : l.length ≤ sup.length := by
  have := len_sub (l.map (·.1)) sup (by rw [List.pairwise_map]; exact h.once) fun x hx => by
    obtain ⟨p, hp, rfl⟩ := List.mem_map.1 hx
    exact h.sup p hp
  simpa using this
theorem ownsMap_chg {P : Program} {k : TypeId} {R : Value → Option (DataW Value × List MemPlace)} {B n : Nat} {D : DataW Value} (h : w.ownsMap P k R B n D) (hc : Chg S w w') (hB : ¬ S B) : w'.ownsMap P k R B n D := by
  obtain ⟨es, clock, hb, F, hs, hD⟩ := h
  exact ⟨es, clock, hc.heap hb hB, F, hs, hD⟩
theorem ownsMap_cells {P : Program} {k : TypeId} {R : Value → Option (DataW Value × List MemPlace)} {B n : Nat} {D : DataW Value} (h : w.ownsMap P k R B n D) {t : TypeId} {cs : Array Value} : ¬ Blk w B t cs := by
  obtain ⟨es, clock, hb, _⟩ := h
  intro h2
  rw [Blk, hb] at h2
  cases h2
theorem tight {P : Program} {k : TypeId} {R : Value → Option (DataW Value × List MemPlace)} {B n : Nat} {l : List (Lit × DataW Value)} (h : w.ownsMap P k R B n (.map l)) : w.ownsMap P k R B l.length (.map l) := by
  obtain ⟨es, clock, hb, F, hs, hD⟩ := h
  refine ⟨es, clock, hb, F, ?_, hD⟩
  injection hD with hD
  rw [hD, length_sorted]
  simp
theorem FsL.chg (h : FsL w sup F v l) (hc : Chg S w w') (hF : ∀ b, F b → ¬ S b) (hB : ∀ B, v = .map (some B) → ¬ S B) : FsL w' sup F v l :=
  ⟨h.once, h.sup, fun p hp => (h.rd p hp).chg hc hF, by
    rcases h.map with h1 | ⟨B, h1, h2⟩
    · exact .inl h1
    · exact .inr ⟨B, h1, ownsMap_chg h2 hc (hB B h1)⟩⟩
theorem FsL.mono (h : FsL w sup F v l) (hF : ∀ b, F b → F' b) : FsL w sup F' v l := ⟨h.once, h.sup, fun p hp => (h.rd p hp).mono hF, h.map⟩
theorem FsL.fix (h : FsL w sup F v l) : FsL w sup (fun b => F b ∧ b < w.heap.size) v l := ⟨h.once, h.sup, fun p hp => (h.rd p hp).lt, h.map⟩
theorem FsL.lt (h : FsL w sup F v l) {B : Nat} (e : v = .map (some B)) : B < w.heap.size := by
  rcases h.map with ⟨h1, _⟩ | ⟨B', h1, h2⟩
  · rw [h1] at e; cases e
  · rw [h1] at e; injection e with e; injection e with e; subst e; exact World.ownsMap.lt h2
theorem FsL.noBlk (h : FsL w sup F v l) {B : Nat} (e : v = .map (some B)) {t : TypeId} {cs : Array Value} : ¬ Blk w B t cs := by
  rcases h.map with ⟨h1, _⟩ | ⟨B', h1, h2⟩
  · rw [h1] at e; cases e
  · rw [h1] at e; injection e with e; injection e with e; subst e; exact ownsMap_cells h2
theorem FsL.form (h : FsL w sup F v l) : ∃ r, v = .map r := by
  rcases h.map with ⟨h1, _⟩ | ⟨B', h1, h2⟩
  · exact ⟨_, h1⟩
  · exact ⟨_, h1⟩
theorem keyOf_s (s : ByteArray) (hs : s.size ≤ maxLen) : keyOf Tryz.prog 9 (.string s) = some (klS s.data.toList) := WideMaps.keyOf_string_mk Tryz.underlying9 hs
theorem datS_at (l : FL) (k : Nm) : (datS l).atKey (klS k) (.held nilS) = .held (((aGet klS l k).map (·.1)).getD nilS) := by
  rw [dat_at]
  cases aGet klS l k <;> rfl
/-- 'files[name]' -/
theorem FsL.look (h : FsL w sup F v l) (s : ByteArray) (hs : s.size ≤ maxLen) :
    ∃ x, RdB w F x ((fOf l s.data.toList).getD []) ∧ ∀ w', Chg Non w w' → (Instr.lookup 46 v (.string s) false).run Tryz.prog w' = .ok x w' ∧ (Instr.lookup 46 v (.string s) true).run Tryz.prog w' = .ok (.tuple #[x, .bool (fOf l s.data.toList).isSome]) w' := by
  rcases h.map with ⟨rfl, rfl⟩ | ⟨B, rfl, hm⟩
  · refine ⟨nilS, RdB.nil_ w F, fun w' _ => ⟨?_, ?_⟩⟩
    · exact Maps.look_nil (w := w') false keyF Tryz.underlying46 (zeroB w') (keyOf_s s hs)
    · exact Maps.look_nil (w := w') true keyF Tryz.underlying46 (zeroB w') (keyOf_s s hs)
  · refine ⟨((aGet klS l s.data.toList).map (·.1)).getD nilS, ?_, fun w' hc => ⟨?_, ?_⟩⟩
    · unfold fOf
      cases e : aGet klS l s.data.toList with
      | none => exact RdB.nil_ w F
      | some p => exact h.rd _ (get_mem keyS e)
    · obtain ⟨v, ps, hr, hv⟩ := World.ownsMap.lookup (ownsMap_chg hm hc (fun h => h)) keyF Tryz.underlying46 (zeroB w') (zd := .held nilS) rfl (keyOf_s s hs)
      rw [datS_at] at hv
      simp only [heldR, Option.some.injEq, Prod.mk.injEq, DataW.held.injEq] at hv
      rw [hr, hv.1]
    · obtain ⟨v, ps, hr, hv⟩ := World.ownsMap.look_ok (ownsMap_chg hm hc (fun h => h)) keyF Tryz.underlying46 (zeroB w') (zd := .held nilS) rfl (keyOf_s s hs)
      rw [datS_at] at hv
      rw [dat_has] at hr
      simp only [heldR, Option.some.injEq, Prod.mk.injEq, DataW.held.injEq] at hv
      have e : (aGet klS l s.data.toList).isSome = (fOf l s.data.toList).isSome := by unfold fOf; cases aGet klS l s.data.toList <;> rfl
      rw [hr, hv.1, e]
theorem FsL.new (w : World) (sup : List Nm) (F : Nat → Prop) : FsL (w.alloc (.map #[] 0)) sup F (.map (some w.heap.size)) [] :=
  ⟨Once.nil_, fun p hp => by simp at hp, fun p hp => by simp at hp, .inr ⟨_, rfl, World.ownsMap_made w Tryz.prog 9 heldR⟩⟩
/-- 'files[name] = x' -/
theorem FsL.put {B n : Nat} (h : FsL w sup F (.map (some B)) l) (hF : ∀ b, F b → b ≠ B) (hc : Chg (fun k => k = B) w w') {k : Nm} (hk : k ∈ sup) {x : Value} {b : List UInt8} (hx : RdB w F x b) (hm : w'.ownsMap Tryz.prog 9 heldR B n ((datS l).put (klS k) (.held x))) :
    FsL w' sup F (.map (some B)) (aPut klS k (x, b) l) := by
  have e := dat_put klS (fun x : Value × List UInt8 => (DataW.held x.1 : DataW Value)) l k (x, b)
  rw [show (datS l).put (klS k) (.held x) = datS (aPut klS k (x, b) l) from e] at hm
  have ht := tight hm
  rw [List.length_map] at ht
  refine ⟨h.once.put keyS _ _, fun p hp => ?_, fun p hp => ?_, .inr ⟨B, rfl, ht⟩⟩
  · rcases (mem_put keyS).1 hp with rfl | ⟨h1, _⟩
    · exact hk
    · exact h.sup p h1
  · rcases (mem_put keyS).1 hp with rfl | ⟨h1, _⟩
    · exact hx.chg hc hF
    · exact (h.rd p h1).chg hc hF
/-- 'delete(files, name)' -/
theorem FsL.del {B n : Nat} (h : FsL w sup F (.map (some B)) l) (hF : ∀ b, F b → b ≠ B) (hc : Chg (fun k => k = B) w w') {k : Nm} (hm : w'.ownsMap Tryz.prog 9 heldR B n ((datS l).del (klS k))) :
    FsL w' sup F (.map (some B)) (aDel klS k l) := by
  rw [show (datS l).del (klS k) = datS (aDel klS k l) from dat_del klS _ l k] at hm
  have ht := tight hm
  rw [List.length_map] at ht
  exact ⟨h.once.del _, fun p hp => h.sup p ((mem_del keyS).1 hp).1, fun p hp => (h.rd p ((mem_del keyS).1 hp).1).chg hc hF, .inr ⟨B, rfl, ht⟩⟩
end

/-! ### how many bytes all files have -/
def totL (l : FL) : Nat := (l.map fun p => p.2.2.length).sum
def totF (sup : List Nm) (f : Fls) : Nat := (sup.map fun k => ((f k).getD []).length).sum
theorem sum_zero (sup : List Nm) : (sup.map fun k => (((noF k).getD []).length)).sum = 0 := by
  induction sup with
  | nil => rfl
  | cons a r ih => rw [List.map_cons, List.sum_cons, ih]; rfl
theorem tot_step (f : Fls) (k : Nm) (b : List UInt8) (hk : f k = none) : ∀ sup : List Nm, sup.Pairwise (· ≠ ·) → totF sup (setF f k (some b)) = totF sup f + if k ∈ sup then b.length else 0
  | [], _ => by simp [totF]
  | a :: r, h => by
    obtain ⟨h1, h2⟩ := List.pairwise_cons.1 h
    have ih := tot_step f k b hk r h2
    unfold totF at ih ⊢
    rw [List.map_cons, List.sum_cons, List.map_cons, List.sum_cons, ih]
    by_cases e : a = k
    · subst e
      have hn : ¬ a ∈ r := fun hm => h1 a hm rfl
      rw [setF_same, hk, if_neg hn, if_pos (by simp)]
      simp only [Option.getD_some, Option.getD_none, List.length_nil]
      omega
    · rw [setF_ne f e]
      by_cases hm : k ∈ r
      · rw [if_pos hm, if_pos (by simp [hm])]; omega
      · rw [if_neg hm, if_neg (by simp [hm]; exact fun e2 => e e2.symm)]; omega
theorem totL_F {sup : List Nm} (hsup : sup.Pairwise (· ≠ ·)) : ∀ {l : FL}, Once l → (∀ p ∈ l, p.1 ∈ sup) → totL l = totF sup (fOf l)
  | [], _, _ => (sum_zero sup).symm
  | p :: r, ho, hs => by
    obtain ⟨h1, h2⟩ := List.pairwise_cons.1 ho
    have ih := totL_F hsup h2 fun q hq => hs q (by simp [hq])
    have hn : fOf r p.1 = none := by
      unfold fOf
      rw [get_none keyS fun q hq e => h1 q hq e.symm]; rfl
    have e : fOf (p :: r) = setF (fOf r) p.1 (some p.2.2) := by
      funext j
      unfold fOf setF
      by_cases e : j = p.1
      · subst e
        rw [mem_get keyS ho (k := p.1) (v := p.2) (by simp), if_pos rfl]; rfl
      · rw [if_neg e]
        have : aGet klS (p :: r) j = aGet klS r j := by
          unfold aGet
          rw [List.find?_cons, keyS.ne (fun e2 => e e2.symm)]
        rw [this]
    rw [e, tot_step _ _ _ hn sup hsup, if_pos (hs p (by simp)), ← ih]
    show (p.2.2.length + totL r) = _
    omega
/-- what is still to come of a range over the files -/
def sumLeft (l : FL) (left : Lit → Bool) : Nat := (l.map fun p => if left (klS p.1) = true then p.2.2.length else 0).sum
theorem sumLeft_all {l : FL} {left : Lit → Bool} (h : ∀ p ∈ l, left (klS p.1) = true) : sumLeft l left = totL l := by
  unfold sumLeft totL
  congr 1
  exact List.map_congr_left fun p hp => if_pos (h p hp)
theorem sumLeft_none (l : FL) {left : Lit → Bool} (h : ∀ z, left z = false) : sumLeft l left = 0 := by
  unfold sumLeft
  induction l with
  | nil => rfl
  | cons p r ih => rw [List.map_cons, List.sum_cons, ih, h, if_neg (by decide)]
theorem sumLeft_step : ∀ {l : FL} {left : Lit → Bool} {p : Nm × (Value × List UInt8)}, Once l → p ∈ l → left (klS p.1) = true → sumLeft l left = p.2.2.length + sumLeft l fun z => left z && !z.sameKey (klS p.1)
  | [], _, _, _, h, _ => by simp at h
  | q :: r, left, p, ho, hp, hl => by
    obtain ⟨h1, h2⟩ := List.pairwise_cons.1 ho
    have rest : ∀ r : FL, (∀ x ∈ r, x.1 ≠ p.1) → sumLeft r left = sumLeft r fun z => left z && !z.sameKey (klS p.1) := fun r hr => by
      unfold sumLeft
      congr 1
      refine List.map_congr_left fun x hx => ?_
      show _ = if (left (klS x.1) && !(klS x.1).sameKey (klS p.1)) = true then _ else 0
      rw [keyS.ne (hr x hx)]
      simp
    have e : ∀ lf : Lit → Bool, sumLeft (q :: r) lf = (if lf (klS q.1) = true then q.2.2.length else 0) + sumLeft r lf := fun lf => rfl
    rw [e, e]
    rcases List.mem_cons.1 hp with rfl | hp
    · rw [if_pos hl, rest r fun x hx => (h1 x hx).symm, (keyS.same _ _).2 rfl]
      simp
    · rw [keyS.ne (h1 p hp), sumLeft_step h2 hp hl]
      simp
      omega
end Go.Proofs.YtfgecgmgbngeaaaGreat

set_option maxRecDepth 100000
namespace Go.Proofs.YtfgecgmgbngeaaaGreat
open Go.RowKit Go.Maps
set_option linter.unusedVariables false

/-- a drive as data -/
structure DSt where
  safe : Fls
  seen : Fls
  queue : List Deed
  arm : Option Nat
  dead : Bool
/-- a deed as a value -/
def DeedV (w : World) (F : Nat → Prop) : Value → Deed → Prop
  | x, .wr n a d => ∃ (s : ByteArray) (dv : Value), x = .iface 154 (.agg #[.string s, .int .i64 (a : Int), dv]) ∧ s.data.toList = n ∧ s.size ≤ 1000 ∧ RdB w F dv d
  | x, .mv a b => ∃ s t : ByteArray, x = .iface 171 (.agg #[.string s, .string t]) ∧ s.data.toList = a ∧ t.data.toList = b ∧ s.size ≤ 1000 ∧ t.size ≤ 1000
  | x, .rm n => ∃ s : ByteArray, x = .iface 169 (.agg #[.string s]) ∧ s.data.toList = n ∧ s.size ≤ 1000
  | _, .tr _ _ => False
/-- the queue in memory -/
def QAt (w : World) (F : Nat → Prop) (v : Value) (q : List Deed) : Prop :=
  ∃ xs : List Value, xs.length = q.length ∧ RdV w F 1 v q.length xs ∧ ∀ (i : Nat) (x : Value) (d : Deed), xs[i]? = some x → q[i]? = some d → DeedV w F x d
section
variable {w w' : World} {F F' S : Nat → Prop} {v x : Value} {d : Deed} {q : List Deed}
theorem DeedV.chg (h : DeedV w F x d) (hc : Chg S w w') (hF : ∀ b, F b → ¬ S b) : DeedV w' F x d := by
  cases d with
  | wr n a d => obtain ⟨s, dv, h1, h2, h3, h4⟩ := h; exact ⟨s, dv, h1, h2, h3, h4.chg hc hF⟩
  | mv a b => exact h
  | rm n => exact h
  | tr n s => exact h
theorem DeedV.mono (h : DeedV w F x d) (hF : ∀ b, F b → F' b) : DeedV w F' x d := by
  cases d with
  | wr n a d => obtain ⟨s, dv, h1, h2, h3, h4⟩ := h; exact ⟨s, dv, h1, h2, h3, h4.mono hF⟩
  | mv a b => exact h
  | rm n => exact h
  | tr n s => exact h
theorem DeedV.one (h : DeedV w F x d) : x.oneCell' = true := by
  cases d with
  | wr n a d => obtain ⟨s, dv, h1, _⟩ := h; rw [h1]; rfl
  | mv a b => obtain ⟨s, dv, h1, _⟩ := h; rw [h1]; rfl
  | rm n => obtain ⟨s, h1, _⟩ := h; rw [h1]; rfl
  | tr n s => exact h.elim
theorem QAt.chg (h : QAt w F v q) (hc : Chg S w w') (hF : ∀ b, F b → ¬ S b) : QAt w' F v q := by
  obtain ⟨xs, h1, h2, h3⟩ := h
  exact ⟨xs, h1, h2.chg hc hF, fun i x d hx hd => (h3 i x d hx hd).chg hc hF⟩
theorem QAt.mono (h : QAt w F v q) (hF : ∀ b, F b → F' b) : QAt w F' v q := by
  obtain ⟨xs, h1, h2, h3⟩ := h
  exact ⟨xs, h1, h2.mono hF, fun i x d hx hd => (h3 i x d hx hd).mono hF⟩
theorem QAt.nil_ (w : World) (F : Nat → Prop) : QAt w F nilS [] := ⟨[], rfl, RdV.nil_ w F 1, fun i x d hx _ => by simp at hx⟩
theorem QAt.shape (h : QAt w F v q) : ∃ Q c, v = .slice Q q.length c ∧ q.length ≤ c ∧ c ≤ maxLen := by
  obtain ⟨xs, h1, h2, h3⟩ := h
  exact h2.shape
theorem QAt.at_ {Q : Option Addr} {n c : Nat} (h : QAt w F (.slice Q n c) q) {i : Nat} (hi : i < q.length) :
    ∃ ad x, Q = some ad ∧ w.cell? (ad.add i) = some x ∧ DeedV w F x q[i] := by
  obtain ⟨xs, h1, h2, h3⟩ := h
  obtain ⟨A', c', e, _, _⟩ := h2.shape
  injection e with e1 e2 e3
  subst e1; subst e2; subst e3
  obtain ⟨ad, u, hA, hf, hu, hc⟩ := RdV.at_ h2 hi (i := 0) (by omega)
  simp only [Nat.mul_one, Nat.add_zero] at hu hc
  exact ⟨ad, u, hA, hc, h3 i u q[i] hu (List.getElem?_eq_getElem hi)⟩
end
/-- the drive at block g is S; all that it looks at lies in T -/
structure DrvM (w : World) (sup : List Nm) (T : Nat → Prop) (g : Nat) (S : DSt) (sv nv qv : Value) (lv : Int) (F : Nat → Prop) : Prop where
  blk : Blk w g 49 #[sv, nv, qv, .int .i64 1073741824, .bool S.arm.isSome, .int .i64 lv, .bool S.dead]
  arm : ∀ n, S.arm = some n → lv = (n : Int) ∧ n ≤ 1000000
  s : FsAt w sup F sv S.safe
  n : FsAt w sup F nv S.seen
  qu : QAt w F qv S.queue
  tg : T g
  ts : ∀ B, sv = .map (some B) → T B
  tn : ∀ B, nv = .map (some B) → T B
  sep : ∀ B, sv = .map (some B) → nv ≠ .map (some B)
  f : ∀ b, F b → T b ∧ b ≠ g ∧ sv ≠ .map (some b) ∧ nv ≠ .map (some b)
  lt : ∀ b, T b → b < w.heap.size
def DrvAt (w : World) (sup : List Nm) (T : Nat → Prop) (g : Nat) (S : DSt) : Prop := ∃ sv nv qv lv F, DrvM w sup T g S sv nv qv lv F
/-- T and what was made between two worlds -/
def Ext (T : Nat → Prop) (w w' : World) : Nat → Prop := fun b => T b ∨ (w.heap.size ≤ b ∧ b < w'.heap.size)
section
variable {w w' w'' : World} {sup : List Nm} {T T' S' F : Nat → Prop} {g : Nat} {S : DSt} {sv nv qv : Value} {lv : Int}
theorem FsAt.chg {v : Value} {f : Fls} {S : Nat → Prop} (h : FsAt w sup F v f) (hc : Chg S w w') (hF : ∀ b, F b → ¬ S b) (hB : ∀ B, v = .map (some B) → ¬ S B) : FsAt w' sup F v f := by
  obtain ⟨l, h, e⟩ := h
  exact ⟨l, h.chg hc hF hB, e⟩
theorem FsAt.mono {v : Value} {f : Fls} {F' : Nat → Prop} (h : FsAt w sup F v f) (hF : ∀ b, F b → F' b) : FsAt w sup F' v f := by
  obtain ⟨l, h, e⟩ := h
  exact ⟨l, h.mono hF, e⟩
theorem DrvM.chg (h : DrvM w sup T g S sv nv qv lv F) (hc : Chg S' w w') (hT : ∀ b, T b → ¬ S' b) : DrvM w' sup T g S sv nv qv lv F :=
  ⟨h.blk.chg hc (hT _ h.tg), h.arm, h.s.chg hc (fun b hb => hT b (h.f b hb).1) (fun B e => hT B (h.ts B e)), h.n.chg hc (fun b hb => hT b (h.f b hb).1) (fun B e => hT B (h.tn B e)), h.qu.chg hc (fun b hb => hT b (h.f b hb).1), h.tg, h.ts, h.tn, h.sep, h.f, fun b hb => Nat.lt_of_lt_of_le (h.lt b hb) hc.size⟩
theorem DrvM.c0 (h : DrvM w sup T g S sv nv qv lv F) (hc : Chg Non w w') : DrvM w' sup T g S sv nv qv lv F := h.chg hc fun _ _ h => h
theorem DrvM.up (h : DrvM w sup T g S sv nv qv lv F) (hT : ∀ b, T b → T' b) (hl : ∀ b, T' b → b < w.heap.size) : DrvM w sup T' g S sv nv qv lv F :=
  ⟨h.blk, h.arm, h.s, h.n, h.qu, hT _ h.tg, fun B e => hT B (h.ts B e), fun B e => hT B (h.tn B e), h.sep, fun b hb => ⟨hT b (h.f b hb).1, (h.f b hb).2⟩, hl⟩
theorem DrvAt.chg (h : DrvAt w sup T g S) (hc : Chg S' w w') (hT : ∀ b, T b → ¬ S' b) : DrvAt w' sup T g S := by
  obtain ⟨sv, nv, qv, lv, F, h⟩ := h
  exact ⟨sv, nv, qv, lv, F, h.chg hc hT⟩
theorem DrvAt.c0 (h : DrvAt w sup T g S) (hc : Chg Non w w') : DrvAt w' sup T g S := h.chg hc fun _ _ h => h
theorem DrvAt.up (h : DrvAt w sup T g S) (hT : ∀ b, T b → T' b) (hl : ∀ b, T' b → b < w.heap.size) : DrvAt w sup T' g S := by
  obtain ⟨sv, nv, qv, lv, F, h⟩ := h
  exact ⟨sv, nv, qv, lv, F, h.up hT hl⟩
theorem DrvAt.lt (h : DrvAt w sup T g S) {b : Nat} (hb : T b) : b < w.heap.size := by
  obtain ⟨sv, nv, qv, lv, F, h⟩ := h
  exact h.lt b hb
theorem DrvAt.tg (h : DrvAt w sup T g S) : T g := by
  obtain ⟨sv, nv, qv, lv, F, h⟩ := h
  exact h.tg
theorem Ext.l {b : Nat} (h : T b) : Ext T w w' b := .inl h
theorem Ext.trans {b : Nat} (h12 : w.heap.size ≤ w'.heap.size) (h23 : w'.heap.size ≤ w''.heap.size) (h : Ext (Ext T w w') w' w'' b) : Ext T w w'' b := by
  rcases h with (h | h) | h
  · exact .inl h
  · exact .inr ⟨h.1, by omega⟩
  · exact .inr ⟨by omega, h.2⟩
theorem Ext.up {b : Nat} (h : Ext T w w' b) (h23 : w'.heap.size ≤ w''.heap.size) : Ext T w w'' b := by
  rcases h with h | h
  · exact .inl h
  · exact .inr ⟨h.1, by omega⟩
theorem Ext.back {b : Nat} (h : Ext T w' w'' b) (h12 : w.heap.size ≤ w'.heap.size) : Ext T w w'' b := by
  rcases h with h | h
  · exact .inl h
  · exact .inr ⟨by omega, h.2⟩
theorem Ext.lt (hT : ∀ b, T b → b < w.heap.size) (h12 : w.heap.size ≤ w'.heap.size) : ∀ b, Ext T w w' b → b < w'.heap.size := fun b hb => by
  rcases hb with h | h
  · exact Nat.lt_of_lt_of_le (hT b h) h12
  · exact h.2
end
end Go.Proofs.YtfgecgmgbngeaaaGreat

set_option maxRecDepth 100000
namespace Go.Proofs.YtfgecgmgbngeaaaGreat
open Go.RowKit Go.Maps
set_option linter.unusedVariables false

set_option maxRecDepth 100000 in
theorem cloneFNil (w : World) : Calls Tryz.prog 34 #[.map none] w fun e w' => e = .returned (.map none) ∧ w' = w := by
  have hq := nilm_eq
  go_enter Tryz.func34, Tryz.ntmps34
  go_wp2_with fail
  go_ret
  exact ⟨rfl, rfl⟩
set_option maxRecDepth 100000 in
theorem cloneF {w : World} {B n : Nat} {D : DataW Value} (h : w.ownsMap Tryz.prog 9 heldR B n D) : Calls Tryz.prog 34 #[.map (some B)] w fun e w' => e = .returned (.map (some w.heap.size)) ∧ w'.ownsMap Tryz.prog 9 heldR w.heap.size n D ∧ Chg Non w w' := by
  have hq := nilm_eq
  obtain ⟨es, clock, hb, F, hs, hD⟩ := h
  have HF := hide F
  have HD := hide hD
  clear F hD
  go_enter Tryz.func34, Tryz.ntmps34
  go_wp2_with fail
  rw [run_callFunc_extern Tryz.func68 (by kernel_rfl) (by kernel_rfl) (by kernel_rfl) (e := Extern.MapsClone.clone) (by kernel_rfl), run_maps_clone_sl w 46 hb]
  simp only [Result.andThen]
  rw [Oper.upon_value]
  go_wp2_with fail
  rw [run_typeAssert_map_sl _ 46 20 _ _ _ Tryz.underlying46]
  simp only [Result.andThen]
  rw [Oper.upon_value]
  go_wp2_with fail
  go_ret
  exact ⟨rfl, ⟨es, clock, (MapKept.heap_alloc w _).1, HF.out, hs, HD.out⟩, (Chg.refl Non w).alloc _⟩
/-- the clone of a map of files -/
theorem FsAt.clone {w : World} {sup : List Nm} {F : Nat → Prop} {v : Value} {f : Fls} (h : FsAt w sup F v f) :
    Calls Tryz.prog 34 #[v] w fun e w' => ∃ v', e = .returned v' ∧ FsAt w' sup F v' f ∧ Chg Non w w' ∧ (v = .map none ∧ v' = .map none ∨ v' = .map (some w.heap.size) ∧ w.heap.size < w'.heap.size) := by
  obtain ⟨l, h, rfl⟩ := h
  rcases h.map with ⟨rfl, rfl⟩ | ⟨B, rfl, hm⟩
  · refine (cloneFNil w).mono ?_
    rintro e w' ⟨rfl, rfl⟩
    exact ⟨_, rfl, ⟨[], h, rfl⟩, Chg.refl _ _, .inl ⟨rfl, rfl⟩⟩
  · refine (cloneF hm).mono ?_
    rintro e w' ⟨rfl, hm', hc⟩
    exact ⟨_, rfl, ⟨l, ⟨h.once, h.sup, fun p hp => (h.rd p hp).c0 hc, .inr ⟨_, rfl, hm'⟩⟩, rfl⟩, hc, .inr ⟨rfl, World.ownsMap.lt hm'⟩⟩
end Go.Proofs.YtfgecgmgbngeaaaGreat
