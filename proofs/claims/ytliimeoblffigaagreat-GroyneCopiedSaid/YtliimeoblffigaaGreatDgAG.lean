/- Words for memory that all walks of this seat use: what has turned between two worlds, what a slice reads as, what a call owns; and append in these words. Plain theorems, no program in sight. -/
import Derived.WalkKit
import Derived.WalkSpells
import Derived.WalkLawsBesides
import Derived.Below
import Derived.Laws.OwnMore
import Derived.Maps.AppendAt
import Derived.Deep.AppendLies
import Derived.Deep.Draws
import Derived.Deep.QuietTactic
import Derived.BigQuiet
import Derived.RegionTactic
import Derived.OwnWalk
import Derived.Lib.Hide
import Derived.Test.YtliimeoblffigaaGreatProg
import Derived.Maps.Own
import Derived.Maps.OwnSet
import Derived.Maps.Views
import Derived.Maps.RangeWalk
import Derived.Sort.MapsRangeIn
import Derived.Test.YtliimeoblffigaaGreatMapAG
set_option linter.unusedVariables false
set_option linter.unusedSimpArgs false
set_option maxRecDepth 100000
namespace Go.Proofs.YtliimeoblffigaaGreat
open Go.RowKit

theorem block_of_add (a : Addr) (n : Nat) : (a.add n).block = a.block := by unfold Addr.add; split <;> rfl
theorem add_of_add (a : Addr) (i j : Nat) : (a.add i).add j = a.add (i + j) := by
 unfold Addr.add
 by_cases hi : i = 0 <;> by_cases hj : j = 0 <;> simp [hi, hj, Nat.add_assoc]

theorem hide {p : Prop} (h : p) : Hid p := h
theorem ret_int {k : IntKind} {a b : Int} (h : a = b) : Ending.returned (.int k a) = .returned (.int k b) := by rw [h]
theorem ret_bool {a b : Bool} (h : a = b) : Ending.returned (.bool a) = .returned (.bool b) := by rw [h]

theorem dn2 (w : World) (a b : Nat) : (w.drewN a).drewN b = w.drewN (a + b) := World.drewN_drewN w a b
theorem dn3 (w : World) (a b c : Nat) : ((w.drewN a).drewN b).drewN c = w.drewN (a + b + c) := by simp only [World.drewN_drewN, Nat.add_assoc]

/-- Of the blocks that were there only those in S may have turned. -/
structure Chg (S : Nat → Prop) (w w' : World) : Prop where
 os : w'.os = w.os
 tape : w'.tape = w.tape
 output : w'.output = w.output
 size : w.heap.size ≤ w'.heap.size
 block : ∀ k, k < w.heap.size → ¬ S k → w'.heap[k]? = w.heap[k]?

/-- nothing that was there -/
abbrev Non : Nat → Prop := fun _ => False

section
variable {S S' : Nat → Prop} {a w w' w'' : World}
theorem Chg.refl (S : Nat → Prop) (w : World) : Chg S w w := ⟨rfl, rfl, rfl, Nat.le_refl _, fun _ _ _ => rfl⟩
theorem Chg.mono (h : Chg S w w') (hs : ∀ k, k < w.heap.size → S k → S' k) : Chg S' w w' := ⟨h.os, h.tape, h.output, h.size, fun k hk hn => h.block k hk fun hs' => hn (hs k hk hs')⟩
theorem Chg.trans (h : Chg S a w) (h' : Chg S' w w') (hs : ∀ k, k < a.heap.size → S' k → S k) : Chg S a w' :=
 ⟨h'.os.trans h.os, h'.tape.trans h.tape, h'.output.trans h.output, Nat.le_trans h.size h'.size, fun k hk hn => (h'.block k (Nat.lt_of_lt_of_le hk h.size) fun hk' => hn (hs k hk hk')).trans (h.block k hk hn)⟩
theorem Chg.trans0 (h : Chg S a w) (h' : Chg Non w w') : Chg S a w' := h.trans h' fun _ _ h => h.elim
theorem Chg.drew (h : Chg S a w) : Chg S a w.drew := ⟨h.os, h.tape, h.output, h.size, h.block⟩
theorem Chg.drewN (h : Chg S a w) (n : Nat) : Chg S a (w.drewN n) := ⟨h.os, h.tape, h.output, h.size, h.block⟩
theorem Chg.quiet (h : Chg S a w) (hq : ∃ k, w' = w.drewN k) : Chg S a w' := by
 obtain ⟨k, rfl⟩ := hq
 exact h.drewN k
theorem Chg.alloc (h : Chg S a w) (o : Obj) : Chg S a (w.alloc o) :=
 h.trans (S' := Non) ⟨rfl, rfl, rfl, by simp, fun k hk _ => Below.heap_alloc _ _ _ hk⟩ fun _ _ h => h.elim
theorem Chg.setCell (h : Chg S a w) {p : Addr} (hp : p.block < a.heap.size → S p.block) (u : Value) : Chg S a (w.setCell p u) :=
 h.trans (S' := fun k => k = p.block) ⟨rfl, rfl, rfl, by simp [World.setCell], fun k _ hn => Below.heap_setCell _ _ _ _ hn⟩ fun k hk e => by subst e; exact hp hk
theorem Chg.grown {row : Option Nat} (h : Chg S a w) (hg : w.grownBy w' row) (hr : ∀ k, row = some k → k < a.heap.size → S k) : Chg S a w' :=
 h.trans (S' := fun k => some k = row) ⟨hg.os, hg.tape, hg.output, hg.size, fun k hk hn => hg.block k hk hn⟩ fun k hk e => hr k e.symm hk
theorem Chg.of_grown {row : Option Nat} (hg : w.grownBy w' row) : Chg (fun k => some k = row) w w' := ⟨hg.os, hg.tape, hg.output, hg.size, fun k hk hn => hg.block k hk hn⟩
theorem Chg.below (h : Chg Non w w') : Below w.heap.size w w' := ⟨h.os, h.tape, h.output, h.size, fun k hk => h.block k hk id⟩
theorem Chg.of_below (h : Below w.heap.size w w') : Chg Non w w' := ⟨h.os, h.tape, h.output, h.size, fun k hk _ => h.block k hk⟩
theorem Chg.cell (h : Chg S w w') {p : Addr} {v : Value} (hc : w.cell? p = some v) (hp : ¬ S p.block) : w'.cell? p = some v :=
 (World.cell?_of_block (h.block p.block (World.block_lt_of_cell? w p hc) hp)).trans hc
theorem Chg.heap (h : Chg S w w') {k : Nat} {o : Obj} (hc : w.heap[k]? = some o) (hp : ¬ S k) : w'.heap[k]? = some o :=
 (h.block k (Array.getElem?_eq_some_iff.1 hc).1 hp).trans hc
end

/-- The slice value v holds the cells xs, n elements of sz cells each; they lie in blocks of F. -/
def RdV (w : World) (F : Nat → Prop) (sz : Nat) (v : Value) (n : Nat) (xs : List Value) : Prop :=
 xs.length = n * sz ∧ ∃ A c, v = .slice A n c ∧ n ≤ c ∧ c ≤ maxLen ∧ (0 < n → ∃ ad, A = some ad ∧ F ad.block ∧ ∀ j u, xs[j]? = some u → w.cell? (ad.add j) = some u)

section
variable {w w' : World} {F F' S : Nat → Prop} {sz n : Nat} {v : Value} {xs : List Value}
theorem RdV.mono (h : RdV w F sz v n xs) (hF : ∀ k, F k → F' k) : RdV w F' sz v n xs := by
 obtain ⟨h1, A, c, hv, hc, hm, h2⟩ := h
 refine ⟨h1, A, c, hv, hc, hm, fun hn => ?_⟩
 obtain ⟨ad, e, hf, hcell⟩ := h2 hn
 exact ⟨ad, e, hF _ hf, hcell⟩
theorem RdV.nil_ (w : World) (F : Nat → Prop) (sz : Nat) : RdV w F sz (.slice none 0 0) 0 [] := ⟨by simp, none, 0, rfl, Nat.le_refl _, Nat.zero_le _, fun h => absurd h (by omega)⟩
theorem RdV.chg (h : RdV w F sz v n xs) (hc : Chg S w w') (hF : ∀ k, F k → ¬ S k) : RdV w' F sz v n xs := by
 obtain ⟨h1, A, c, hv, hl, hm, h2⟩ := h
 refine ⟨h1, A, c, hv, hl, hm, fun hn => ?_⟩
 obtain ⟨ad, e, hf, hcell⟩ := h2 hn
 exact ⟨ad, e, hf, fun j u hu => hc.cell (hcell j u hu) (by rw [block_of_add]; exact hF _ hf)⟩
/-- the footprint kept below the heap's size -/
theorem RdV.lt (h : RdV w F sz v n xs) (hs : 0 < sz) : RdV w (fun k => F k ∧ k < w.heap.size) sz v n xs := by
 obtain ⟨h1, A, c, hv, hl, hm, h2⟩ := h
 refine ⟨h1, A, c, hv, hl, hm, fun hn => ?_⟩
 obtain ⟨ad, e, hf, hcell⟩ := h2 hn
 have hpos : 0 < xs.length := by rw [h1]; exact Nat.mul_pos hn hs
 have := World.block_lt_of_cell? w _ (hcell 0 _ (List.getElem?_eq_getElem hpos))
 rw [block_of_add] at this
 exact ⟨ad, e, ⟨hf, this⟩, hcell⟩
theorem RdV.shape (h : RdV w F sz v n xs) : ∃ A c, v = .slice A n c ∧ n ≤ c ∧ c ≤ maxLen := by
 obtain ⟨_, A, c, hv, hl, hm, _⟩ := h
 exact ⟨A, c, hv, hl, hm⟩
theorem RdV.at_ {A : Option Addr} {c : Nat} (h : RdV w F sz (.slice A n c) n xs) {k i : Nat} (hk : k < n) (hi : i < sz) :
  ∃ ad u, A = some ad ∧ F ad.block ∧ xs[k * sz + i]? = some u ∧ w.cell? (ad.add (k * sz + i)) = some u := by
 obtain ⟨h1, A', c', hv, hl, hm, h2⟩ := h
 injection hv with hA _ _
 subst hA
 obtain ⟨ad, e, hf, hcell⟩ := h2 (by omega)
 have hlt : k * sz + i < xs.length := by
  rw [h1]
  calc k * sz + i < k * sz + sz := by omega
   _ = (k + 1) * sz := by rw [Nat.add_mul]; omega
   _ ≤ n * sz := Nat.mul_le_mul_right _ (by omega)
 exact ⟨ad, xs[k * sz + i], e, hf, List.getElem?_eq_getElem hlt, hcell _ _ (List.getElem?_eq_getElem hlt)⟩
/-- a piece: 's[i:j]' as the model writes it -/
theorem RdV.piece {A : Option Addr} {c i j : Nat} (h : RdV w F sz (.slice A n c) n xs) (hi : i ≤ j) (hj : j ≤ n) :
  RdV w F sz (.slice (if c = i then A else A.map (·.add (i * sz))) (j - i) (c - i)) (j - i) ((xs.drop (i * sz)).take ((j - i) * sz)) := by
 obtain ⟨h1, A', c', hv, hl, hm, h2⟩ := h
 injection hv with hA _ hc
 subst hA; subst hc
 have hb : (j - i) * sz ≤ n * sz - i * sz := by
  rw [← Nat.sub_mul]; exact Nat.mul_le_mul_right _ (by omega)
 refine ⟨by rw [List.length_take, List.length_drop, h1]; omega, _, _, rfl, by omega, by omega, fun hn => ?_⟩
 obtain ⟨ad, rfl, hf, hcell⟩ := h2 (by omega)
 rw [if_neg (by omega)]
 refine ⟨ad.add (i * sz), rfl, by rw [block_of_add]; exact hf, fun k u hu => ?_⟩
 rw [add_of_add]
 rw [List.getElem?_take] at hu
 split at hu
 ·rw [List.getElem?_drop] at hu
  exact hcell _ u hu
 ·cases hu
theorem RdV.of_own {base : Nat} {e : TypeId} (h : w.ownsRow base e sz v n xs) : RdV w (fun k => v.ownBlock = some k) sz v n xs := by
 refine ⟨h.1, ?_⟩
 rcases h.2 with ⟨rfl, rfl⟩ | ⟨g, cap, cur, rfl, _, _, hnc, hcm, _⟩
 ·exact ⟨none, 0, rfl, Nat.le_refl _, Nat.zero_le _, fun h => absurd h (by omega)⟩
 ·exact ⟨_, cap, rfl, hnc, hcm, fun _ => ⟨_, rfl, rfl, h.cells rfl⟩⟩
theorem RdV.cells {A : Option Addr} {c : Nat} (h : RdV w F sz (.slice A n c) n xs) (hn : 0 < n) : ∃ ad, A = some ad ∧ F ad.block ∧ ∀ j u, xs[j]? = some u → w.cell? (ad.add j) = some u := by
 obtain ⟨_, A', c', hv, _, _, h2⟩ := h
 injection hv with hA _ _
 subst hA
 exact h2 hn
end

/-! ### bytes -/
def bv (b : UInt8) : Value := .int .u8 (b.toNat : Int)
def bvs (l : List UInt8) : List Value := l.map bv
theorem bvs_length (l : List UInt8) : (bvs l).length = l.length := by simp [bvs]
theorem bvs_append (l m : List UInt8) : bvs (l ++ m) = bvs l ++ bvs m := by simp [bvs]
theorem bvs_one (l : List UInt8) : ∀ u ∈ bvs l, u.oneCell' = true := by
 intro u hu
 obtain ⟨b, _, rfl⟩ := List.mem_map.1 hu
 rfl
theorem bvs_get (l : List UInt8) (k : Nat) : (bvs l)[k]? = (l[k]?).map bv := by simp [bvs]

/-- the slice value v reads as the bytes l -/
def RdB (w : World) (F : Nat → Prop) (v : Value) (l : List UInt8) : Prop := RdV w F 1 v l.length (bvs l)
/-- the slice value v, made by the call, owns the bytes l -/
def OwnB (w : World) (base : Nat) (v : Value) (l : List UInt8) : Prop := w.ownsRow base 5 1 v l.length (bvs l)

section
variable {w w' : World} {F F' S : Nat → Prop} {v : Value} {l m : List UInt8} {base : Nat}
theorem RdB.mono (h : RdB w F v l) (hF : ∀ k, F k → F' k) : RdB w F' v l := RdV.mono h hF
theorem RdB.chg (h : RdB w F v l) (hc : Chg S w w') (hF : ∀ k, F k → ¬ S k) : RdB w' F v l := RdV.chg h hc hF
theorem RdB.dn (h : RdB w F v l) (q : Nat) : RdB (w.drewN q) F v l := h
theorem RdB.dr (h : RdB w F v l) : RdB w.drew F v l := RdV.chg h ((Chg.refl Non w).drew) fun _ _ h => h
theorem OwnB.dr (h : OwnB w base v l) : OwnB w.drew base v l := h
theorem RdB.al (h : RdB w F v l) (o : Obj) : RdB (w.alloc o) F v l := RdV.chg h ((Chg.refl Non w).alloc o) fun _ _ h => h
theorem OwnB.al (h : OwnB w base v l) (o : Obj) : OwnB (w.alloc o) base v l := World.ownsRow.alloc h o
theorem RdB.c0 (h : RdB w F v l) (hc : Chg Non w w') : RdB w' F v l := RdV.chg h hc fun _ _ h => h
theorem RdB.lt (h : RdB w F v l) : RdB w (fun k => F k ∧ k < w.heap.size) v l := RdV.lt h (by omega)
theorem RdB.nil_ (w : World) (F : Nat → Prop) : RdB w F (.slice none 0 0) [] := RdV.nil_ w F 1
theorem RdB.shape (h : RdB w F v l) : ∃ A c, v = .slice A l.length c ∧ l.length ≤ c ∧ c ≤ maxLen := RdV.shape h
theorem RdB.at_ {A : Option Addr} {n c : Nat} (h : RdB w F (.slice A n c) l) {k : Nat} (hk : k < l.length) :
  ∃ ad, A = some ad ∧ F ad.block ∧ w.cell? (ad.add k) = some (.int .u8 (l[k].toNat : Int)) := by
 obtain ⟨A', c', e, _, _⟩ := RdV.shape h
 injection e with e1 e2 e3
 subst e1; subst e2; subst e3
 obtain ⟨ad, u, hA, hf, hu, hc⟩ := RdV.at_ h hk (i := 0) (by omega)
 refine ⟨ad, hA, hf, ?_⟩
 simp only [Nat.mul_one, Nat.add_zero] at hu hc
 rw [bvs_get, List.getElem?_eq_getElem hk] at hu
 rw [hc, ← hu]
 rfl
theorem RdB.is_nil {n c : Nat} (h : RdB w F (.slice none n c) l) : l = [] := by
 obtain ⟨A', c', e, _, _⟩ := RdV.shape h
 injection e with e1 e2 e3
 subst e1; subst e2
 rcases Nat.eq_zero_or_pos l.length with h0 | h0
 ·exact List.eq_nil_of_length_eq_zero h0
 ·obtain ⟨ad, h1, _⟩ := h.at_ h0
  cases h1
theorem RdB.piece {A : Option Addr} {c i j : Nat} (h : RdB w F (.slice A l.length c) l) (hi : i ≤ j) (hj : j ≤ l.length) :
  RdB w F (.slice (if c = i then A else A.map (·.add i)) (j - i) (c - i)) ((l.drop i).take (j - i)) := by
 have h' := RdV.piece h hi hj
 simp only [Nat.mul_one] at h'
 have e : ((l.drop i).take (j - i)).length = j - i := by simp; omega
 unfold RdB
 rw [e]
 simpa [bvs, List.map_take, List.map_drop] using h'
/-- a piece that does not begin at the head -/
theorem RdB.piece1 {ad : Addr} {n c i m : Nat} (h : RdB w F (.slice (some ad) n c) l) (hi : 0 < i) (hm : i + m ≤ l.length) (h0 : 0 < m) :
  RdB w F (.slice (some ⟨ad.block, ad.off + i, none⟩) m (c - i)) ((l.drop i).take m) := by
 obtain ⟨A', c', e, hc, _⟩ := RdV.shape h
 injection e with e1 e2 e3
 subst e1; subst e2; subst e3
 have h' := h.piece (i := i) (j := i + m) (by omega) hm
 rw [if_neg (by omega), show i + m - i = m from by omega] at h'
 have e : ad.add i = ⟨ad.block, ad.off + i, none⟩ := by unfold Addr.add; rw [if_neg (by omega)]
 simpa [e] using h'
/-- a beginning: 's[:j]' -/
theorem RdB.front {A : Option Addr} {n c j : Nat} (h : RdB w F (.slice A n c) l) (hj : j ≤ l.length) : RdB w F (.slice A j c) (l.take j) := by
 obtain ⟨A', c', e, hc, hm⟩ := RdV.shape h
 injection e with e1 e2 e3
 subst e1; subst e2; subst e3
 obtain ⟨h1, A2, c2, e, _, _, h2⟩ := h
 injection e with e1 e2 e3
 subst e1; subst e3
 have el : (l.take j).length = j := by simp; omega
 unfold RdB RdV
 rw [el]
 refine ⟨by rw [bvs_length, el]; omega, A, c, rfl, by omega, hm, fun hn => ?_⟩
 obtain ⟨ad, rfl, hf, hcell⟩ := h2 (by omega)
 refine ⟨ad, rfl, hf, fun i u hu => hcell i u ?_⟩
 rw [bvs_get] at hu ⊢
 obtain ⟨b, hb, rfl⟩ := Option.map_eq_some_iff.1 hu
 rw [List.getElem?_take] at hb
 split at hb
 ·rw [hb]; rfl
 ·cases hb
theorem OwnB.rd (h : OwnB w base v l) : RdB w (fun k => v.ownBlock = some k) v l := RdV.of_own h
theorem OwnB.nil_ (w : World) (base : Nat) : OwnB w base (.slice none 0 0) [] := World.ownsRow_nil w base _ 1
theorem OwnB.lt (h : OwnB w base v l) : ∀ k, v.ownBlock = some k → base ≤ k ∧ k < w.heap.size := World.ownsRow.lt h
/-- read from 'base' on -/
theorem OwnB.rdB (h : OwnB w base v l) : RdB w (fun k => base ≤ k ∧ k < w.heap.size) v l := h.rd.mono fun k hk => h.lt k hk
theorem OwnB.chg (h : OwnB w base v l) (hc : Chg S w w') (hn : ∀ k, v.ownBlock = some k → ¬ S k) : OwnB w' base v l := by
 refine ⟨h.1, ?_⟩
 rcases h.2 with hn | ⟨g, cap, cur, rfl, hb, hg, rest⟩
 ·exact .inl hn
 ·exact .inr ⟨g, cap, cur, rfl, hb, hc.heap hg (hn g rfl), rest⟩
theorem OwnB.low (h : OwnB w base v l) {b' : Nat} (hb : b' ≤ base) : OwnB w b' v l := by
 refine ⟨h.1, ?_⟩
 rcases h.2 with hn | ⟨g, cap, cur, rfl, hg, rest⟩
 ·exact .inl hn
 ·exact .inr ⟨g, cap, cur, rfl, by omega, rest⟩
theorem OwnB.shape (h : OwnB w base v l) : ∃ A c, v = .slice A l.length c ∧ l.length ≤ c ∧ c ≤ maxLen := h.rd.shape
end

section
variable {w : World} {base n c : Nat} {A : Option Addr} {l : List UInt8}
theorem OwnB.head (h : OwnB w base (.slice A n c) l) (hn : 0 < l.length) : ∃ g, A = some ⟨g, 0, none⟩ ∧ base ≤ g ∧ g < w.heap.size := by
 obtain ⟨g, cap, e, hb, hg⟩ := World.ownsRow.form h hn
 injection e with e1 e2 e3
 exact ⟨g, e1, hb, hg⟩
theorem OwnB.cell {g : Nat} (h : OwnB w base (.slice (some ⟨g, 0, none⟩) n c) l) {i : Nat} (hi : i < l.length) :
  w.cell? ⟨g, i, none⟩ = some (.int .u8 (l[i].toNat : Int)) ∧ w.frozen? ⟨g, i, none⟩ = false := by
 have e : n = l.length := by obtain ⟨A', c', e, _, _⟩ := h.shape; injection e
 subst e
 refine ⟨?_, World.ownsRow.frozenAt h i⟩
 rw [World.ownsRow.cellAt h i (by omega), bvs_get, List.getElem?_eq_getElem hi]
 rfl
theorem OwnB.stored {g : Nat} (h : OwnB w base (.slice (some ⟨g, 0, none⟩) n c) l) (i : Nat) (b : UInt8) :
  OwnB (w.setCell ⟨g, i, none⟩ (.int .u8 (b.toNat : Int))) base (.slice (some ⟨g, 0, none⟩) n c) (l.set i b) := by
 have e : n = l.length := by obtain ⟨A', c', e, _, _⟩ := h.shape; injection e
 subst e
 have := (World.ownsRow.stored h i (bv b)).1
 unfold OwnB
 rw [List.length_set, show bvs (l.set i b) = (bvs l).set i (bv b) from by simp [bvs, List.map_set]]
 exact this
end

/-! ### numbers of 64 bits -/
/-- fits 64 bits -/
def U64 (n : Nat) : Prop := n < 18446744073709551616
theorem wrap_u64n {n : Nat} (h : U64 n) : IntKind.u64.wrap (n : Int) = (n : Int) := by
 unfold U64 at h
 rw [IntKind.wrap_u64]
 omega
def uv (n : Nat) : Value := .int .u64 (n : Int)
/-- the slice value v reads as the numbers l -/
def RdU (w : World) (F : Nat → Prop) (v : Value) (l : List Nat) : Prop := (∀ n ∈ l, U64 n) ∧ RdV w F 1 v l.length (l.map uv)
section
variable {w w' : World} {F F' S : Nat → Prop} {v : Value} {l : List Nat}
theorem RdU.chg (h : RdU w F v l) (hc : Chg S w w') (hF : ∀ k, F k → ¬ S k) : RdU w' F v l := ⟨h.1, h.2.chg hc hF⟩
theorem RdU.c0 (h : RdU w F v l) (hc : Chg Non w w') : RdU w' F v l := h.chg hc fun _ _ h => h
theorem RdU.shape (h : RdU w F v l) : ∃ A c, v = .slice A l.length c ∧ l.length ≤ c ∧ c ≤ maxLen := h.2.shape
theorem RdU.at_ {A : Option Addr} {n c : Nat} (h : RdU w F (.slice A n c) l) {k : Nat} (hk : k < l.length) :
  ∃ ad, A = some ad ∧ F ad.block ∧ U64 l[k] ∧ w.cell? (ad.add k) = some (.int .u64 (l[k] : Int)) := by
 obtain ⟨h0, h⟩ := h
 obtain ⟨A', c', e, _, _⟩ := RdV.shape h
 injection e with e1 e2 e3
 subst e1; subst e2; subst e3
 obtain ⟨ad, u, hA, hf, hu, hc⟩ := RdV.at_ h hk (i := 0) (by omega)
 refine ⟨ad, hA, hf, h0 _ (List.getElem_mem hk), ?_⟩
 simp only [Nat.mul_one, Nat.add_zero] at hu hc
 rw [List.getElem?_map, List.getElem?_eq_getElem hk] at hu
 rw [hc, ← hu]
 rfl
end

/-! ### a block that is known whole -/
def Blk (w : World) (g : Nat) (t : TypeId) (cs : Array Value) : Prop := w.heap[g]? = some (.cells cs t (0, 0))
section
variable {w w' : World} {S : Nat → Prop} {g : Nat} {t : TypeId} {cs : Array Value}
theorem Blk.lt (h : Blk w g t cs) : g < w.heap.size := (Array.getElem?_eq_some_iff.1 h).1
theorem Blk.cell (h : Blk w g t cs) (i : Nat) : w.cell? ⟨g, i, none⟩ = cs[i]? := cell_of_row w g i cs t (0, 0) h
theorem Blk.frozen (h : Blk w g t cs) (i : Nat) : w.frozen? ⟨g, i, none⟩ = false := by
 unfold Blk at h
 simp [World.frozen?, h]
theorem Blk.new (w : World) (t : TypeId) (cs : Array Value) : Blk (w.alloc (.cells cs t)) w.heap.size t cs := heap_alloc_new w _
theorem Blk.dn (h : Blk w g t cs) (n : Nat) : Blk (w.drewN n) g t cs := h
theorem Blk.al (h : Blk w g t cs) (o : Obj) : Blk (w.alloc o) g t cs := (Below.heap_alloc w o g h.lt).trans h
theorem Blk.set_ (h : Blk w g t cs) (i : Nat) (u : Value) : Blk (w.setCell ⟨g, i, none⟩ u) g t (cs.setIfInBounds i u) := by
 unfold Blk at h ⊢
 simp [World.setCell, Array.getElem?_modify, h]
theorem Blk.chg (h : Blk w g t cs) (hc : Chg S w w') (hS : ¬ S g) : Blk w' g t cs := hc.heap h hS
theorem Blk.c0 (h : Blk w g t cs) (hc : Chg Non w w') : Blk w' g t cs := hc.heap h fun h => h
end

theorem add_succ (a : Addr) (i j : Nat) (hj : 0 < j) : a.add (i + j) = ⟨(a.add i).block, (a.add i).off + j, none⟩ := by
 unfold Addr.add
 rw [if_neg (by omega)]
 split
 ·rename_i h; subst h; simp
 ·simp [Nat.add_assoc]
theorem add_none (g i j : Nat) : (⟨g, i, none⟩ : Addr).add j = ⟨g, i + j, none⟩ := by unfold Addr.add; split <;> simp_all
/-- bytes that lie in a known block -/
theorem RdB.of_blk {w : World} {g a c : Nat} {t : TypeId} {arr : Array Value} {l : List UInt8} (h : Blk w g t arr) (he : (arr.toList.drop a).take l.length = bvs l) (hc : l.length ≤ c) (hm : c ≤ maxLen) :
  RdB w (fun k => k = g) (.slice (some ⟨g, a, none⟩) l.length c) l := by
 refine ⟨by rw [bvs_length]; omega, some ⟨g, a, none⟩, c, rfl, hc, hm, fun _ => ⟨_, rfl, rfl, fun j u hu => ?_⟩⟩
 rw [add_none, h.cell, ← Array.getElem?_toList, ← List.getElem?_drop]
 rw [← he, List.getElem?_take] at hu
 split at hu
 ·exact hu
 ·cases hu

theorem RdU.lit (w : World) (t : TypeId) (fz : Nat × Nat) (cs : Array Value) (l : List Nat) (n : Nat) (h : cs.toList = l.map uv) (hn : n = l.length) (hm : n ≤ maxLen) (hl : ∀ x ∈ l, U64 x) :
  RdU (w.alloc (.cells cs t fz)) (fun k => k = w.heap.size) (.slice (some ⟨w.heap.size, 0, Option.none⟩) n n) l := by
 subst hn
 refine ⟨hl, by rw [List.length_map]; omega, some ⟨w.heap.size, 0, Option.none⟩, _, rfl, Nat.le_refl _, hm, fun _ => ⟨_, rfl, rfl, fun j u hu => ?_⟩⟩
 rw [add_none, Nat.zero_add, cell_of_row _ w.heap.size j cs t fz (heap_alloc_new w _), ← Array.getElem?_toList, h]
 exact hu

/-! ### lists of byte lists -/
/-- the slice value v reads as the lists ll: each of its cells is a slice that reads as bytes -/
def RdBB (w : World) (F : Nat → Prop) (v : Value) (ll : List (List UInt8)) : Prop :=
 ∃ vs : List Value, vs.length = ll.length ∧ RdV w F 1 v ll.length vs ∧ ∀ (k : Nat) (x : Value) (l : List UInt8), vs[k]? = some x → ll[k]? = some l → RdB w F x l

section
variable {w w' : World} {F F' S : Nat → Prop} {v : Value} {ll : List (List UInt8)}
theorem RdBB.mono (h : RdBB w F v ll) (hF : ∀ k, F k → F' k) : RdBB w F' v ll := by
 obtain ⟨vs, h1, h2, h3⟩ := h
 exact ⟨vs, h1, h2.mono hF, fun k x l hx hl => (h3 k x l hx hl).mono hF⟩
theorem RdBB.chg (h : RdBB w F v ll) (hc : Chg S w w') (hF : ∀ k, F k → ¬ S k) : RdBB w' F v ll := by
 obtain ⟨vs, h1, h2, h3⟩ := h
 exact ⟨vs, h1, h2.chg hc hF, fun k x l hx hl => (h3 k x l hx hl).chg hc hF⟩
theorem RdBB.c0 (h : RdBB w F v ll) (hc : Chg Non w w') : RdBB w' F v ll := h.chg hc fun _ _ h => h
theorem RdBB.dn (h : RdBB w F v ll) (q : Nat) : RdBB (w.drewN q) F v ll := h
theorem RdBB.lt (h : RdBB w F v ll) : RdBB w (fun k => F k ∧ k < w.heap.size) v ll := by
 obtain ⟨vs, h1, h2, h3⟩ := h
 exact ⟨vs, h1, h2.lt (by omega), fun k x l hx hl => (h3 k x l hx hl).lt⟩
theorem RdBB.nil_ (w : World) (F : Nat → Prop) : RdBB w F (.slice none 0 0) [] := ⟨[], rfl, RdV.nil_ w F 1, fun k x l hx _ => by simp at hx⟩
theorem RdBB.shape (h : RdBB w F v ll) : ∃ A c, v = .slice A ll.length c ∧ ll.length ≤ c ∧ c ≤ maxLen := by
 obtain ⟨vs, h1, h2, h3⟩ := h
 exact h2.shape
theorem RdBB.at_ {A : Option Addr} {n c : Nat} (h : RdBB w F (.slice A n c) ll) {k : Nat} (hk : k < ll.length) :
  ∃ ad x, A = some ad ∧ F ad.block ∧ w.cell? (ad.add k) = some x ∧ RdB w F x ll[k] := by
 obtain ⟨vs, h1, h2, h3⟩ := h
 obtain ⟨A', c', e, _, _⟩ := RdV.shape h2
 injection e with e1 e2 e3
 subst e1; subst e2; subst e3
 obtain ⟨ad, u, hA, hf, hu, hc⟩ := RdV.at_ h2 hk (i := 0) (by omega)
 simp only [Nat.mul_one, Nat.add_zero] at hu hc
 exact ⟨ad, u, hA, hf, hc, h3 k u _ hu (List.getElem?_eq_getElem hk)⟩
end

/-- one list, as a literal in the block just made -/
theorem RdBB.one {w : World} {F : Nat → Prop} {v : Value} {l : List UInt8} (h : RdB w F v l) (t : TypeId) :
  RdBB (w.alloc (.cells #[v] t)) (fun k => F k ∨ k = w.heap.size) (.slice (some ⟨w.heap.size, 0, Option.none⟩) 1 1) [l] := by
 refine ⟨[v], rfl, ⟨rfl, some ⟨w.heap.size, 0, Option.none⟩, 1, rfl, Nat.le_refl _, by simp [maxLen], fun _ => ⟨_, rfl, .inr rfl, fun j u hu => ?_⟩⟩, fun k x l' hx hl => ?_⟩
 ·rw [add_none, Nat.zero_add, (Blk.new w t #[v]).cell]
  simpa using hu
 ·match k, hx, hl with
  | 0, hx, hl =>
   simp at hx hl
   subst hx; subst hl
   exact (h.al _).mono fun k hk => .inl hk
  | k + 1, hx, hl => simp at hx

/-! ### append, in these words -/
section
variable {P : Program} (w : World)

theorem run_append_of_nil (base : Nat) (t ty e : TypeId) (i : TypeInfo) (size : Nat) (ht : P.underlying t = some (.slice e)) (hi : P.info? e = some i)
  (v : Value) (n : Nat) (xs : List Value) (hown : w.ownsRow base e size v n xs) (c : Nat) : (Builtin.append_ #[t, t] ty #[v, .slice none 0 c]).run P w = .ok v w := by
 rcases hown.2 with ⟨rfl, rfl⟩ | ⟨g, cap, cur, rfl, _, _, hnc, _⟩
 ·simp [Builtin.append_, run_underlying ht, sizeOf, typeInfo, hi, Builtin.lenOf, Builtin.firstCells]
 ·simp [Builtin.append_, run_underlying ht, sizeOf, typeInfo, hi, Builtin.lenOf, Builtin.firstCells, hnc, storeCells]

theorem run_append_rd (base : Nat) (t ty e : TypeId) (i : TypeInfo) (z : Value) (size bytes : Nat) (ht : P.underlying t = some (.slice e)) (hi : P.info? e = some i) (hz : i.zero = some z)
  (hsize : i.size = size) (hby : i.bytes = bytes) (hzs : z.cells.size = size) (hsz : 0 < size)
  (v : Value) (n : Nat) (xs : List Value) (hown : w.ownsRow base e size v n xs)
  (F : Nat → Prop) (x : Value) (m : Nat) (news : List Value) (hr : RdV w F size x m news) (h1 : ∀ u ∈ news, u.oneCell' = true)
  (h63 : n + m ≤ maxLen) (hbytes : (n + m) * bytes ≤ 140737488355328) (hbase : base ≤ w.heap.size) :
  ∃ v' w', (Builtin.append_ #[t, t] ty #[v, x]).run P w = .ok v' w' ∧ w'.ownsRow base e size v' (n + m) (xs ++ news) ∧ w.grownBy w' v.ownBlock ∧
   (v' = .slice none 0 0 ↔ v = .slice none 0 0 ∧ m = 0) ∧ (v'.ownBlock = v.ownBlock ∨ v'.ownBlock = some w.heap.size) := by
 obtain ⟨hl, A, c, rfl, hmc, hcm, hcells⟩ := hr
 rcases A with _ | ad
 ·have hm : m = 0 := by
   rcases Nat.eq_zero_or_pos m with h0 | h0
   ·exact h0
   ·obtain ⟨ad, h, _⟩ := hcells h0
    cases h
  subst hm
  have hn : news = [] := List.eq_nil_of_length_eq_zero (by simpa using hl)
  subst hn
  exact ⟨v, w, run_append_of_nil w base t ty e i size ht hi v n xs hown c, by simpa using hown, World.grownBy.refl w _, by simp, .inl rfl⟩
 ·have hcells' : ∀ j u, news[j]? = some u → w.cell? (ad.add j) = some u := by
   intro j u hu
   rcases Nat.eq_zero_or_pos m with h0 | h0
   ·subst h0
    have hn : news = [] := List.eq_nil_of_length_eq_zero (by simpa using hl)
    subst hn
    simp at hu
   ·obtain ⟨ad', h, _, hc⟩ := hcells h0
    injection h with h
    subst h
    exact hc j u hu
  exact run_append_own_at (P := P) w base t ty e i z size bytes ht hi hz hsize hby hzs hsz v n xs hown ad m c news hl hcells' h1 h63 hbytes hbase

theorem wp_append_rd {o : Oper} {a : Act} {K : Act → World → Prop} {Q : Exit → Act → World → Prop} (s x : Operand) (t : TypeId)
  (ho : o.op = .call { callee := .builtin .append, args := #[s, x], argTypes := #[t, t] })
  (base : Nat) (e : TypeId) (i : TypeInfo) (z : Value) (size bytes : Nat) (ht : P.underlying t = some (.slice e)) (hi : P.info? e = some i) (hz : i.zero = some z)
  (hsize : i.size = size) (hby : i.bytes = bytes) (hzs : z.cells.size = size) (hsz : 0 < size)
  (n : Nat) (xs : List Value) (hown : w.ownsRow base e size (a.eval s) n xs)
  (F : Nat → Prop) (m : Nat) (news : List Value) (hr : RdV w F size (a.eval x) m news) (h1 : ∀ u ∈ news, u.oneCell' = true)
  (h63 : n + m ≤ maxLen) (hbytes : (n + m) * bytes ≤ 140737488355328) (hbase : base ≤ w.heap.size)
  (h : ∀ v' w', w'.ownsRow base e size v' (n + m) (xs ++ news) → w.grownBy w' (a.eval s).ownBlock → (v' = .slice none 0 0 ↔ a.eval s = .slice none 0 0 ∧ m = 0) → (v'.ownBlock = (a.eval s).ownBlock ∨ v'.ownBlock = some w.heap.size) → K (a.put o.dst v') w') : o.wp P a w K Q := by
 obtain ⟨v', w', hrun, h2, h3, h4, h5⟩ := run_append_rd (P := P) w base t o.type e i z size bytes ht hi hz hsize hby hzs hsz _ n xs hown F _ m news hr h1 h63 hbytes hbase
 unfold Oper.wp execOp
 simp only [ho, resolve, invoke, builtin, Sem.run_bind, Sem.run_pure, Result.andThen_ok, List.map_toArray, List.map_cons, List.map_nil, hrun]
 exact h v' w' h2 h3 h4 h5

theorem wpList_append_rd {ops : Array Oper} {rest : List Oper} {o : Oper} {a : Act} {Q : Exit → Act → World → Prop} (hgd : o.guard = none) (s x : Operand) (t : TypeId)
  (ho : o.op = .call { callee := .builtin .append, args := #[s, x], argTypes := #[t, t] })
  (base : Nat) (e : TypeId) (i : TypeInfo) (z : Value) (size bytes : Nat) (ht : P.underlying t = some (.slice e)) (hi : P.info? e = some i) (hz : i.zero = some z)
  (hsize : i.size = size) (hby : i.bytes = bytes) (hzs : z.cells.size = size) (hsz : 0 < size)
  (v : Value) (hv : a.eval s = v) (n : Nat) (xs : List Value) (hown : w.ownsRow base e size v n xs)
  (F : Nat → Prop) (y : Value) (hy : a.eval x = y) (m : Nat) (news : List Value) (hr : RdV w F size y m news) (h1 : ∀ u ∈ news, u.oneCell' = true)
  (h63 : n + m ≤ maxLen) (hbytes : (n + m) * bytes ≤ 140737488355328) (hbase : base ≤ w.heap.size)
  (h : ∀ v' w', w'.ownsRow base e size v' (n + m) (xs ++ news) → w.grownBy w' v.ownBlock → (v' = .slice none 0 0 ↔ v = .slice none 0 0 ∧ m = 0) → (v'.ownBlock = v.ownBlock ∨ v'.ownBlock = some w.heap.size) → wpList P ops Q rest (a.put o.dst v') w') : wpList P ops Q (o :: rest) a w := by
 subst hv; subst hy
 exact wpList_plain hgd fun _ hK => wp_append_rd w s x t ho base e i z size bytes ht hi hz hsize hby hzs hsz n xs hown F m news hr h1 h63 hbytes hbase fun v' w' h2 h3 h4 h5 => hK _ _ (h v' w' h2 h3 h4 h5)
end
end Go.Proofs.YtliimeoblffigaaGreat

set_option maxRecDepth 100000
namespace Go.Proofs.YtliimeoblffigaaGreat
open Go.RowKit Go.Maps

theorem keyF : Keyed Tryz.prog 9 := string_keyed Tryz.underlying9
theorem zeroB (w : World) : (zeroValue 30).run Tryz.prog w = .ok (.slice none 0 0) w := by kernel_rfl
/-- an element reads as itself -/
def heldR (v : Value) : Option (DataW Value × List MemPlace) := some (.held v, [])
def nilS : Value := .slice none 0 0
section
variable {w w' : World} {S : Nat → Prop} {B : Nat} {o : Option Value}
theorem nilm_eq (w : World) (r : Option Nat) : (binOp .eql 175 (.map r) (.map none)).run Tryz.prog w = .ok (.bool r.isNone) w := run_eql_map_nil w _ _ _ r Tryz.underlying175
end
end Go.Proofs.YtliimeoblffigaaGreat

set_option maxRecDepth 100000
namespace Go.Proofs.YtliimeoblffigaaGreat
open Go.RowKit Go.Maps
set_option linter.unusedVariables false

/-- a list of files: names, the slices that stand there, their bytes -/
abbrev FL := List (Nm × (Value × List UInt8))
abbrev datS (l : FL) : DataW Value := dat klS (fun x => .held x.1) l
def fOf (l : FL) : Fls := fun k => (aGet klS l k).map (·.2)
theorem fOf_put {l : FL} (h : Once l) (k : Nm) (x : Value) (b : List UInt8) : fOf (aPut klS k (x, b) l) = setF (fOf l) k (some b) := by
 funext j
 unfold fOf setF
 by_cases e : j = k
 ·subst e; rw [put_same keyS h, if_pos rfl]; rfl
 ·rw [put_other keyS h e, if_neg e]
/-- the map value v is the list of files l -/
structure FsL (w : World) (sup : List Nm) (F : Nat → Prop) (v : Value) (l : FL) : Prop where
 once : Once l
 sup : ∀ p ∈ l, p.1 ∈ sup
 rd : ∀ p ∈ l, RdB w F p.2.1 p.2.2
 map : (v = .map none ∧ l = []) ∨ ∃ B, v = .map (some B) ∧ w.ownsMap Tryz.prog 9 heldR B l.length (datS l)
/-- .. and reads as f -/
def FsAt (w : World) (sup : List Nm) (F : Nat → Prop) (v : Value) (f : Fls) : Prop := ∃ l, FsL w sup F v l ∧ f = fOf l
theorem len_sub {α : Type} [DecidableEq α] : ∀ (l sup : List α), l.Pairwise (· ≠ ·) → (∀ x ∈ l, x ∈ sup) → l.length ≤ sup.length
 | [], _, _, _ => Nat.zero_le _
 | x :: r, sup, h, hs => by
  obtain ⟨h1, h2⟩ := List.pairwise_cons.1 h
  have hx := hs x (by simp)
  have ih := len_sub r (sup.erase x) h2 fun y hy => (List.mem_erase_of_ne (h1 y hy).symm).2 (hs y (by simp [hy]))
  rw [List.length_erase_of_mem hx] at ih
  have := List.length_pos_of_mem hx
  rw [List.length_cons]; omega
section
variable {w w' : World} {sup : List Nm} {F F' S : Nat → Prop} {v : Value} {l : FL} {f : Fls}
theorem FsL.len (h : FsL w sup F v l) : l.length ≤ sup.length := by
 have := len_sub (l.map (·.1)) sup (by rw [List.pairwise_map]; exact h.once) fun x hx => by
  obtain ⟨p, hp, rfl⟩ := List.mem_map.1 hx
  exact h.sup p hp
 simpa using this
theorem ownsMap_chg {P : Program} {k : TypeId} {R : Value → Option (DataW Value × List MemPlace)} {B n : Nat} {D : DataW Value} (h : w.ownsMap P k R B n D) (hc : Chg S w w') (hB : ¬ S B) : w'.ownsMap P k R B n D := by
 obtain ⟨es, clock, hb, F, hs, hD⟩ := h
 exact ⟨es, clock, hc.heap hb hB, F, hs, hD⟩
theorem ownsMap_cells {P : Program} {k : TypeId} {R : Value → Option (DataW Value × List MemPlace)} {B n : Nat} {D : DataW Value} (h : w.ownsMap P k R B n D) {t : TypeId} {cs : Array Value} : ¬ Blk w B t cs := by
 obtain ⟨es, clock, hb, _⟩ := h
 intro h2
 rw [Blk, hb] at h2
 cases h2
theorem tight {P : Program} {k : TypeId} {R : Value → Option (DataW Value × List MemPlace)} {B n : Nat} {l : List (Lit × DataW Value)} (h : w.ownsMap P k R B n (.map l)) : w.ownsMap P k R B l.length (.map l) := by
 obtain ⟨es, clock, hb, F, hs, hD⟩ := h
 refine ⟨es, clock, hb, F, ?_, hD⟩
 injection hD with hD
 rw [hD, length_sorted]
 simp
theorem FsL.chg (h : FsL w sup F v l) (hc : Chg S w w') (hF : ∀ b, F b → ¬ S b) (hB : ∀ B, v = .map (some B) → ¬ S B) : FsL w' sup F v l :=
 ⟨h.once, h.sup, fun p hp => (h.rd p hp).chg hc hF, by
  rcases h.map with h1 | ⟨B, h1, h2⟩
  ·exact .inl h1
  ·exact .inr ⟨B, h1, ownsMap_chg h2 hc (hB B h1)⟩⟩
theorem FsL.mono (h : FsL w sup F v l) (hF : ∀ b, F b → F' b) : FsL w sup F' v l := ⟨h.once, h.sup, fun p hp => (h.rd p hp).mono hF, h.map⟩
theorem FsL.fix (h : FsL w sup F v l) : FsL w sup (fun b => F b ∧ b < w.heap.size) v l := ⟨h.once, h.sup, fun p hp => (h.rd p hp).lt, h.map⟩
theorem FsL.lt (h : FsL w sup F v l) {B : Nat} (e : v = .map (some B)) : B < w.heap.size := by
 rcases h.map with ⟨h1, _⟩ | ⟨B', h1, h2⟩
 ·rw [h1] at e; cases e
 ·rw [h1] at e; injection e with e; injection e with e; subst e; exact World.ownsMap.lt h2
theorem FsL.noBlk (h : FsL w sup F v l) {B : Nat} (e : v = .map (some B)) {t : TypeId} {cs : Array Value} : ¬ Blk w B t cs := by
 rcases h.map with ⟨h1, _⟩ | ⟨B', h1, h2⟩
 ·rw [h1] at e; cases e
 ·rw [h1] at e; injection e with e; injection e with e; subst e; exact ownsMap_cells h2
theorem FsL.form (h : FsL w sup F v l) : ∃ r, v = .map r := by
 rcases h.map with ⟨h1, _⟩ | ⟨B', h1, h2⟩
 ·exact ⟨_, h1⟩
 ·exact ⟨_, h1⟩
theorem keyOf_s (s : ByteArray) (hs : s.size ≤ maxLen) : keyOf Tryz.prog 9 (.string s) = some (klS s.data.toList) := WideMaps.keyOf_string_mk Tryz.underlying9 hs
theorem datS_at (l : FL) (k : Nm) : (datS l).atKey (klS k) (.held nilS) = .held (((aGet klS l k).map (·.1)).getD nilS) := by
 rw [dat_at]
 cases aGet klS l k <;> rfl
/-- 'files[name]' -/
theorem FsL.look (h : FsL w sup F v l) (s : ByteArray) (hs : s.size ≤ maxLen) :
  ∃ x, RdB w F x ((fOf l s.data.toList).getD []) ∧ ∀ w', Chg Non w w' → (Instr.lookup 175 v (.string s) false).run Tryz.prog w' = .ok x w' ∧ (Instr.lookup 175 v (.string s) true).run Tryz.prog w' = .ok (.tuple #[x, .bool (fOf l s.data.toList).isSome]) w' := by
 rcases h.map with ⟨rfl, rfl⟩ | ⟨B, rfl, hm⟩
 ·refine ⟨nilS, RdB.nil_ w F, fun w' _ => ⟨?_, ?_⟩⟩
  ·exact Maps.look_nil (w := w') false keyF Tryz.underlying175 (zeroB w') (keyOf_s s hs)
  ·exact Maps.look_nil (w := w') true keyF Tryz.underlying175 (zeroB w') (keyOf_s s hs)
 ·refine ⟨((aGet klS l s.data.toList).map (·.1)).getD nilS, ?_, fun w' hc => ⟨?_, ?_⟩⟩
  ·unfold fOf
   cases e : aGet klS l s.data.toList with
   | none => exact RdB.nil_ w F
   | some p => exact h.rd _ (get_mem keyS e)
  ·obtain ⟨v, ps, hr, hv⟩ := World.ownsMap.lookup (ownsMap_chg hm hc (fun h => h)) keyF Tryz.underlying175 (zeroB w') (zd := .held nilS) rfl (keyOf_s s hs)
   rw [datS_at] at hv
   simp only [heldR, Option.some.injEq, Prod.mk.injEq, DataW.held.injEq] at hv
   rw [hr, hv.1]
  ·obtain ⟨v, ps, hr, hv⟩ := World.ownsMap.look_ok (ownsMap_chg hm hc (fun h => h)) keyF Tryz.underlying175 (zeroB w') (zd := .held nilS) rfl (keyOf_s s hs)
   rw [datS_at] at hv
   rw [dat_has] at hr
   simp only [heldR, Option.some.injEq, Prod.mk.injEq, DataW.held.injEq] at hv
   have e : (aGet klS l s.data.toList).isSome = (fOf l s.data.toList).isSome := by unfold fOf; cases aGet klS l s.data.toList <;> rfl
   rw [hr, hv.1, e]
theorem FsL.new (w : World) (sup : List Nm) (F : Nat → Prop) : FsL (w.alloc (.map #[] 0)) sup F (.map (some w.heap.size)) [] :=
 ⟨Once.nil_, fun p hp => by simp at hp, fun p hp => by simp at hp, .inr ⟨_, rfl, World.ownsMap_made w Tryz.prog 9 heldR⟩⟩
/-- 'files[name] = x' -/
theorem FsL.put {B n : Nat} (h : FsL w sup F (.map (some B)) l) (hF : ∀ b, F b → b ≠ B) (hc : Chg (fun k => k = B) w w') {k : Nm} (hk : k ∈ sup) {x : Value} {b : List UInt8} (hx : RdB w F x b) (hm : w'.ownsMap Tryz.prog 9 heldR B n ((datS l).put (klS k) (.held x))) :
  FsL w' sup F (.map (some B)) (aPut klS k (x, b) l) := by
 have e := dat_put klS (fun x : Value × List UInt8 => (DataW.held x.1 : DataW Value)) l k (x, b)
 rw [show (datS l).put (klS k) (.held x) = datS (aPut klS k (x, b) l) from e] at hm
 have ht := tight hm
 rw [List.length_map] at ht
 refine ⟨h.once.put keyS _ _, fun p hp => ?_, fun p hp => ?_, .inr ⟨B, rfl, ht⟩⟩
 ·rcases (mem_put keyS).1 hp with rfl | ⟨h1, _⟩
  ·exact hk
  ·exact h.sup p h1
 ·rcases (mem_put keyS).1 hp with rfl | ⟨h1, _⟩
  ·exact hx.chg hc hF
  ·exact (h.rd p h1).chg hc hF
end

/-! ### how many bytes all files have -/
def totL (l : FL) : Nat := (l.map fun p => p.2.2.length).sum
def totF (sup : List Nm) (f : Fls) : Nat := (sup.map fun k => ((f k).getD []).length).sum
theorem sum_zero (sup : List Nm) : (sup.map fun k => (((noF k).getD []).length)).sum = 0 := by
 induction sup with
 | nil => rfl
 | cons a r ih => rw [List.map_cons, List.sum_cons, ih]; rfl
theorem tot_step (f : Fls) (k : Nm) (b : List UInt8) (hk : f k = none) : ∀ sup : List Nm, sup.Pairwise (· ≠ ·) → totF sup (setF f k (some b)) = totF sup f + if k ∈ sup then b.length else 0
 | [], _ => by simp [totF]
 | a :: r, h => by
  obtain ⟨h1, h2⟩ := List.pairwise_cons.1 h
  have ih := tot_step f k b hk r h2
  unfold totF at ih ⊢
  rw [List.map_cons, List.sum_cons, List.map_cons, List.sum_cons, ih]
  by_cases e : a = k
  ·subst e
   have hn : ¬ a ∈ r := fun hm => h1 a hm rfl
   rw [setF_same, hk, if_neg hn, if_pos (by simp)]
   simp only [Option.getD_some, Option.getD_none, List.length_nil]
   omega
  ·rw [setF_ne f e]
   by_cases hm : k ∈ r
   ·rw [if_pos hm, if_pos (by simp [hm])]; omega
   ·rw [if_neg hm, if_neg (by simp [hm]; exact fun e2 => e e2.symm)]; omega
theorem totL_F {sup : List Nm} (hsup : sup.Pairwise (· ≠ ·)) : ∀ {l : FL}, Once l → (∀ p ∈ l, p.1 ∈ sup) → totL l = totF sup (fOf l)
 | [], _, _ => (sum_zero sup).symm
 | p :: r, ho, hs => by
  obtain ⟨h1, h2⟩ := List.pairwise_cons.1 ho
  have ih := totL_F hsup h2 fun q hq => hs q (by simp [hq])
  have hn : fOf r p.1 = none := by
   unfold fOf
   rw [get_none keyS fun q hq e => h1 q hq e.symm]; rfl
  have e : fOf (p :: r) = setF (fOf r) p.1 (some p.2.2) := by
   funext j
   unfold fOf setF
   by_cases e : j = p.1
   ·subst e
    rw [mem_get keyS ho (k := p.1) (v := p.2) (by simp), if_pos rfl]; rfl
   ·rw [if_neg e]
    have : aGet klS (p :: r) j = aGet klS r j := by
     unfold aGet
     rw [List.find?_cons, keyS.ne (fun e2 => e e2.symm)]
    rw [this]
  rw [e, tot_step _ _ _ hn sup hsup, if_pos (hs p (by simp)), ← ih]
  show (p.2.2.length + totL r) = _
  omega
/-- what is still to come of a range over the files -/
def sumLeft (l : FL) (left : Lit → Bool) : Nat := (l.map fun p => if left (klS p.1) = true then p.2.2.length else 0).sum
theorem sumLeft_all {l : FL} {left : Lit → Bool} (h : ∀ p ∈ l, left (klS p.1) = true) : sumLeft l left = totL l := by
 unfold sumLeft totL
 congr 1
 exact List.map_congr_left fun p hp => if_pos (h p hp)
theorem sumLeft_none (l : FL) {left : Lit → Bool} (h : ∀ z, left z = false) : sumLeft l left = 0 := by
 unfold sumLeft
 induction l with
 | nil => rfl
 | cons p r ih => rw [List.map_cons, List.sum_cons, ih, h, if_neg (by decide)]
theorem sumLeft_step : ∀ {l : FL} {left : Lit → Bool} {p : Nm × (Value × List UInt8)}, Once l → p ∈ l → left (klS p.1) = true → sumLeft l left = p.2.2.length + sumLeft l fun z => left z && !z.sameKey (klS p.1)
 | [], _, _, _, h, _ => by simp at h
 | q :: r, left, p, ho, hp, hl => by
  obtain ⟨h1, h2⟩ := List.pairwise_cons.1 ho
  have rest : ∀ r : FL, (∀ x ∈ r, x.1 ≠ p.1) → sumLeft r left = sumLeft r fun z => left z && !z.sameKey (klS p.1) := fun r hr => by
   unfold sumLeft
   congr 1
   refine List.map_congr_left fun x hx => ?_
   show _ = if (left (klS x.1) && !(klS x.1).sameKey (klS p.1)) = true then _ else 0
   rw [keyS.ne (hr x hx)]
   simp
  have e : ∀ lf : Lit → Bool, sumLeft (q :: r) lf = (if lf (klS q.1) = true then q.2.2.length else 0) + sumLeft r lf := fun lf => rfl
  rw [e, e]
  rcases List.mem_cons.1 hp with rfl | hp
  ·rw [if_pos hl, rest r fun x hx => (h1 x hx).symm, (keyS.same _ _).2 rfl]
   simp
  ·rw [keyS.ne (h1 p hp), sumLeft_step h2 hp hl]
   simp
   omega
end Go.Proofs.YtliimeoblffigaaGreat

