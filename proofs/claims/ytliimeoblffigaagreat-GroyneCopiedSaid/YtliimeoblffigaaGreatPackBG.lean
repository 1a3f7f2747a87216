/- Lists of byte lists that a call makes: append of one list onto them. Plain theorems, and append at this program's type. -/
import Derived.Test.YtliimeoblffigaaGreatPackAG
set_option linter.unusedVariables false
set_option linter.unusedSimpArgs false
set_option maxRecDepth 100000
namespace Go.Proofs.YtliimeoblffigaaGreat
open Go.RowKit

theorem info_bb : (Tryz.prog.info? 30).map (fun i => (i.zero, i.size, i.bytes)) = some (some (.slice none 0 0), 1, 24) := by kernel_rfl

/-- the slice value v, made by the call, owns the lists ll; what they read lies in F, and not in v's own block -/
def OwnBB (w : World) (base : Nat) (F : Nat → Prop) (v : Value) (ll : List (List UInt8)) : Prop :=
 ∃ vs : List Value, vs.length = ll.length ∧ w.ownsRow base 30 1 v ll.length vs ∧
  ∀ (k : Nat) (x : Value) (l : List UInt8), vs[k]? = some x → ll[k]? = some l → RdB w (fun b => F b ∧ b < w.heap.size ∧ v.ownBlock ≠ some b) x l

section
variable {w w' : World} {F F' S : Nat → Prop} {v : Value} {ll : List (List UInt8)} {base : Nat}
theorem OwnBB.nil_ (w : World) (base : Nat) (F : Nat → Prop) : OwnBB w base F (.slice none 0 0) [] := ⟨[], rfl, World.ownsRow_nil w base _ 1, fun k x l hx _ => by simp at hx⟩
theorem OwnBB.shape (h : OwnBB w base F v ll) : ∃ A c, v = .slice A ll.length c ∧ ll.length ≤ c ∧ c ≤ maxLen := by
 obtain ⟨vs, h1, h2, h3⟩ := h
 exact (RdV.of_own h2).shape
theorem OwnBB.lt (h : OwnBB w base F v ll) : ∀ k, v.ownBlock = some k → base ≤ k ∧ k < w.heap.size := by
 obtain ⟨vs, h1, h2, h3⟩ := h
 exact World.ownsRow.lt h2
theorem OwnBB.chg (h : OwnBB w base F v ll) (hc : Chg S w w') (hn : ∀ k, v.ownBlock = some k → ¬ S k) (hF : ∀ k, F k → ¬ S k) : OwnBB w' base F v ll := by
 obtain ⟨vs, h1, h2, h3⟩ := h
 refine ⟨vs, h1, ⟨h2.1, ?_⟩, fun k x l hx hl => ((h3 k x l hx hl).chg hc fun b hb => hF b hb.1).mono fun b hb => ⟨hb.1, Nat.lt_of_lt_of_le hb.2.1 hc.size, hb.2.2⟩⟩
 rcases h2.2 with hn' | ⟨g, cap, cur, rfl, hb, hg, rest⟩
 ·exact .inl hn'
 ·exact .inr ⟨g, cap, cur, rfl, hb, hc.heap hg (hn g rfl), rest⟩
theorem OwnBB.c0 (h : OwnBB w base F v ll) (hc : Chg Non w w') : OwnBB w' base F v ll := h.chg hc (fun _ _ h => h) fun _ _ h => h
theorem OwnBB.mono (h : OwnBB w base F v ll) (hF : ∀ k, F k → F' k) : OwnBB w base F' v ll := by
 obtain ⟨vs, h1, h2, h3⟩ := h
 exact ⟨vs, h1, h2, fun k x l hx hl => (h3 k x l hx hl).mono fun b hb => ⟨hF b hb.1, hb.2⟩⟩
theorem OwnBB.low (h : OwnBB w base F v ll) {b' : Nat} (hb : b' ≤ base) : OwnBB w b' F v ll := by
 obtain ⟨vs, h1, h2, h3⟩ := h
 refine ⟨vs, h1, ⟨h2.1, ?_⟩, h3⟩
 rcases h2.2 with hn | ⟨g, cap, cur, rfl, hg, rest⟩
 ·exact .inl hn
 ·exact .inr ⟨g, cap, cur, rfl, by omega, rest⟩
/-- as a reading -/
theorem OwnBB.rd (h : OwnBB w base F v ll) : RdBB w (fun b => (F b ∨ v.ownBlock = some b) ∧ b < w.heap.size) v ll := by
 obtain ⟨vs, h1, h2, h3⟩ := h
 refine ⟨vs, h1, (RdV.of_own h2).mono fun b hb => ⟨.inr hb, (World.ownsRow.lt h2 b hb).2⟩, fun k x l hx hl => (h3 k x l hx hl).mono fun b hb => ⟨.inl hb.1, hb.2.1⟩⟩
/-- one list more, when the outer list has grown -/
theorem OwnBB.grow {x : Value} {l : List UInt8} {vs : List Value} (h1 : vs.length = ll.length)
  (h3 : ∀ (k : Nat) (x : Value) (l : List UInt8), vs[k]? = some x → ll[k]? = some l → RdB w (fun b => F b ∧ b < w.heap.size ∧ v.ownBlock ≠ some b) x l)
  (hx : RdB w (fun b => F b ∧ b < w.heap.size ∧ v.ownBlock ≠ some b) x l) {v' : Value}
  (hown : w'.ownsRow base 30 1 v' (ll.length + 1) (vs ++ [x])) (hg : w.grownBy w' v.ownBlock) (hat : v'.ownBlock = v.ownBlock ∨ v'.ownBlock = some w.heap.size) :
  OwnBB w' base F v' (ll ++ [l]) := by
 have hmv : ∀ (y : Value) (m : List UInt8), RdB w (fun b => F b ∧ b < w.heap.size ∧ v.ownBlock ≠ some b) y m → RdB w' (fun b => F b ∧ b < w'.heap.size ∧ v'.ownBlock ≠ some b) y m := fun y m h =>
  (h.chg (Chg.of_grown hg) fun b hb e => hb.2.2 e.symm).mono fun b hb => ⟨hb.1, Nat.lt_of_lt_of_le hb.2.1 hg.size, fun e => by
   rcases hat with hat | hat
   ·exact hb.2.2 (hat ▸ e)
   ·rw [hat] at e; injection e with e; omega⟩
 refine ⟨vs ++ [x], by simp [h1], by rw [List.length_append]; exact hown, fun k y m hy hm => ?_⟩
 rw [List.getElem?_append] at hy hm
 rw [h1] at hy
 split at hy
 ·rename_i h
  rw [if_pos h] at hm
  exact hmv y m (h3 k y m hy hm)
 ·rename_i h
  rw [if_neg h] at hm
  have e : k - ll.length = 0 := by
   have := (List.getElem?_eq_some_iff.1 hy).1
   simp at this; omega
  rw [e] at hy hm
  simp at hy hm
  subst hy; subst hm
  exact hmv _ _ hx
end

/-! ### lists of byte lists, each of which is the call's own -/
section
variable {w w' : World} {S : Nat → Prop} {v : Value} {ll : List (List UInt8)} {base : Nat}
end

end Go.Proofs.YtliimeoblffigaaGreat

set_option maxRecDepth 100000
namespace Go.Proofs.YtliimeoblffigaaGreat

/-- the bytes of a number, the greatest first, none for 0; with fuel -/
def beF : Nat → Nat → List UInt8
 | 0, _ => []
 | f + 1, n => if n = 0 then [] else beF f (n / 256) ++ [UInt8.ofNat (n % 256)]
def be (n : Nat) : List UInt8 := beF 8 n

theorem beF_zero (f : Nat) : beF f 0 = [] := by cases f <;> simp [beF]
theorem beF_succ (f n : Nat) (h : 0 < n) : beF (f + 1) n = beF f (n / 256) ++ [UInt8.ofNat (n % 256)] := by rw [beF, if_neg (by omega)]
theorem beF_length (f n : Nat) : (beF f n).length ≤ f := by
 induction f generalizing n with
 | zero => simp [beF]
 | succ f ih => rw [beF]; split <;> simp [ih]

/-- a number as bytes -/
def numB (n : Nat) : List UInt8 := if n < 248 then [UInt8.ofNat n] else UInt8.ofNat (247 + (be n).length) :: be n
def numsB (l : List Nat) : List UInt8 := l.flatMap numB

theorem be_length (n : Nat) : (be n).length ≤ 8 := beF_length 8 n
theorem numB_length (n : Nat) : (numB n).length ≤ 9 := by
 unfold numB; split
 ·simp
 ·have := be_length n; simp; omega
theorem numsB_length (l : List Nat) : (numsB l).length ≤ 9 * l.length := by
 induction l with
 | nil => simp [numsB]
 | cons n l ih => have := numB_length n; simp only [numsB, List.flatMap_cons, List.length_append, List.length_cons] at ih ⊢; omega
theorem numsB_take (l : List Nat) (k : Nat) (h : k < l.length) : numsB (l.take (k + 1)) = numsB (l.take k) ++ numB l[k] := by
 rw [List.take_succ_eq_append_getElem h, numsB, List.flatMap_append]; simp [numsB]

theorem numB_small (n : Nat) (h : n ≤ 247) : numB n = [UInt8.ofNat n] := by rw [numB, if_pos (by omega)]
theorem numB_large (n : Nat) (h : ¬ n ≤ 247) : numB n = UInt8.ofNat (247 + (be n).length) :: be n := by rw [numB, if_neg (by omega)]
/-- one step of taking bytes off a number: f more are left room for -/
theorem beF_step {n f m : Nat} {rest : List UInt8} (h : beF (f + 1) m ++ rest = be n) (h0 : 0 < m) : beF f (m / 256) ++ (UInt8.ofNat (m % 256) :: rest) = be n := by
 rw [beF_succ f m h0, List.append_assoc] at h; exact h
theorem beF_stop {n f : Nat} {rest : List UInt8} (h : beF f 0 ++ rest = be n) : rest = be n := by rw [beF_zero] at h; exact h

/-- the number that bytes are, the greatest first -/
def valF (a : Nat) (l : List UInt8) : Nat := l.foldl (fun v b => v * 256 + b.toNat) a
def val (l : List UInt8) : Nat := valF 0 l

theorem valF_snoc (a : Nat) (l : List UInt8) (b : UInt8) : valF a (l ++ [b]) = valF a l * 256 + b.toNat := by simp [valF]
theorem val_snoc (l : List UInt8) (b : UInt8) : val (l ++ [b]) = val l * 256 + b.toNat := valF_snoc 0 l b
theorem val_lt (l : List UInt8) : val l < 256 ^ l.length := by
 suffices h : ∀ (n : Nat) (l : List UInt8), l.length = n → val l < 256 ^ n from h _ _ rfl
 intro n
 induction n with
 | zero => intro l h; rw [List.eq_nil_of_length_eq_zero h]; simp [val, valF]
 | succ n ih =>
  intro l h
  obtain ⟨s, b, rfl⟩ : ∃ s b, l = s ++ [b] := ⟨l.dropLast, l.getLast (by intro e; rw [e] at h; simp at h), (List.dropLast_concat_getLast _).symm⟩
  rw [List.length_append, List.length_singleton] at h
  have := ih s (by omega)
  have hb := b.toNat_lt
  rw [val_snoc, Nat.pow_succ]
  omega
theorem val_take_succ (l : List UInt8) (i : Nat) (h : i < l.length) : val (l.take (i + 1)) = val (l.take i) * 256 + l[i].toNat := by
 rw [List.take_succ_eq_append_getElem h, val_snoc]
theorem val_take_lt (l : List UInt8) (i : Nat) : val (l.take i) < 256 ^ i := by
 refine Nat.lt_of_lt_of_le (val_lt _) (Nat.pow_le_pow_right (by omega) ?_)
 rw [List.length_take]; omega

theorem valF_eq (l : List UInt8) : ∀ a, valF a l = a * 256 ^ l.length + val l := by
 induction l with
 | nil => intro a; simp [valF, val]
 | cons c l ih =>
  intro a
  have h1 : valF a (c :: l) = valF (a * 256 + c.toNat) l := rfl
  have h2 : val (c :: l) = valF (0 * 256 + c.toNat) l := rfl
  rw [h1, h2, ih, ih (0 * 256 + c.toNat), List.length_cons, Nat.pow_succ, Nat.add_mul, Nat.zero_mul, Nat.zero_add, Nat.mul_assoc, Nat.mul_comm 256, Nat.add_assoc]
theorem val_cons (c : UInt8) (l : List UInt8) : val (c :: l) = c.toNat * 256 ^ l.length + val l := by
 have h : val (c :: l) = valF (0 * 256 + c.toNat) l := rfl
 rw [h, valF_eq]; simp

theorem beF_len_le : ∀ (f n j : Nat), n < 256 ^ j → (beF f n).length ≤ j
 | 0, _, _, _ => by simp [beF]
 | f + 1, n, j, h => by
  rw [beF]
  split
  ·simp
  ·rename_i h0
   cases j with
   | zero => simp at h; omega
   | succ j =>
    have := beF_len_le f (n / 256) j (Nat.div_lt_of_lt_mul (by rw [Nat.mul_comm, ← Nat.pow_succ]; exact h))
    simp; omega
theorem beF_len_ge : ∀ (f n j : Nat), 256 ^ j ≤ n → j < f → j < (beF f n).length
 | 0, _, _, _, h => by omega
 | f + 1, n, j, h, hj => by
  have hp : 0 < 256 ^ j := Nat.pow_pos (by omega)
  rw [beF, if_neg (by omega)]
  cases j with
  | zero => simp
  | succ j =>
   have := beF_len_ge f (n / 256) j ((Nat.le_div_iff_mul_le (by omega)).2 (by rw [← Nat.pow_succ]; exact h)) (by omega)
   simp; omega
/-- the shortest form is just that of the right length -/
theorem numB_len_iff (p : List UInt8) (h0 : 0 < p.length) (h8 : p.length ≤ 8) : (numB (val p)).length = p.length + 1 ↔ ¬ (val p ≤ 247 ∨ p.head? = some 0) := by
 obtain ⟨c, t, rfl⟩ : ∃ c t, p = c :: t := by cases p with
  | nil => simp at h0
  | cons c t => exact ⟨c, t, rfl⟩
 simp only [List.length_cons] at h0 h8 ⊢
 simp only [List.head?_cons, Option.some.injEq, not_or]
 have hv := val_cons c t
 have ht := val_lt t
 by_cases hs : val (c :: t) ≤ 247
 ·rw [numB_small _ hs]; simp; omega
 ·rw [numB_large _ hs]
  by_cases hc : c = 0
  ·subst hc
   have : val (0 :: t) < 256 ^ t.length := by rw [hv]; simpa using ht
   have h1 := beF_len_le 8 _ _ this
   have h2 : (be (val (0 :: t))).length ≤ t.length := h1
   simp; omega
  ·have hcpos : 0 < c.toNat := Nat.pos_of_ne_zero fun h => hc (UInt8.toNat_inj.1 h)
   have hge : 256 ^ t.length ≤ val (c :: t) := by
    rw [hv]
    exact Nat.le_trans (Nat.le_mul_of_pos_left _ hcpos) (Nat.le_add_right _ _)
   have hlt : val (c :: t) < 256 ^ (t.length + 1) := val_lt (c :: t)
   have h1 : t.length < (be (val (c :: t))).length := beF_len_ge 8 _ _ hge (by omega)
   have h2 : (be (val (c :: t))).length ≤ t.length + 1 := beF_len_le 8 _ _ hlt
   simp only [List.length_cons]
   exact ⟨fun _ => ⟨hs, hc⟩, fun _ => by omega⟩

theorem val_beF : ∀ (f n : Nat), n < 256 ^ f → val (beF f n) = n
 | 0, n, h => by simp at h; subst h; rfl
 | f + 1, n, h => by
  rw [beF]
  split
  ·rename_i h0; subst h0; rfl
  ·rw [val_snoc, val_beF f (n / 256) (Nat.div_lt_of_lt_mul (by rw [Nat.mul_comm, ← Nat.pow_succ]; exact h)), UInt8.toNat_ofNat']
   omega
theorem val_be {n : Nat} (h : n < 18446744073709551616) : val (be n) = n := val_beF 8 n (Nat.lt_of_lt_of_le h (Nat.le_of_eq (by decide)))

/-- the number at a place: itself, the place behind it, the error's number -/
def takeB (b : List UInt8) (at_ : Int) : Nat × Int × Int :=
 if at_ < 0 ∨ (b.length : Int) < at_ then (0, 0, 1) else
 match b.drop at_.toNat with
 | [] => (0, 0, 5)
 | f :: r =>
  if f.toNat ≤ 247 then (f.toNat, at_ + 1, 0)
  else if r.length < f.toNat - 247 then (0, 0, 5)
  else if val (r.take (f.toNat - 247)) ≤ 247 ∨ r.head? = some 0 then (0, 0, 3)
  else (val (r.take (f.toNat - 247)), at_ + 1 + ((f.toNat - 247 : Nat) : Int), 0)

theorem takeB_arg (b : List UInt8) (at_ : Int) (h : at_ < 0 ∨ (b.length : Int) < at_) : takeB b at_ = (0, 0, 1) := by rw [takeB, if_pos h]
theorem takeB_end (b : List UInt8) : takeB b b.length = (0, 0, 5) := by
 rw [takeB, if_neg (by omega), Int.toNat_natCast, List.drop_length]
theorem takeB_at (b : List UInt8) (a : Nat) (h : a < b.length) : takeB b a =
  if b[a].toNat ≤ 247 then (b[a].toNat, (a : Int) + 1, 0)
  else if (b.drop (a + 1)).length < b[a].toNat - 247 then (0, 0, 5)
  else if val ((b.drop (a + 1)).take (b[a].toNat - 247)) ≤ 247 ∨ (b.drop (a + 1)).head? = some 0 then (0, 0, 3)
  else (val ((b.drop (a + 1)).take (b[a].toNat - 247)), (a : Int) + 1 + ((b[a].toNat - 247 : Nat) : Int), 0) := by
 rw [takeB, if_neg (by omega), Int.toNat_natCast, List.drop_eq_getElem_cons h]
/-- what Number has written, Take takes -/
theorem takeB_numB {n : Nat} (h : n < 18446744073709551616) (pre post : List UInt8) : takeB (pre ++ numB n ++ post) (pre.length : Int) = (n, ((pre ++ numB n).length : Int), 0) := by
 by_cases h1 : n ≤ 247
 ·have e : numB n = [UInt8.ofNat n] := numB_small n h1
  have hx : (UInt8.ofNat n).toNat = n := by rw [UInt8.toNat_ofNat']; omega
  rw [e, takeB_at _ _ (by simp)]
  have hb : (pre ++ [UInt8.ofNat n] ++ post)[pre.length]'(by simp) = UInt8.ofNat n := by simp
  rw [hb, hx, if_pos h1]
  simp
 ·have e : numB n = UInt8.ofNat (247 + (be n).length) :: be n := numB_large n h1
  have hk := be_length n
  have hv := val_be h
  have hk0 : 0 < (be n).length := by
   rcases Nat.eq_zero_or_pos (be n).length with h0 | h0
   ·rw [List.eq_nil_of_length_eq_zero h0] at hv
    have : val [] = 0 := rfl
    omega
   ·exact h0
  have hx : (UInt8.ofNat (247 + (be n).length)).toNat = 247 + (be n).length := by rw [UInt8.toNat_ofNat']; omega
  have hf := (numB_len_iff (be n) hk0 hk).1 (by rw [hv, e]; simp)
  rw [hv] at hf
  rw [e, takeB_at _ _ (by simp)]
  have hb : (pre ++ (UInt8.ofNat (247 + (be n).length) :: be n) ++ post)[pre.length]'(by simp) = UInt8.ofNat (247 + (be n).length) := by simp
  have hd : (pre ++ (UInt8.ofNat (247 + (be n).length) :: be n) ++ post).drop (pre.length + 1) = be n ++ post := by
   rw [List.append_assoc, ← List.drop_drop, List.drop_left]; rfl
  have hkk : 247 + (be n).length - 247 = (be n).length := by omega
  have hh : (be n ++ post).head? = (be n).head? := by
   cases hbe : be n with
   | nil => rw [hbe] at hk0; simp at hk0
   | cons => rfl
  rw [hb, hx, hd, if_neg (by omega), hkk, if_neg (by simp), List.take_left, hv, hh, if_neg hf]
  simp only [List.length_append, List.length_cons, Prod.mk.injEq, true_and, and_true]
  omega
end Go.Proofs.YtliimeoblffigaaGreat

set_option maxRecDepth 100000
namespace Go.Proofs.YtliimeoblffigaaGreat
open Go.RowKit

theorem len8 : Tryz.prog.arrayLen 230 = 8 := by kernel_rfl
theorem slice_arr8 (w : World) (g a r : Nat) (ha : a + r = 8) (hr : 0 < r) : (Instr.sliceAt 230 (.pointer (some ⟨g, 0, none⟩)) (some (.int .i64 (a : Int))) none none).run Tryz.prog w = .ok (.slice (some ⟨g, a, none⟩) r r) w := by
 rw [run_sliceAt_array_l (P := Tryz.prog) w 230 ⟨g, 0, none⟩ (by kernel_rfl) .i64 (a : Int) (by omega) (by rw [len8]; omega)]
 rw [len8]
 have h1 : (sizeOf (Tryz.prog.elem 230)).run Tryz.prog w = .ok 1 w := by kernel_rfl
 rw [h1]
 have e : 8 - a = r := by omega
 simp only [Result.andThen, slicedAt, Int.toNat_natCast, Nat.mul_one, add_none, Nat.zero_add, e]
 rw [if_neg (by omega)]

set_option maxHeartbeats 400000 in
theorem packNumber {v : Value} {l : List Nat} {F : Nat → Prop} {w : World} (hr : RdU w F v l) (hl : 9 * l.length ≤ 140737488355328) :
  Calls Tryz.prog 96 #[v] w fun e w' => ∃ u, e = .returned u ∧ OwnB w' w.heap.size u (numsB l) ∧ Chg Non w w' := by
 obtain ⟨A, c, rfl, hc, hm⟩ := hr.shape
 unfold maxLen at hm
 go_enter Tryz.func96, Tryz.ntmps96
 go_wp2
 go_loopw [3, 11] (fun out i wr => ∃ k : Nat, k ≤ l.length ∧ i = .int .i64 k ∧ OwnB wr w.heap.size out (numsB (l.take k)) ∧ Chg Non w wr) (fun _ i _ => l.length - (intOf i).toNat)
 case atStart => exact ⟨0, Nat.zero_le _, rfl, OwnB.nil_ _ _, Chg.refl _ _⟩
 case round =>
  obtain ⟨k, hk, rfl, hown, hchg⟩ := hrel
  by_cases h1 : k < l.length
  ·obtain ⟨ad, rfl, _, hu, hca⟩ := (hr.c0 hchg).at_ h1
   have HU := hide hu
   clear hu
   have HT := hide (numsB_take l k h1)
   have hnn := numsB_length (l.take k)
   rw [List.length_take, Nat.min_eq_left hk] at hnn
   obtain ⟨n, hn⟩ : ∃ n, n = l[k] := ⟨_, rfl⟩
   rw [← hn] at HT HU hca
   clear hn
   by_cases h2 : n ≤ 247
   ·have HN := hide (numB_small n h2)
    go_wp2_with (at_builtin; refine append_B rfl _ _ rfl (hown.al _) rfl (own_one wr (UInt8.ofNat n) _ ?_).rd rfl ?_ ?_ ?_; rotate_left 3; intro v1 w1 hown1 hg1 hat1)
    ·go_roundw
     case rel =>
      refine ⟨k + 1, by omega, by go_num, ?_, (hchg.alloc _).own hg1 fun q hq => (hown.lt q hq).1⟩
      rw [HT.out, HN.out]; exact hown1
     case measure => simp [intOf]; omega
    ·rw [UInt8.toNat_ofNat']; omega
    ·simp; omega
    ·have := hchg.size; simp; omega
   ·go_wp2
    obtain ⟨g, hg⟩ : ∃ g, g = wr.heap.size := ⟨_, rfl⟩
    have hb0 := Blk.new wr 230 #[.int .u8 0, .int .u8 0, .int .u8 0, .int .u8 0, .int .u8 0, .int .u8 0, .int .u8 0, .int .u8 0]
    have hc0 := hchg.alloc (.cells #[.int .u8 0, .int .u8 0, .int .u8 0, .int .u8 0, .int .u8 0, .int .u8 0, .int .u8 0, .int .u8 0] 230)
    have ho0 := hown.al (.cells #[.int .u8 0, .int .u8 0, .int .u8 0, .int .u8 0, .int .u8 0, .int .u8 0, .int .u8 0, .int .u8 0] 230)
    have hlt := fun k hk => (hown.lt k hk).2
    rw [← hg] at hb0
    obtain ⟨wo, hwo⟩ : ∃ wo, wo = wr.alloc (.cells #[.int .u8 0, .int .u8 0, .int .u8 0, .int .u8 0, .int .u8 0, .int .u8 0, .int .u8 0, .int .u8 0] 230) := ⟨_, rfl⟩
    rw [← hwo] at hb0 hc0 ho0 ⊢
    rw [← hg] at hlt ⊢
    have hge : w.heap.size ≤ g := by rw [hg]; exact hchg.size
    clear hg hwo
    go_loopw [5, 7] (fun mv av w2 => ∃ (m a : Nat) (rest : List UInt8) (arr : Array Value), a + rest.length = 8 ∧ mv = .int .u64 m ∧ av = .int .i64 a ∧ Hid (beF a m ++ rest = be n) ∧ Hid (m < 256 ^ a) ∧
      Blk w2 g 230 arr ∧ Hid (arr.size = 8 ∧ arr.toList.drop a = bvs rest) ∧ Chg (fun k => k = g) wo w2) (fun _ a _ => (intOf a).toNat)
    case atStart => exact ⟨n, 8, [], _, rfl, rfl, rfl, hide (by rw [List.append_nil]; rfl), hide (by have := HU.out; unfold U64 at this; omega), hb0, hide ⟨rfl, rfl⟩, Chg.refl _ _⟩
    case round =>
     obtain ⟨m, a, rest, arr, ha, rfl, rfl, hbe, hm2, hblk, harr, hc2⟩ := hrel
     by_cases h3 : 0 < m
     ·cases a with
      | zero => have := hm2.out; simp at this; omega
      | succ b =>
      have HS := hide (beF_step hbe.out h3)
      have hcell := hblk.cell b
      rw [Array.getElem?_eq_getElem (by have := harr.out.1; omega)] at hcell
      have hfr := hblk.frozen b
      go_wp2
      go_roundw
      case rel =>
       have h8 := harr.out.1
       have hbl : b < arr.size := by omega
       refine ⟨m / 256, b, UInt8.ofNat (m % 256) :: rest, arr.setIfInBounds b (.int .u8 ((m % 256 : Nat) : Int)), by simp; omega, by go_num, rfl, hide HS.out, hide ?_, hblk.set_ b _, hide ⟨by simpa using h8, ?_⟩, hc2.setCell (fun _ => rfl) _⟩
       ·have := hm2.out
        rw [Nat.pow_succ] at this
        exact Nat.div_lt_of_lt_mul (by rw [Nat.mul_comm]; exact this)
       ·rw [Array.toList_setIfInBounds, List.drop_eq_getElem_cons (by simpa using hbl), List.drop_set_of_lt (by omega), harr.out.2]
        simp [bvs, bv]
      case measure => simp [intOf]
     ·have h4 : m = 0 := by omega
      subst h4
      have HB := hide (beF_stop hbe.out)
      have hr0 : 0 < rest.length := by
       rw [HB.out]
       unfold be; rw [beF_succ 7 n (by omega)]; simp
      have hsl := fun w => slice_arr8 w g a rest.length ha hr0
      have hrest : RdB wr (fun q => q = g) (.slice (some ⟨g, a, none⟩) rest.length rest.length) rest :=
       RdB.of_blk hblk (by rw [harr.out.2, List.take_of_length_le]; rw [bvs_length]; exact Nat.le_refl _) (Nat.le_refl _) (by simp only [maxLen]; omega)
      have ho2 := ho0.chg hc2 (fun q hq e => by have := hlt q hq; omega)
      have hc3 := hc0.trans hc2 (fun q hq e => by omega)
      have hr8 : rest.length ≤ 8 := by omega
      have HN := hide (numB_large n h2)
      go_wp2_with (first
       | (at_builtin; refine append_B rfl _ _ rfl (ho2.al _) rfl (own_one wr (UInt8.ofNat (247 + rest.length)) _ ?_).rd rfl ?_ ?_ ?_; rotate_left 3; intro v1 w1 hown1 hg1 hat1)
       | (at_builtin; refine append_B rfl _ _ rfl hown1 rfl ((hrest.al _).chg (Chg.of_grown hg1) ?_) rfl ?_ ?_ ?_; rotate_left 3; intro v2 w2 hown2 hg2 hat2))
      ·go_roundw
       case rel =>
        refine ⟨k + 1, by omega, by go_num, ?_, ((hc3.alloc _).own hg1 fun q hq => (ho2.lt q hq).1).own hg2 fun q hq => (hown1.lt q hq).1⟩
        rw [HT.out, HN.out, ← HB.out, List.append_cons]; exact hown2
       case measure => simp [intOf]; omega
      ·intro q e he; subst e; have := hlt q he.symm; omega
      ·simp; omega
      ·have h1 := hc3.size; have h2 := hg1.size; simp at h2; omega
      ·rw [UInt8.toNat_ofNat']; omega
      ·simp; omega
      ·have h1 := hc3.size; simp; omega
  ·have hk2 : k = l.length := by omega
   go_wp2
   go_ret
   refine ⟨_, rfl, ?_, hchg⟩
   rw [hk2, List.take_length] at hown
   exact hown
end Go.Proofs.YtliimeoblffigaaGreat

