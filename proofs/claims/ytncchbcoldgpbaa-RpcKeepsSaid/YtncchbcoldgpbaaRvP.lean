/- rpc's wire, where it reads: what a part of the bytes says, in plain Lean. -/
import Derived.Test.YtncchbcoldgpbaaWirQ
import Derived.Test.YtncchbcoldgpbaaRdr
namespace Go.Proofs.Ytncchbcoldgpbaa
open Go.RowKit
set_option linter.unusedVariables false
set_option linter.unusedSimpArgs false

/-- what was read, v, is what stands there (where no error came); and what stands there is read -/
structure Took {α : Type} (D : α → Prop) (E : α → List UInt8) (l : List UInt8) (a : Nat) (e : Int) (v : α) (a' : Nat) (e' : Int) : Prop where
  ok : e' = 0 → e = 0 ∧ D v ∧ l.drop a = E v ++ l.drop a'
  det : e = 0 → ∀ v0 r, D v0 → l.drop a = E v0 ++ r → e' = 0 ∧ v = v0 ∧ l.drop a' = r
/-- nothing of this form stands there -/
def Fell {α : Type} (D : α → Prop) (E : α → List UInt8) (l : List UInt8) (a : Nat) (e : Int) : Prop := e = 0 → ∀ v0 r, D v0 → l.drop a ≠ E v0 ++ r

section
variable {α β γ : Type} {D1 : α → Prop} {E1 : α → List UInt8} {D2 : β → Prop} {E2 : β → List UInt8} {D3 : γ → Prop} {E3 : γ → List UInt8} {l : List UInt8} {a a1 a2 : Nat} {e e1 e2 : Int} {x : α} {y : β} {z : γ}
theorem Took.seq (h : Took D1 E1 l a e x a1 e1) (h' : Took D2 E2 l a1 e1 y a2 e2) : Took (fun p : α × β => D1 p.1 ∧ D2 p.2) (fun p => E1 p.1 ++ E2 p.2) l a e (x, y) a2 e2 := by
  refine ⟨fun he => ?_, fun he v0 r hd hr => ?_⟩
  · obtain ⟨h1, d2, h2⟩ := h'.ok he
    obtain ⟨h3, d1, h4⟩ := h.ok h1
    exact ⟨h3, ⟨d1, d2⟩, by rw [h4, h2, List.append_assoc]⟩
  · obtain ⟨h1, h2, h3⟩ := h.det he v0.1 (E2 v0.2 ++ r) hd.1 (by rw [hr, List.append_assoc])
    obtain ⟨h4, h5, h6⟩ := h'.det h1 v0.2 r hd.2 h3
    exact ⟨h4, by rw [h2, h5], h6⟩
theorem Fell.left (h : Fell D1 E1 l a e) : Fell (fun p : α × β => D1 p.1 ∧ D2 p.2) (fun p => E1 p.1 ++ E2 p.2) l a e :=
  fun he v0 r hd hr => h he v0.1 (E2 v0.2 ++ r) hd.1 (by rw [hr, List.append_assoc])
theorem Took.fell (h : Took D1 E1 l a e x a1 e1) (h' : Fell D2 E2 l a1 e1) : Fell (fun p : α × β => D1 p.1 ∧ D2 p.2) (fun p => E1 p.1 ++ E2 p.2) l a e := by
  intro he v0 r hd hr
  obtain ⟨h1, h2, h3⟩ := h.det he v0.1 (E2 v0.2 ++ r) hd.1 (by rw [hr, List.append_assoc])
  exact h' h1 v0.2 r hd.2 h3
theorem Took.iso (h : Took D1 E1 l a e x a1 e1) (f : α → β) (g : β → α) (hfg : ∀ y, D2 y → f (g y) = y) (hD : ∀ y, D2 y → D1 (g y)) (hD2 : ∀ x, D1 x → D2 (f x)) (hE : ∀ y, D2 y → E2 y = E1 (g y)) (hE2 : ∀ x, D1 x → E2 (f x) = E1 x) : Took D2 E2 l a e (f x) a1 e1 := by
  refine ⟨fun he => ?_, fun he v0 r hd hr => ?_⟩
  · obtain ⟨h1, d, h2⟩ := h.ok he
    exact ⟨h1, hD2 _ d, by rw [hE2 _ d]; exact h2⟩
  · obtain ⟨h1, h2, h3⟩ := h.det he (g v0) r (hD _ hd) (by rw [hr, hE _ hd])
    exact ⟨h1, by rw [h2, hfg _ hd], h3⟩
theorem Fell.iso (h : Fell D1 E1 l a e) (g : β → α) (hD : ∀ y, D2 y → D1 (g y)) (hE : ∀ y, D2 y → E2 y = E1 (g y)) : Fell D2 E2 l a e :=
  fun he v0 r hd hr => h he (g v0) r (hD _ hd) (by rw [hr, hE _ hd])
theorem Took.nil_ : Took (fun xs : List α => xs.length = 0 ∧ ∀ x ∈ xs, D1 x) (fun xs => xs.flatMap E1) l a e [] a e :=
  ⟨fun he => ⟨he, ⟨rfl, fun x h => by simp at h⟩, rfl⟩, fun he v0 r hd hr => by
    have h0 := List.eq_nil_of_length_eq_zero hd.1
    subst h0
    exact ⟨he, rfl, hr⟩⟩
theorem Took.snoc {xs : List α} {k : Nat} (h : Took (fun xs : List α => xs.length = k ∧ ∀ x ∈ xs, D1 x) (fun xs => xs.flatMap E1) l a e xs a1 e1) (h' : Took D1 E1 l a1 e1 x a2 e2) :
    Took (fun xs : List α => xs.length = k + 1 ∧ ∀ x ∈ xs, D1 x) (fun xs => xs.flatMap E1) l a e (xs ++ [x]) a2 e2 := by
  refine ⟨fun he => ?_, fun he v0 r hd hr => ?_⟩
  · obtain ⟨h1, d2, h2⟩ := h'.ok he
    obtain ⟨h3, d1, h4⟩ := h.ok h1
    refine ⟨h3, ⟨by rw [List.length_append, d1.1]; rfl, fun z hz => ?_⟩, by rw [h4, h2, List.flatMap_append, List.flatMap_cons, List.flatMap_nil, List.append_nil, List.append_assoc]⟩
    rcases List.mem_append.1 hz with hz | hz
    · exact d1.2 z hz
    · rw [List.mem_singleton] at hz; subst hz; exact d2
  · obtain ⟨ys, y, rfl⟩ : ∃ ys y, v0 = ys ++ [y] := ⟨v0.dropLast, v0.getLast (by intro h0; rw [h0] at hd; simp at hd), (List.dropLast_concat_getLast _).symm⟩
    have hl : ys.length = k := by have := hd.1; rw [List.length_append, List.length_singleton] at this; omega
    obtain ⟨h1, h2, h3⟩ := h.det he ys (E1 y ++ r) ⟨hl, fun z hz => hd.2 z (List.mem_append_left _ hz)⟩ (by rw [hr, List.flatMap_append, List.flatMap_cons, List.flatMap_nil, List.append_nil, List.append_assoc])
    obtain ⟨h4, h5, h6⟩ := h'.det h1 y r (hd.2 y (by simp)) h3
    exact ⟨h4, by rw [h2, h5], h6⟩
theorem Fell.snoc {xs : List α} {k n : Nat} (h : Took (fun xs : List α => xs.length = k ∧ ∀ x ∈ xs, D1 x) (fun xs => xs.flatMap E1) l a e xs a1 e1) (h' : Fell D1 E1 l a1 e1) (hk : k < n) :
    Fell (fun xs : List α => xs.length = n ∧ ∀ x ∈ xs, D1 x) (fun xs => xs.flatMap E1) l a e := by
  intro he v0 r hd hr
  have hkv : k < v0.length := by rw [hd.1]; exact hk
  have hsp : v0 = v0.take k ++ (v0[k] :: v0.drop (k + 1)) := by rw [← List.drop_eq_getElem_cons hkv, List.take_append_drop]
  obtain ⟨h1, h2, h3⟩ := h.det he (v0.take k) (E1 v0[k] ++ ((v0.drop (k + 1)).flatMap E1 ++ r)) ⟨by rw [List.length_take]; omega, fun z hz => hd.2 z (List.take_subset _ _ hz)⟩ (by
    rw [hr, ← List.append_assoc, ← List.append_assoc, List.append_assoc (List.flatMap _ _) (E1 _) _, ← List.flatMap_cons, ← List.flatMap_append, ← hsp])
  exact h' h1 _ _ (hd.2 _ (List.getElem_mem hkv)) h3
end

/-! ### a count -/
/-- a count that can be -/
structure Cnt (l : List UInt8) (a : Nat) (e : Int) (n a' : Nat) : Prop where
  e : e = 0
  at_ : l.drop a = numB n ++ l.drop a'
  u : n < 9223372036854775808
  le : n ≤ l.length - a'
/-- no count that can be -/
def NoCnt (l : List UInt8) (a : Nat) (e : Int) : Prop := e = 0 → ∀ n r, n < 9223372036854775808 → l.drop a = numB n ++ r → r.length < n
theorem numB_inj {n m : Nat} {r s : List UInt8} (hn : U64 n) (hm : U64 m) (h : numB n ++ r = numB m ++ s) : n = m ∧ r = s := by
  have h1 := hd_numB hn r
  rw [h, hd_numB hm s] at h1
  have e1 : m = n := congrArg (fun p : Nat × Nat × Int => p.1) h1
  subst e1
  exact ⟨rfl, List.append_cancel_left h⟩
section
variable {α : Type} {D1 : α → Prop} {E1 : α → List UInt8} {l : List UInt8} {a n a1 a2 : Nat} {e e2 : Int}
theorem flatMap_ge {E : α → List UInt8} (h1 : ∀ x, 1 ≤ (E x).length) : ∀ xs : List α, xs.length ≤ (xs.flatMap E).length
  | [] => Nat.le_refl _
  | x :: xs => by rw [List.flatMap_cons, List.length_append, List.length_cons]; have := flatMap_ge h1 xs; have := h1 x; omega
theorem Cnt.took {xs : List α} (h : Cnt l a e n a1) (h' : Took (fun xs : List α => xs.length = n ∧ ∀ x ∈ xs, D1 x) (fun xs => xs.flatMap E1) l a1 0 xs a2 e2) :
    Took (fun xs : List α => xs.length < 9223372036854775808 ∧ ∀ x ∈ xs, D1 x) (fun xs => numB xs.length ++ xs.flatMap E1) l a e xs a2 e2 := by
  have hu := h.u
  refine ⟨fun he => ?_, fun he v0 r hd hr => ?_⟩
  · obtain ⟨_, d, h2⟩ := h'.ok he
    exact ⟨h.e, ⟨by rw [d.1]; exact h.u, d.2⟩, by rw [h.at_, h2, d.1, List.append_assoc]⟩
  · have h0 := h.at_
    rw [hr, List.append_assoc] at h0
    have hv := hd.1
    obtain ⟨h1, h2⟩ := numB_inj (by unfold U64; omega) (by unfold U64; omega) h0
    exact h'.det rfl v0 r ⟨h1, hd.2⟩ h2.symm
theorem Cnt.fell (h : Cnt l a e n a1) (h' : Fell (fun xs : List α => xs.length = n ∧ ∀ x ∈ xs, D1 x) (fun xs => xs.flatMap E1) l a1 0) :
    Fell (fun xs : List α => xs.length < 9223372036854775808 ∧ ∀ x ∈ xs, D1 x) (fun xs => numB xs.length ++ xs.flatMap E1) l a e := by
  intro he v0 r hd hr
  have hu := h.u
  have h0 := h.at_
  rw [hr, List.append_assoc] at h0
  have hv := hd.1
  obtain ⟨h1, h2⟩ := numB_inj (by unfold U64; omega) (by unfold U64; omega) h0
  exact h' rfl v0 r ⟨h1, hd.2⟩ h2.symm
theorem NoCnt.fell (h : NoCnt l a e) (h1 : ∀ x, 1 ≤ (E1 x).length) :
    Fell (fun xs : List α => xs.length < 9223372036854775808 ∧ ∀ x ∈ xs, D1 x) (fun xs => numB xs.length ++ xs.flatMap E1) l a e := by
  intro he v0 r hd hr
  have h2 := h he v0.length (v0.flatMap E1 ++ r) hd.1 (by rw [hr, List.append_assoc])
  have h3 := flatMap_ge h1 v0
  rw [List.length_append] at h2
  omega
end

/-! ### numbers, texts, flags -/
theorem drop_split {l : List UInt8} {a u : Nat} {b : List UInt8} (h : (l.drop a).take u = b) : l.drop a = b ++ l.drop (a + u) := by
  rw [← h, ← List.drop_drop, List.take_append_drop]
theorem numR_took (l : List UInt8) (a : Nat) (e : Int) : Took U64 numB l a e (numR l a e).1 (numR l a e).2.1 (numR l a e).2.2 := by
  obtain ⟨n, u, er, hh⟩ : ∃ n u er, hd (l.drop a) = (n, u, er) := ⟨_, _, _, rfl⟩
  by_cases he : e = 0
  · subst he
    have h1 := hd_inv (l.drop a)
    have h2 := hd_lt (l.drop a)
    rw [hh] at h1 h2
    by_cases h0 : er = 0
    · subst h0
      rw [numR_ok hh]
      refine ⟨fun _ => ⟨rfl, h2, drop_split (h1 rfl)⟩, fun _ v0 r hv hr => ?_⟩
      obtain ⟨e1, e2⟩ := numB_inj h2 hv ((drop_split (h1 rfl)).symm.trans hr)
      exact ⟨rfl, e1, e2⟩
    · rw [numR_bad hh h0]
      refine ⟨fun h => absurd h h0, fun _ v0 r hv hr => ?_⟩
      rw [hr, hd_numB hv] at hh
      injection hh with _ hh
      injection hh with _ hh
      exact absurd hh.symm h0
  · rw [numR_err he]
    exact ⟨fun h => absurd h he, fun h => absurd h he⟩
theorem whole_took {l : List UInt8} {a a' n : Nat} {e e' : Int} (h : Took U64 numB l a e n a' e') : Took I64 (fun z => numB (wz z)) l a e (IntKind.i64.wrap (n : Int)) a' e' := by
  refine h.iso (fun n => IntKind.i64.wrap (n : Int)) wz (fun z hz => wz_i hz.1 hz.2) (fun z _ => wz_64 z) (fun n hn => ?_) (fun _ _ => rfl) (fun n hn => ?_)
  · unfold I64; unfold U64 at hn; rw [IntKind.wrap_i64]; omega
  · congr 1
    unfold U64 at hn
    unfold wz
    rw [IntKind.wrap_i64]
    omega
/-- a text that can be -/
def T64 (t : List UInt8) : Prop := t.length < 18446744073709551616
theorem textR_took (l : List UInt8) (a : Nat) (e : Int) (hl : l.length < 18446744073709551616) (ha : a ≤ l.length) : Took T64 partB l a e (textR l a e).1 (textR l a e).2.1 (textR l a e).2.2 := by
  have hT := numR_took l a e
  obtain ⟨n, b, e2, hn⟩ : ∃ n b e2, numR l a e = (n, b, e2) := ⟨_, _, _, rfl⟩
  rw [hn] at hT
  simp only at hT
  have hne := numR_ne l a e
  rw [hn] at hne
  by_cases h0 : e2 = 0
  · subst h0
    obtain ⟨he, hu, hd⟩ := hT.ok rfl
    subst he
    have hlen : (l.drop b).length = l.length - b := List.length_drop
    by_cases hx : l.length - b < n
    · rw [textR_end hn hx]
      refine ⟨fun h => absurd h (show ¬ (5 : Int) = 0 by decide), fun _ v0 r hv hr => ?_⟩
      obtain ⟨h1, h2, h3⟩ := hT.det rfl v0.length (v0 ++ r) hv (by rw [hr, partB, List.append_assoc])
      subst h2
      have h4 := congrArg List.length h3
      rw [List.length_append] at h4
      omega
    · rw [textR_ok hn hx]
      have hlt : ((l.drop b).take n).length = n := by rw [List.length_take]; omega
      refine ⟨fun _ => ⟨rfl, (show ((l.drop b).take n).length < 18446744073709551616 by omega), ?_⟩, fun _ v0 r hv hr => ?_⟩
      · rw [partB, hlt, hd, List.append_assoc, ← List.drop_drop, List.take_append_drop]
      · obtain ⟨h1, h2, h3⟩ := hT.det rfl v0.length (v0 ++ r) hv (by rw [hr, partB, List.append_assoc])
        subst h2
        refine ⟨rfl, ?_, ?_⟩
        · show (l.drop b).take v0.length = v0
          rw [h3, List.take_left]
        · show l.drop (b + v0.length) = r
          rw [← List.drop_drop, h3, List.drop_left]
  · have hn0 : n = 0 := hne h0
    subst hn0
    rw [textR_bad hn h0]
    refine ⟨fun h => absurd h h0, fun he v0 r hv hr => ?_⟩
    obtain ⟨h1, _⟩ := hT.det he v0.length (v0 ++ r) hv (by rw [hr, partB, List.append_assoc])
    exact absurd h1 h0
def flagB1 (f : Bool) : UInt8 := if f then 1 else 0
theorem flagR_took (l : List UInt8) (a : Nat) (e : Int) : Took (fun _ => True) flagB l a e (flagR l a e).1 (flagR l a e).2.1 (flagR l a e).2.2 := by
  unfold flagR
  by_cases he : e = 0
  · subst he
    rw [if_neg (by simp)]
    obtain ⟨d, hd⟩ : ∃ d, d = l.drop a := ⟨_, rfl⟩
    rw [← hd]
    match d, hd with
    | [], hd => exact ⟨fun h => absurd h (show ¬ (5 : Int) = 0 by decide), fun _ v0 r _ hr => by rw [← hd] at hr; cases hr⟩
    | b :: rest, hd =>
      have hrest : l.drop (a + 1) = rest := by rw [← List.drop_drop, ← hd]; rfl
      by_cases h1 : 1 < b.toNat
      · simp only [if_pos h1]
        refine ⟨fun h => absurd h (show ¬ (3 : Int) = 0 by decide), fun _ v0 r _ hr => ?_⟩
        rw [← hd] at hr
        cases v0 <;> (simp [flagB] at hr; rw [hr.1] at h1; exact absurd h1 (by decide))
      · simp only [if_neg h1]
        have hb : b = flagB1 (b == 1) := by
          have : b.toNat = 0 ∨ b.toNat = 1 := by omega
          rcases this with h | h
          · have : b = 0 := UInt8.toNat_inj.1 h
            subst this; rfl
          · have : b = 1 := UInt8.toNat_inj.1 h
            subst this; rfl
        refine ⟨fun _ => ⟨rfl, trivial, ?_⟩, fun _ v0 r _ hr => ?_⟩
        · rw [← hd, hrest]
          show b :: rest = flagB1 (b == 1) :: rest
          rw [← hb]
        · rw [← hd] at hr
          cases v0 <;> (simp [flagB] at hr; obtain ⟨rfl, rfl⟩ := hr; exact ⟨rfl, rfl, hrest⟩)
  · rw [if_pos he]
    exact ⟨fun h => absurd h he, fun h => absurd h he⟩
end Go.Proofs.Ytncchbcoldgpbaa
