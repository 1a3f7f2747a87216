/- Leaves as pages of bytes. Plain theorems. -/
import Derived.Test.YtliimeoblffigaaGreatPlAG
import Derived.Test.YtliimeoblffigaaGreatPackAG
set_option linter.unusedVariables false
set_option linter.unusedSimpArgs false
set_option maxRecDepth 100000
namespace Go.Proofs.YtliimeoblffigaaGreat
set_option linter.unusedVariables false

/-- a key and its value -/
abbrev KV := List UInt8 × List UInt8
def ksL (l : List KV) : List (List UInt8) := l.map (·.1)
def vsL (l : List KV) : List (List UInt8) := l.map (·.2)
def hi8 (n : Nat) : UInt8 := UInt8.ofNat (n / 256)
def lo8 (n : Nat) : UInt8 := UInt8.ofNat n
def encP (p : KV) : List UInt8 := UInt8.ofNat p.1.length :: (p.1 ++ (hi8 p.2.length :: lo8 p.2.length :: p.2))
def encKV (l : List KV) : List UInt8 := 1 :: hi8 l.length :: lo8 l.length :: l.flatMap encP
def sizeP (p : KV) : Nat := 3 + p.1.length + p.2.length
def sizeKV (l : List KV) : Nat := 3 + (l.map sizeP).sum
theorem encP_length (p : KV) : (encP p).length = sizeP p := by
 simp only [encP, sizeP, List.length_cons, List.length_append]; omega
theorem flat_length (l : List KV) : (l.flatMap encP).length = (l.map sizeP).sum := by
 induction l with
 | nil => rfl
 | cons p l ih => rw [List.flatMap_cons, List.length_append, ih, encP_length, List.map_cons, List.sum_cons]
theorem encKV_length (l : List KV) : (encKV l).length = sizeKV l := by
 simp only [encKV, sizeKV, List.length_cons, flat_length]; omega
/-- a leaf's page -/
def pageKV (l : List KV) : List UInt8 := encKV l ++ List.replicate (512 - sizeKV l) 0
theorem pageKV_length {l : List KV} (h : sizeKV l ≤ 512) : (pageKV l).length = 512 := by
 rw [pageKV, List.length_append, encKV_length, repl_length]; omega
/-- keys rise, nothing is too long -/
structure GoodKV (l : List KV) : Prop where
 len : ∀ p ∈ l, p.1.length ≤ 64 ∧ p.2.length ≤ 128
 up : ∀ (i : Nat) (p q : KV), l[i]? = some p → l[i + 1]? = some q → cmpB p.1 q.1 < 0
theorem GoodKV.nil_ : GoodKV [] := ⟨fun p h => by simp at h, fun i p q h => by simp at h⟩
theorem GoodKV.take {l : List KV} (h : GoodKV l) (k : Nat) : GoodKV (l.take k) :=
 ⟨fun p hp => h.len p (List.mem_of_mem_take hp), fun i p q hp hq => by
  rw [List.getElem?_take] at hp hq
  split at hp
  ·split at hq
   ·exact h.up i p q hp hq
   ·cases hq
  ·cases hp⟩
theorem GoodKV.drop {l : List KV} (h : GoodKV l) (k : Nat) : GoodKV (l.drop k) :=
 ⟨fun p hp => h.len p (List.mem_of_mem_drop hp), fun i p q hp hq => by
  rw [List.getElem?_drop] at hp hq
  exact h.up (k + i) p q hp (by rw [← hq]; rfl)⟩
theorem ksL_length (l : List KV) : (ksL l).length = l.length := List.length_map ..
theorem vsL_length (l : List KV) : (vsL l).length = l.length := List.length_map ..
theorem ksL_take (l : List KV) (k : Nat) : ksL (l.take k) = (ksL l).take k := List.map_take ..
theorem vsL_take (l : List KV) (k : Nat) : vsL (l.take k) = (vsL l).take k := List.map_take ..
theorem ksL_drop (l : List KV) (k : Nat) : ksL (l.drop k) = (ksL l).drop k := List.map_drop ..
theorem vsL_drop (l : List KV) (k : Nat) : vsL (l.drop k) = (vsL l).drop k := List.map_drop ..
theorem ksL_app (l m : List KV) : ksL (l ++ m) = ksL l ++ ksL m := List.map_append ..
theorem vsL_app (l m : List KV) : vsL (l ++ m) = vsL l ++ vsL m := List.map_append ..
/-- a leaf that does not fit has three keys at the least -/
theorem big_three {l : List KV} (h : GoodKV l) (hs : 512 < sizeKV l) : 3 ≤ l.length := by
 match l, h, hs with
 | [], _, hs => simp [sizeKV] at hs
 | [p], h, hs =>
  have h1 := h.len p (by simp)
  simp only [sizeKV, sizeP, List.map_cons, List.map_nil, List.sum_cons, List.sum_nil] at hs
  omega
 | [p, q], h, hs =>
  have h1 := h.len p (by simp)
  have h2 := h.len q (by simp)
  simp only [sizeKV, sizeP, List.map_cons, List.map_nil, List.sum_cons, List.sum_nil] at hs
  omega
 | _ :: _ :: _ :: _, _, _ => simp
theorem hilo (n : Nat) (h : n < 65536) : (hi8 n).toNat * 256 + (lo8 n).toNat = n := by
 simp only [hi8, lo8, UInt8.toNat_ofNat']
 omega
theorem toNat8 {n : Nat} (h : n < 256) : (UInt8.ofNat n).toNat = n := by
 rw [UInt8.toNat_ofNat']
 omega
end Go.Proofs.YtliimeoblffigaaGreat

set_option maxRecDepth 100000
namespace Go.Proofs.YtliimeoblffigaaGreat
set_option linter.unusedVariables false

theorem cmpB_nil1 (a : UInt8) (s : List UInt8) : cmpB (a :: s) [] = 1 := rfl
theorem cmpB_nil2 (a : UInt8) (s : List UInt8) : cmpB [] (a :: s) = -1 := rfl
theorem cmpB_trans : ∀ {s t u : List UInt8}, cmpB s t < 0 → cmpB t u < 0 → cmpB s u < 0
 | [], [], _, h, _ => by rw [cmpB_refl] at h; omega
 | [], b :: t, [], _, h => by rw [cmpB_nil1] at h; omega
 | [], _ :: _, c :: u, _, _ => by rw [cmpB_nil2]; omega
 | a :: s, [], _, h, _ => by rw [cmpB_nil1] at h; omega
 | _ :: _, b :: t, [], _, h => by rw [cmpB_nil1] at h; omega
 | a :: s, b :: t, c :: u, h1, h2 => by
  rw [cmpB_cons] at h1 h2 ⊢
  have ha : ∀ x y : UInt8, x < y ↔ x.toNat < y.toNat := fun x y => UInt8.lt_iff_toNat_lt
  simp only [ha] at h1 h2 ⊢
  by_cases x1 : a.toNat < b.toNat
  ·by_cases x2 : b.toNat < c.toNat
   ·rw [if_pos (by omega)]; omega
   ·rw [if_neg x2] at h2
    by_cases x3 : c.toNat < b.toNat
    ·rw [if_pos x3] at h2; omega
    ·rw [if_pos (by omega)]; omega
  ·rw [if_neg x1] at h1
   by_cases x4 : b.toNat < a.toNat
   ·rw [if_pos x4] at h1; omega
   ·rw [if_neg x4] at h1
    by_cases x2 : b.toNat < c.toNat
    ·rw [if_pos (by omega)]; omega
    ·rw [if_neg x2] at h2
     by_cases x3 : c.toNat < b.toNat
     ·rw [if_pos x3] at h2; omega
     ·rw [if_neg x3] at h2
      rw [if_neg (by omega), if_neg (by omega)]
      exact cmpB_trans h1 h2
/-- keys rise -/
def UpL (l : List KV) : Prop := l.Pairwise fun p q => cmpB p.1 q.1 < 0
/-- a key gets a value -/
def kvPut (k v : List UInt8) : List KV → List KV
 | [] => [(k, v)]
 | p :: l => if cmpB p.1 k < 0 then p :: kvPut k v l else if cmpB p.1 k = 0 then (k, v) :: l else (k, v) :: p :: l
/-- a key is gone -/
def kvDel (k : List UInt8) (l : List KV) : List KV := l.filter fun p => decide (cmpB p.1 k ≠ 0)
theorem kvPut_mem {k v : List UInt8} {p : KV} : ∀ {l : List KV}, p ∈ kvPut k v l → p = (k, v) ∨ p ∈ l
 | [], h => by simp [kvPut] at h; exact .inl h
 | q :: l, h => by
  unfold kvPut at h
  split at h
  ·rcases List.mem_cons.1 h with rfl | h
   ·exact .inr (by simp)
   ·rcases kvPut_mem h with h | h
    ·exact .inl h
    ·exact .inr (by simp [h])
  ·split at h
   ·rcases List.mem_cons.1 h with rfl | h
    ·exact .inl rfl
    ·exact .inr (by simp [h])
   ·rcases List.mem_cons.1 h with rfl | h
    ·exact .inl rfl
    ·exact .inr h
theorem UpL.put {k v : List UInt8} : ∀ {l : List KV}, UpL l → UpL (kvPut k v l)
 | [], _ => List.pairwise_singleton _ _
 | p :: l, h => by
  obtain ⟨h1, h2⟩ := List.pairwise_cons.1 h
  unfold kvPut
  split
  ·rename_i hp
   refine List.pairwise_cons.2 ⟨fun q hq => ?_, UpL.put h2⟩
   rcases kvPut_mem hq with rfl | hq
   ·exact hp
   ·exact h1 q hq
  ·rename_i hp
   split
   ·rename_i hz
    have e := (cmpB_eq_zero _ _).1 hz
    exact List.pairwise_cons.2 ⟨fun q hq => by rw [← e]; exact h1 q hq, h2⟩
   ·rename_i hz
    have hk : cmpB k p.1 < 0 := by
     have := cmpB_neg p.1 k
     omega
    refine List.pairwise_cons.2 ⟨fun q hq => ?_, h⟩
    rcases List.mem_cons.1 hq with rfl | hq
    ·exact hk
    ·exact cmpB_trans hk (h1 q hq)
theorem UpL.del {l : List KV} (h : UpL l) (k : List UInt8) : UpL (kvDel k l) := List.Pairwise.filter _ h
theorem kvPut_left {k v : List UInt8} : ∀ {l m : List KV}, (∀ p ∈ m, cmpB k p.1 < 0) → kvPut k v (l ++ m) = kvPut k v l ++ m
 | [], [], _ => rfl
 | [], q :: m, h => by
  have h1 := h q (by simp)
  have h2 := cmpB_neg k q.1
  show kvPut k v (q :: m) = (k, v) :: q :: m
  unfold kvPut
  rw [if_neg (by omega), if_neg (by omega)]
 | p :: l, m, h => by
  show kvPut k v (p :: (l ++ m)) = kvPut k v (p :: l) ++ m
  unfold kvPut
  rw [kvPut_left h]
  split
  ·rfl
  ·split <;> rfl
theorem kvPut_right {k v : List UInt8} : ∀ {l m : List KV}, (∀ p ∈ l, cmpB p.1 k < 0) → kvPut k v (l ++ m) = l ++ kvPut k v m
 | [], _, _ => rfl
 | p :: l, m, h => by
  show kvPut k v (p :: (l ++ m)) = p :: (l ++ kvPut k v m)
  rw [kvPut, if_pos (h p (by simp)), kvPut_right fun q hq => h q (by simp [hq])]
theorem kvDel_none {k : List UInt8} {l : List KV} (h : ∀ p ∈ l, cmpB p.1 k ≠ 0) : kvDel k l = l := List.filter_eq_self.2 fun p hp => by simpa using h p hp
theorem kvDel_app (k : List UInt8) (l m : List KV) : kvDel k (l ++ m) = kvDel k l ++ kvDel k m := List.filter_append ..
theorem UpL.app {l m : List KV} (h1 : UpL l) (h2 : UpL m) (h : ∀ p ∈ l, ∀ q ∈ m, cmpB p.1 q.1 < 0) : UpL (l ++ m) := List.pairwise_append.2 ⟨h1, h2, h⟩
theorem UpL.parts {l m : List KV} (h : UpL (l ++ m)) : UpL l ∧ UpL m ∧ ∀ p ∈ l, ∀ q ∈ m, cmpB p.1 q.1 < 0 := List.pairwise_append.1 h
theorem GoodKV.upL {l : List KV} (h : GoodKV l) : UpL l := by
 have key : ∀ (m : List KV), (∀ (i : Nat) (p q : KV), m[i]? = some p → m[i + 1]? = some q → cmpB p.1 q.1 < 0) → UpL m := by
  intro m
  induction m with
  | nil => intro _; exact List.Pairwise.nil
  | cons p m ih =>
   intro hm
   have h2 := ih fun i a b ha hb => hm (i + 1) a b (by simpa using ha) (by simpa using hb)
   refine List.pairwise_cons.2 ⟨fun q hq => ?_, h2⟩
   cases m with
   | nil => simp at hq
   | cons r m =>
    have h0 := hm 0 p r rfl rfl
    rcases List.mem_cons.1 hq with rfl | hq
    ·exact h0
    ·exact cmpB_trans h0 ((List.pairwise_cons.1 h2).1 q hq)
 exact key l h.up
theorem UpL.good {l : List KV} (h : UpL l) (hl : ∀ p ∈ l, p.1.length ≤ 64 ∧ p.2.length ≤ 128) : GoodKV l :=
 ⟨hl, fun i p q hp hq => by
  obtain ⟨h1, rfl⟩ := List.getElem?_eq_some_iff.1 hp
  obtain ⟨h2, rfl⟩ := List.getElem?_eq_some_iff.1 hq
  exact List.pairwise_iff_getElem.1 h i (i + 1) h1 h2 (by omega)⟩
/-- an inner node's page: keys, and the kids' pages -/
def encE (p : List UInt8 × Nat) : List UInt8 := UInt8.ofNat p.1.length :: (p.1 ++ [hi8 p.2, lo8 p.2])
def encIn (ks : List (List UInt8)) (kd : List Nat) : List UInt8 := 2 :: hi8 ks.length :: lo8 ks.length :: hi8 (kd.headD 0) :: lo8 (kd.headD 0) :: (ks.zip kd.tail).flatMap encE
def sizeIn (ks : List (List UInt8)) (n : Nat) : Nat := 3 + (ks.map fun k => 1 + k.length).sum + 2 * n
theorem encE_length : ∀ (ks : List (List UInt8)) (kids : List Nat), kids.length = ks.length → ((ks.zip kids).flatMap encE).length = (ks.map fun k => 1 + k.length).sum + 2 * kids.length
 | [], [], _ => rfl
 | [], _ :: _, h => by simp at h
 | _ :: _, [], h => by simp at h
 | k :: ks, a :: b, h => by
  have := encE_length ks b (by simpa using h)
  simp only [List.zip_cons_cons, List.flatMap_cons, List.length_append, this, encE, List.length_cons, List.length_nil, List.map_cons, List.sum_cons]
  omega
theorem encIn_length {ks : List (List UInt8)} {kd : List Nat} (h : kd.length = ks.length + 1) : (encIn ks kd).length = sizeIn ks kd.length := by
 simp only [encIn, List.length_cons, encE_length ks kd.tail (by rw [List.length_tail]; omega), List.length_tail, sizeIn]
 omega
def pageIn (ks : List (List UInt8)) (kd : List Nat) : List UInt8 := encIn ks kd ++ List.replicate (512 - sizeIn ks kd.length) 0
theorem pageIn_length {ks : List (List UInt8)} {kd : List Nat} (h : kd.length = ks.length + 1) (hs : sizeIn ks kd.length ≤ 512) : (pageIn ks kd).length = 512 := by
 rw [pageIn, List.length_append, encIn_length h, repl_length]; omega
end Go.Proofs.YtliimeoblffigaaGreat

set_option maxRecDepth 100000
namespace Go.Proofs.YtliimeoblffigaaGreat
set_option linter.unusedVariables false

theorem cmpB_lt_le {a b c : List UInt8} (h1 : cmpB a b < 0) (h2 : cmpB b c ≤ 0) : cmpB a c < 0 := by
 rcases Int.lt_or_eq_of_le h2 with h | h
 ·exact cmpB_trans h1 h
 ·rw [← (cmpB_eq_zero _ _).1 h]; exact h1
theorem cmpB_le_lt {a b c : List UInt8} (h1 : cmpB a b ≤ 0) (h2 : cmpB b c < 0) : cmpB a c < 0 := by
 rcases Int.lt_or_eq_of_le h1 with h | h
 ·exact cmpB_trans h h2
 ·rw [(cmpB_eq_zero _ _).1 h]; exact h2
theorem cmpB_nil_le (a : List UInt8) : cmpB [] a ≤ 0 := by
 cases a with
 | nil => rw [cmpB_refl]; omega
 | cons x s => rw [cmpB_nil2]; omega
/-- a kid: its page, all pages below it, its pairs -/
structure Kid where
 id : Nat
 ps : List Nat
 l : List KV
/-- a kid behind its key (the first one's is empty) -/
abbrev Ent := List UInt8 × Kid
/-- the kids of an inner node -/
structure Brn (T : Nat → List Nat → List KV → Prop) (E : List Ent) : Prop where
 some_ : E ≠ []
 hd : ∀ e, E.head? = some e → e.1 = []
 klen : ∀ e ∈ E, e.1.length ≤ 64
 lo : ∀ e ∈ E, ∀ p ∈ e.2.l, cmpB e.1 p.1 ≤ 0
 pw : E.Pairwise fun a b => cmpB a.1 b.1 < 0 ∧ ∀ p ∈ a.2.l, cmpB p.1 b.1 < 0
 ne : ∀ e ∈ E, e.2.l ≠ []
 kid : ∀ e ∈ E, T e.2.id e.2.ps e.2.l
def keysE (E : List Ent) : List (List UInt8) := (E.map (·.1)).tail
def idsE (E : List Ent) : List Nat := E.map (·.2.id)
def psE (E : List Ent) : List Nat := E.flatMap (·.2.ps)
def lE (E : List Ent) : List KV := E.flatMap (·.2.l)
theorem keysE_len (E : List Ent) : (keysE E).length = E.length - 1 := by simp [keysE]
theorem idsE_len (E : List Ent) : (idsE E).length = E.length := by simp [idsE]
theorem psE_app (A B : List Ent) : psE (A ++ B) = psE A ++ psE B := List.flatMap_append ..
theorem psE_cons (e : Ent) (B : List Ent) : psE (e :: B) = e.2.ps ++ psE B := rfl
theorem lE_app (A B : List Ent) : lE (A ++ B) = lE A ++ lE B := List.flatMap_append ..
theorem lE_cons (e : Ent) (B : List Ent) : lE (e :: B) = e.2.l ++ lE B := rfl
theorem mem_lE {E : List Ent} {p : KV} : p ∈ lE E ↔ ∃ e ∈ E, p ∈ e.2.l := List.mem_flatMap
theorem mem_psE {E : List Ent} {j : Nat} : j ∈ psE E ↔ ∃ e ∈ E, j ∈ e.2.ps := List.mem_flatMap
theorem Brn.mono {T T' : Nat → List Nat → List KV → Prop} {E : List Ent} (h : Brn T E) (ht : ∀ e ∈ E, T e.2.id e.2.ps e.2.l → T' e.2.id e.2.ps e.2.l) : Brn T' E := ⟨h.some_, h.hd, h.klen, h.lo, h.pw, h.ne, fun e he => ht e he (h.kid e he)⟩
/-- below the page id, in contents ct, stands a tree of height h: its pages ps, its pairs l -/
def TR (ct : Nat → List UInt8) : Nat → Nat → List Nat → List KV → Prop
 | 0, id, ps, l => ps = [id] ∧ id ≤ 65535 ∧ ct id = pageKV l ∧ GoodKV l ∧ sizeKV l ≤ 512
 | h + 1, id, ps, l => ∃ E : List Ent, Brn (TR ct h) E ∧ id ≤ 65535 ∧ sizeIn (keysE E) E.length ≤ 512 ∧ ct id = pageIn (keysE E) (idsE E) ∧ ps = id :: psE E ∧ l = lE E
theorem TR.root {ct : Nat → List UInt8} : ∀ {h id : Nat} {ps : List Nat} {l : List KV}, TR ct h id ps l → id ∈ ps ∧ id ≤ 65535
 | 0, id, ps, l, ⟨e, h, _⟩ => by rw [e]; exact ⟨by simp, h⟩
 | h + 1, id, ps, l, ⟨_, _, hl, _, _, e, _⟩ => by rw [e]; exact ⟨by simp, hl⟩
/-- a tree is what its own pages say -/
theorem TR.congr {ct ct' : Nat → List UInt8} : ∀ {h id : Nat} {ps : List Nat} {l : List KV}, TR ct h id ps l → (∀ j ∈ ps, ct' j = ct j) → TR ct' h id ps l
 | 0, id, ps, l, ⟨e, hi, hc, hg, hs⟩, hj => ⟨e, hi, by rw [hj id (by rw [e]; simp), hc], hg, hs⟩
 | h + 1, id, ps, l, ⟨E, a, hi, hs, hc, e, el⟩, hj =>
  ⟨E, a.mono fun x hx hT => hT.congr fun j hjp => hj j (by
   rw [e]
   exact List.mem_cons_of_mem _ (mem_psE.2 ⟨x, hx, hjp⟩)), hi, hs, by rw [hj id (by rw [e]; simp), hc], e, el⟩
/-- its keys rise -/
theorem TR.upL {ct : Nat → List UInt8} : ∀ {h id : Nat} {ps : List Nat} {l : List KV}, TR ct h id ps l → UpL l
 | 0, id, ps, l, ⟨_, _, _, hg, _⟩ => hg.upL
 | h + 1, id, ps, l, ⟨E, a, _, _, _, e, el⟩ => by
  rw [el]
  have key : ∀ E : List Ent, (∀ e ∈ E, ∀ p ∈ e.2.l, cmpB e.1 p.1 ≤ 0) → E.Pairwise (fun a b => cmpB a.1 b.1 < 0 ∧ ∀ p ∈ a.2.l, cmpB p.1 b.1 < 0) → (∀ e ∈ E, UpL e.2.l) → UpL (lE E) := by
   intro E
   induction E with
   | nil => intro _ _ _; exact List.Pairwise.nil
   | cons x E ih =>
    intro hlo hpw hup
    obtain ⟨h1, h2⟩ := List.pairwise_cons.1 hpw
    rw [lE_cons]
    refine UpL.app (hup x (by simp)) (ih (fun e he => hlo e (by simp [he])) h2 fun e he => hup e (by simp [he])) fun p hp q hq => ?_
    obtain ⟨y, hy, hqy⟩ := mem_lE.1 hq
    exact cmpB_lt_le ((h1 y hy).2 p hp) (hlo y (by simp [hy]) q hqy)
  exact key E a.lo a.pw fun e he => (a.kid e he).upL
section
variable {T T' : Nat → List Nat → List KV → Prop} {EA EB : List Ent} {k0 k v : List UInt8} {x y z : Kid}
/-- the kid in which a key stands -/
structure Way (EA EB : List Ent) (k0 k : List UInt8) : Prop where
 lo : cmpB k0 k ≤ 0
 hi : ∀ e ∈ EB, cmpB k e.1 < 0
theorem Brn.left (h : Brn T (EA ++ (k0, x) :: EB)) (w : Way EA EB k0 k) : ∀ p ∈ lE EA, cmpB p.1 k < 0 := fun p hp => by
 obtain ⟨e, he, hpe⟩ := mem_lE.1 hp
 obtain ⟨_, _, h3⟩ := List.pairwise_append.1 h.pw
 exact cmpB_lt_le ((h3 e he (k0, x) (by simp)).2 p hpe) w.lo
theorem Brn.right (h : Brn T (EA ++ (k0, x) :: EB)) (w : Way EA EB k0 k) : ∀ p ∈ lE EB, cmpB k p.1 < 0 := fun p hp => by
 obtain ⟨e, he, hpe⟩ := mem_lE.1 hp
 exact cmpB_lt_le (w.hi e he) (h.lo e (by simp [he]) p hpe)
theorem Brn.put (h : Brn T (EA ++ (k0, x) :: EB)) (w : Way EA EB k0 k) : kvPut k v (lE (EA ++ (k0, x) :: EB)) = lE EA ++ (kvPut k v x.l ++ lE EB) := by
 rw [lE_app, lE_cons, kvPut_right (h.left w), kvPut_left (h.right w)]
theorem Brn.del_ (h : Brn T (EA ++ (k0, x) :: EB)) (w : Way EA EB k0 k) : kvDel k (lE (EA ++ (k0, x) :: EB)) = lE EA ++ (kvDel k x.l ++ lE EB) := by
 rw [lE_app, lE_cons, kvDel_app, kvDel_app, kvDel_none fun p hp => by have := h.left w p hp; omega, kvDel_none (l := lE EB) fun p hp => by
  have h1 := h.right w p hp
  have h2 := cmpB_neg k p.1
  omega]
/-- what stands in that kid stays within its bounds -/
theorem Brn.bnd (h : Brn T (EA ++ (k0, x) :: EB)) (w : Way EA EB k0 k) {p : KV} (hp : p.1 = k ∨ p ∈ x.l) : cmpB k0 p.1 ≤ 0 ∧ ∀ e ∈ EB, cmpB p.1 e.1 < 0 := by
 obtain ⟨_, h2, _⟩ := List.pairwise_append.1 h.pw
 rcases hp with e | hp
 ·rw [e]; exact ⟨w.lo, w.hi⟩
 ·exact ⟨h.lo (k0, x) (by simp) p hp, fun e he => ((List.pairwise_cons.1 h2).1 e he).2 p hp⟩
theorem head_app {α : Type} {A B C : List α} {a b : α} {P : α → Prop} (h : ∀ e, (A ++ a :: B).head? = some e → P e) (hab : P a → P b) : ∀ e, (A ++ b :: C).head? = some e → P e := fun e he => by
 cases A with
 | nil =>
  simp at he
  rw [← he]
  exact hab (h a (by simp))
 | cons c A =>
  simp at he
  rw [← he]
  exact h c (by simp)
/-- the kid turned -/
theorem Brn.set (h : Brn T (EA ++ (k0, x) :: EB)) (ho : ∀ e ∈ EA ++ EB, T e.2.id e.2.ps e.2.l → T' e.2.id e.2.ps e.2.l) (hy : T' y.id y.ps y.l) (hne : y.l ≠ []) (hb : ∀ p ∈ y.l, cmpB k0 p.1 ≤ 0 ∧ ∀ e ∈ EB, cmpB p.1 e.1 < 0) : Brn T' (EA ++ (k0, y) :: EB) := by
 obtain ⟨h1, h2, h3⟩ := List.pairwise_append.1 h.pw
 obtain ⟨h4, h5⟩ := List.pairwise_cons.1 h2
 have hm : ∀ {e : Ent}, e ∈ EA ++ (k0, y) :: EB → e = (k0, y) ∨ (e ∈ EA ++ EB ∧ e ∈ EA ++ (k0, x) :: EB) := fun {e} he => by
  simp only [List.mem_append, List.mem_cons] at he ⊢
  rcases he with he | he | he
  ·exact .inr ⟨.inl he, .inl he⟩
  ·exact .inl he
  ·exact .inr ⟨.inr he, .inr (.inr he)⟩
 refine ⟨by simp, head_app (P := fun e : Ent => e.1 = []) h.hd (fun e => e), fun e he => ?_, fun e he => ?_, List.pairwise_append.2 ⟨h1, List.pairwise_cons.2 ⟨fun b hb' => ⟨(h4 b hb').1, fun p hp => (hb p hp).2 b hb'⟩, h5⟩, fun a ha b hb' => ?_⟩, fun e he => ?_, fun e he => ?_⟩
 ·rcases hm he with rfl | ⟨_, he⟩
  ·exact h.klen (k0, x) (by simp)
  ·exact h.klen e he
 ·rcases hm he with rfl | ⟨_, he⟩
  ·exact fun p hp => (hb p hp).1
  ·exact h.lo e he
 ·rcases List.mem_cons.1 hb' with rfl | hb'
  ·exact h3 a ha (k0, x) (by simp)
  ·exact h3 a ha b (by simp [hb'])
 ·rcases hm he with rfl | ⟨_, he⟩
  ·exact hne
  ·exact h.ne e he
 ·rcases hm he with rfl | ⟨he1, he⟩
  ·exact hy
  ·exact ho e he1 (h.kid e he)
/-- the kid was parted -/
theorem Brn.part {key : List UInt8} (h : Brn T (EA ++ (k0, x) :: EB)) (ho : ∀ e ∈ EA ++ EB, T e.2.id e.2.ps e.2.l → T' e.2.id e.2.ps e.2.l) (hy : T' y.id y.ps y.l) (hz : T' z.id z.ps z.l) (hyn : y.l ≠ []) (hzn : z.l ≠ []) (hkl : key.length ≤ 64)
  (hb : ∀ p ∈ y.l ++ z.l, cmpB k0 p.1 ≤ 0 ∧ ∀ e ∈ EB, cmpB p.1 e.1 < 0) (hyk : ∀ p ∈ y.l, cmpB p.1 key < 0) (hzk : ∀ p ∈ z.l, cmpB key p.1 ≤ 0) : Brn T' (EA ++ (k0, y) :: (key, z) :: EB) := by
 have hs := h.set ho hy hyn fun p hp => hb p (List.mem_append_left _ hp)
 obtain ⟨h1, h2, h3⟩ := List.pairwise_append.1 hs.pw
 obtain ⟨h4, h5⟩ := List.pairwise_cons.1 h2
 obtain ⟨p0, hp0⟩ := List.exists_mem_of_ne_nil _ hyn
 obtain ⟨q0, hq0⟩ := List.exists_mem_of_ne_nil _ hzn
 have hk0 : cmpB k0 key < 0 := cmpB_le_lt (hb p0 (List.mem_append_left _ hp0)).1 (hyk p0 hp0)
 have hkB : ∀ e ∈ EB, cmpB key e.1 < 0 := fun e he => cmpB_le_lt (hzk q0 hq0) ((hb q0 (List.mem_append_right _ hq0)).2 e he)
 have hm : ∀ {e : Ent}, e ∈ EA ++ (k0, y) :: (key, z) :: EB → e = (key, z) ∨ e ∈ EA ++ (k0, y) :: EB := fun {e} he => by
  simp only [List.mem_append, List.mem_cons] at he ⊢
  rcases he with he | he | he | he
  ·exact .inr (.inl he)
  ·exact .inr (.inr (.inl he))
  ·exact .inl he
  ·exact .inr (.inr (.inr he))
 refine ⟨by simp, head_app (P := fun e : Ent => e.1 = []) hs.hd (fun e => e), fun e he => ?_, fun e he => ?_, List.pairwise_append.2 ⟨h1, List.pairwise_cons.2 ⟨fun b hb' => ?_, List.pairwise_cons.2 ⟨fun b hb' => ⟨hkB b hb', fun p hp => (hb p (List.mem_append_right _ hp)).2 b hb'⟩, h5⟩⟩, fun a ha b hb' => ?_⟩, fun e he => ?_, fun e he => ?_⟩
 ·rcases hm he with rfl | he
  ·exact hkl
  ·exact hs.klen e he
 ·rcases hm he with rfl | he
  ·exact hzk
  ·exact hs.lo e he
 ·rcases List.mem_cons.1 hb' with rfl | hb'
  ·exact ⟨hk0, hyk⟩
  ·exact h4 b hb'
 ·rcases List.mem_cons.1 hb' with rfl | hb'
  ·exact h3 a ha _ (by simp)
  ·rcases List.mem_cons.1 hb' with rfl | hb'
   ·have h6 := h3 a ha (k0, y) (by simp)
    exact ⟨cmpB_trans h6.1 hk0, fun p hp => cmpB_trans (h6.2 p hp) hk0⟩
   ·exact h3 a ha b (by simp [hb'])
 ·rcases hm he with rfl | he
  ·exact hzn
  ·exact hs.ne e he
 ·rcases hm he with rfl | he
  ·exact hz
  ·exact hs.kid e he
/-- a node's kids, parted -/
theorem Brn.cut (h : Brn T (EA ++ (k0, x) :: EB)) (hA : EA ≠ []) : Brn T EA ∧ Brn T (([], x) :: EB) ∧ (∀ p ∈ lE EA, cmpB p.1 k0 < 0) ∧ (∀ p ∈ lE (([], x) :: EB), cmpB k0 p.1 ≤ 0) ∧ k0.length ≤ 64 := by
 obtain ⟨h1, h2, h3⟩ := List.pairwise_append.1 h.pw
 obtain ⟨h4, h5⟩ := List.pairwise_cons.1 h2
 have hk0 : ∀ b ∈ EB, cmpB [] b.1 < 0 := fun b hb => cmpB_le_lt (cmpB_nil_le k0) (h4 b hb).1
 refine ⟨⟨hA, fun e he => h.hd e (by cases EA with | nil => exact absurd rfl hA | cons c A => simpa using he), fun e he => h.klen e (by simp [he]), fun e he => h.lo e (by simp [he]), h1, fun e he => h.ne e (by simp [he]), fun e he => h.kid e (by simp [he])⟩,
  ⟨by simp, fun e he => by simp at he; rw [← he], fun e he => ?_, fun e he => ?_, List.pairwise_cons.2 ⟨fun b hb => ⟨hk0 b hb, (h4 b hb).2⟩, h5⟩, fun e he => ?_, fun e he => ?_⟩, fun p hp => ?_, fun p hp => ?_, h.klen (k0, x) (by simp)⟩
 ·rcases List.mem_cons.1 he with rfl | he
  ·simp
  ·exact h.klen e (by simp [he])
 ·rcases List.mem_cons.1 he with rfl | he
  ·exact fun p _ => cmpB_nil_le _
  ·exact h.lo e (by simp [he])
 ·rcases List.mem_cons.1 he with rfl | he
  ·exact h.ne (k0, x) (by simp)
  ·exact h.ne e (by simp [he])
 ·rcases List.mem_cons.1 he with rfl | he
  ·exact h.kid (k0, x) (by simp)
  ·exact h.kid e (by simp [he])
 ·obtain ⟨e, he, hpe⟩ := mem_lE.1 hp
  exact (h3 e he (k0, x) (by simp)).2 p hpe
 ·obtain ⟨e, he, hpe⟩ := mem_lE.1 hp
  rcases List.mem_cons.1 he with rfl | he
  ·exact h.lo (k0, x) (by simp) p hpe
  ·exact Int.le_of_lt (cmpB_lt_le (h4 e he).1 (h.lo e (by simp [he]) p hpe))
/-- the kid is gone -/
theorem Brn.del (h : Brn T (EA ++ (k0, x) :: EB)) (hA : EA ≠ []) : Brn T (EA ++ EB) := by
 obtain ⟨h1, h2, h3⟩ := List.pairwise_append.1 h.pw
 have hm : ∀ {e : Ent}, e ∈ EA ++ EB → e ∈ EA ++ (k0, x) :: EB := fun {e} he => by
  simp only [List.mem_append, List.mem_cons] at he ⊢
  rcases he with he | he
  ·exact .inl he
  ·exact .inr (.inr he)
 exact ⟨by simp [hA], fun e he => h.hd e (by cases EA with | nil => exact absurd rfl hA | cons c A => simpa using he), fun e he => h.klen e (hm he), fun e he => h.lo e (hm he), List.pairwise_append.2 ⟨h1, (List.pairwise_cons.1 h2).2, fun a ha b hb => h3 a ha b (by simp [hb])⟩, fun e he => h.ne e (hm he), fun e he => h.kid e (hm he)⟩
theorem Brn.del0 {k1 : List UInt8} {x1 : Kid} (h : Brn T ((k0, x) :: (k1, x1) :: EB)) : Brn T (([], x1) :: EB) := by
 have h2 : Brn T ([(k0, x)] ++ (k1, x1) :: EB) := h
 exact (h2.cut (by simp)).2.1
end
/-- from one state of the pages to the next: what lay below the pages ps now lies below ps' -/
structure Upd (ids ids' : List Nat) (ct ct' : Nat → List UInt8) (ps ps' : List Nat) : Prop where
 keep : ∀ j ∈ ids, j ∉ ps → j ∈ ids' ∧ ct' j = ct j
 has : ∀ j ∈ ps', j ∈ ids'
 old : ∀ j ∈ ps', j ∈ ps ∨ j ∉ ids
 once : ps'.Nodup
section
variable {ids ids' ids'' A B P P' P'' : List Nat} {ct ct' ct'' : Nat → List UInt8}
theorem Upd.ctx (U : Upd ids ids' ct ct' P P') (hnd : (A ++ (P ++ B)).Nodup) (hin : ∀ j ∈ A ++ (P ++ B), j ∈ ids) : Upd ids ids' ct ct' (A ++ (P ++ B)) (A ++ (P' ++ B)) ∧ ∀ j ∈ A ++ B, ct' j = ct j := by
 obtain ⟨n1, n2, n3⟩ := List.nodup_append.1 hnd
 obtain ⟨n4, n5, n6⟩ := List.nodup_append.1 n2
 have hA : ∀ j ∈ A, j ∉ P := fun j hj hp => n3 j hj j (List.mem_append_left _ hp) rfl
 have hB : ∀ j ∈ B, j ∉ P := fun j hj hp => n6 j hp j hj rfl
 have kA : ∀ j ∈ A, j ∈ ids' ∧ ct' j = ct j := fun j hj => U.keep j (hin j (List.mem_append_left _ hj)) (hA j hj)
 have kB : ∀ j ∈ B, j ∈ ids' ∧ ct' j = ct j := fun j hj => U.keep j (hin j (List.mem_append_right _ (List.mem_append_right _ hj))) (hB j hj)
 have hne : ∀ j ∈ P', ∀ i ∈ A ++ B, j ≠ i := fun j hj i hi e => by
  subst e
  rcases U.old j hj with h | h
  ·rcases List.mem_append.1 hi with hi | hi
   ·exact hA j hi h
   ·exact hB j hi h
  ·rcases List.mem_append.1 hi with hi | hi
   ·exact h (hin j (List.mem_append_left _ hi))
   ·exact h (hin j (List.mem_append_right _ (List.mem_append_right _ hi)))
 refine ⟨⟨fun j hj hn => U.keep j hj fun hp => hn (List.mem_append_right _ (List.mem_append_left _ hp)), fun j hj => ?_, fun j hj => ?_, ?_⟩, fun j hj => ?_⟩
 ·rcases List.mem_append.1 hj with hj | hj
  ·exact (kA j hj).1
  ·rcases List.mem_append.1 hj with hj | hj
   ·exact U.has j hj
   ·exact (kB j hj).1
 ·rcases List.mem_append.1 hj with hj | hj
  ·exact .inl (List.mem_append_left _ hj)
  ·rcases List.mem_append.1 hj with hj | hj
   ·rcases U.old j hj with h | h
    ·exact .inl (List.mem_append_right _ (List.mem_append_left _ h))
    ·exact .inr h
   ·exact .inl (List.mem_append_right _ (List.mem_append_right _ hj))
 ·refine List.nodup_append.2 ⟨n1, List.nodup_append.2 ⟨U.once, n5, fun j hj i hi => hne j hj i (List.mem_append_right _ hi)⟩, fun i hi j hj e => ?_⟩
  rcases List.mem_append.1 hj with hj | hj
  ·exact hne j hj i (List.mem_append_left _ hi) e.symm
  ·exact n3 i hi j (List.mem_append_right _ hj) e
 ·rcases List.mem_append.1 hj with hj | hj
  ·exact (kA j hj).2
  ·exact (kB j hj).2
theorem Upd.refl (hnd : P.Nodup) (hin : ∀ j ∈ P, j ∈ ids) (hc : ∀ j ∈ ids, ct' j = ct j) : Upd ids ids ct ct' P P := ⟨fun j hj _ => ⟨hj, hc j hj⟩, hin, fun j hj => .inl hj, hnd⟩
end
end Go.Proofs.YtliimeoblffigaaGreat

set_option maxRecDepth 100000
namespace Go.Proofs.YtliimeoblffigaaGreat
set_option linter.unusedVariables false

/-- where a key stands among rising keys -/
structure Fnd (ks : List (List UInt8)) (k : List UInt8) (i : Nat) (ok : Bool) : Prop where
 le : i ≤ ks.length
 lo : ∀ (j : Nat) (x : List UInt8), j < i → ks[j]? = some x → cmpB x k < 0
 hi : ∀ (j : Nat) (x : List UInt8), i ≤ j → ks[j]? = some x → 0 ≤ cmpB x k
 ok : ok = true ↔ ∃ x, ks[i]? = some x ∧ cmpB x k = 0
/-- a leaf's pairs without the key that was found -/
def rmL (l : List KV) (i : Nat) (ok : Bool) : List KV := if ok then l.take i ++ l.drop (i + 1) else l
def insL (l : List KV) (i : Nat) (p : KV) : List KV := l.take i ++ p :: l.drop i
theorem kvPut_head {k v : List UInt8} : ∀ {l : List KV}, (∀ p ∈ l, cmpB k p.1 < 0) → kvPut k v l = (k, v) :: l
 | [], _ => rfl
 | p :: l, h => by
  have h1 := h p (by simp)
  have h2 := cmpB_neg k p.1
  unfold kvPut
  rw [if_neg (by omega), if_neg (by omega)]
theorem Fnd.parts {l : List KV} {k : List UInt8} {i : Nat} {ok : Bool} (f : Fnd (ksL l) k i ok) (hu : UpL l) :
  (∀ p ∈ l.take i, cmpB p.1 k < 0) ∧ (ok = false → ∀ p ∈ l.drop i, cmpB k p.1 < 0) ∧ (ok = true → ∃ v0, l.drop i = (k, v0) :: l.drop (i + 1) ∧ ∀ p ∈ l.drop (i + 1), cmpB k p.1 < 0) := by
 have hk : ∀ (j : Nat) (p : KV), l[j]? = some p → (ksL l)[j]? = some p.1 := fun j p h => by unfold ksL; rw [List.getElem?_map, h]; rfl
 refine ⟨fun p hp => ?_, fun ho p hp => ?_, fun ho => ?_⟩
 ·obtain ⟨j, hj, rfl⟩ := List.mem_take_iff_getElem.1 hp
  exact f.lo j _ (by omega) (hk j _ (List.getElem?_eq_getElem (by omega)))
 ·obtain ⟨j, hj, rfl⟩ := List.mem_iff_getElem.1 hp
  rw [List.length_drop] at hj
  rw [List.getElem_drop]
  have h0 := f.hi i _ (Nat.le_refl _) (hk i _ (List.getElem?_eq_getElem (by omega)))
  have hne : cmpB (l[i]'(by omega)).1 k ≠ 0 := fun e => by
   have := f.ok.2 ⟨_, hk i _ (List.getElem?_eq_getElem (by omega)), e⟩
   rw [ho] at this; cases this
  have h1 : cmpB k (l[i]'(by omega)).1 < 0 := by
   have := cmpB_neg (l[i]'(by omega)).1 k
   omega
  by_cases e : j = 0
  ·subst e; exact h1
  ·exact cmpB_trans h1 (List.pairwise_iff_getElem.1 hu i (i + j) (by omega) (by omega) (by omega))
 ·obtain ⟨x, hx, he⟩ := f.ok.1 ho
  have hil := (List.getElem?_eq_some_iff.1 hx).1
  rw [ksL_length] at hil
  have e : x = (l[i]).1 := by
   have := hk i _ (List.getElem?_eq_getElem hil)
   rw [hx] at this
   exact Option.some.inj this
  have ek : (l[i]).1 = k := by rw [← e]; exact (cmpB_eq_zero _ _).1 he
  refine ⟨(l[i]).2, ?_, fun p hp => ?_⟩
  ·rw [List.drop_eq_getElem_cons hil, ← ek]
  ·obtain ⟨j, hj, rfl⟩ := List.mem_iff_getElem.1 hp
   rw [List.length_drop] at hj
   rw [List.getElem_drop, ← ek]
   exact List.pairwise_iff_getElem.1 hu i (i + 1 + j) hil (by omega) (by omega)
theorem Fnd.del {l : List KV} {k : List UInt8} {i : Nat} {ok : Bool} (f : Fnd (ksL l) k i ok) (hu : UpL l) : kvDel k l = rmL l i ok := by
 obtain ⟨h1, h2, h3⟩ := f.parts hu
 have hA : kvDel k (l.take i) = l.take i := kvDel_none fun p hp => by have := h1 p hp; omega
 have e : l = l.take i ++ l.drop i := (List.take_append_drop i l).symm
 unfold rmL
 cases ok with
 | false =>
  conv => lhs; rw [e]
  rw [kvDel_app, hA, kvDel_none fun p hp => by have := h2 rfl p hp; have := cmpB_neg k p.1; omega, ← e]
  rfl
 | true =>
  obtain ⟨v0, hd, h4⟩ := h3 rfl
  conv => lhs; rw [e, hd]
  rw [kvDel_app, hA]
  have h5 : kvDel k ((k, v0) :: l.drop (i + 1)) = kvDel k (l.drop (i + 1)) := by
   unfold kvDel
   rw [List.filter_cons, if_neg (by simp [cmpB_refl])]
  rw [h5, kvDel_none fun p hp => by have := h4 p hp; have := cmpB_neg k p.1; omega]
  rfl
theorem Fnd.put {l : List KV} {k v : List UInt8} {i : Nat} {ok : Bool} (f : Fnd (ksL l) k i ok) (hu : UpL l) : insL (rmL l i ok) i (k, v) = kvPut k v l := by
 obtain ⟨h1, h2, h3⟩ := f.parts hu
 have hil := f.le
 rw [ksL_length] at hil
 have ht : (l.take i).length = i := by rw [List.length_take]; omega
 have e : l = l.take i ++ l.drop i := (List.take_append_drop i l).symm
 unfold rmL insL
 cases ok with
 | false =>
  conv => rhs; rw [e]
  rw [kvPut_right h1, kvPut_head (h2 rfl)]
  rfl
 | true =>
  obtain ⟨v0, hd, h4⟩ := h3 rfl
  conv => rhs; rw [e, hd]
  rw [kvPut_right h1]
  simp only [if_true]
  rw [List.take_left' ht, List.drop_left' ht]
  unfold kvPut
  simp only [cmpB_refl]
  rfl
theorem kvPut_good {l : List KV} {k v : List UInt8} (h : GoodKV l) (hk : k.length ≤ 64) (hv : v.length ≤ 128) : GoodKV (kvPut k v l) :=
 (h.upL.put).good fun p hp => by
  rcases kvPut_mem hp with rfl | hp
  ·exact ⟨hk, hv⟩
  ·exact h.len p hp
theorem kvDel_good {l : List KV} {k : List UInt8} (h : GoodKV l) : GoodKV (kvDel k l) := (h.upL.del k).good fun p hp => h.len p (List.mem_filter.1 hp).1
theorem kvPut_ne (k v : List UInt8) (l : List KV) : kvPut k v l ≠ [] := by
 cases l with
 | nil => simp [kvPut]
 | cons p l => unfold kvPut; split <;> (try split) <;> simp
theorem sizeKV_cons (p : KV) (l : List KV) : sizeKV (p :: l) = sizeP p + sizeKV l := by
 unfold sizeKV; rw [List.map_cons, List.sum_cons]; omega
theorem kvDel_size (k : List UInt8) (l : List KV) : sizeKV (kvDel k l) ≤ sizeKV l := by
 induction l with
 | nil => exact Nat.le_refl _
 | cons p l ih =>
  unfold kvDel at ih ⊢
  rw [List.filter_cons]
  split
  ·rw [sizeKV_cons, sizeKV_cons]; omega
  ·rw [sizeKV_cons]; omega
theorem kvPut_size {k v : List UInt8} (hk : k.length ≤ 64) (hv : v.length ≤ 128) (l : List KV) : sizeKV (kvPut k v l) ≤ sizeKV l + 195 := by
 have hp : sizeP (k, v) ≤ 195 := by simp only [sizeP]; omega
 induction l with
 | nil => simp only [kvPut, sizeKV_cons]; omega
 | cons p l ih =>
  unfold kvPut
  split
  ·rw [sizeKV_cons, sizeKV_cons]; omega
  ·split
   ·rw [sizeKV_cons, sizeKV_cons]; omega
   ·rw [sizeKV_cons]; omega
/-- where to part a list of sizes: some cut leaves little on both sides -/
theorem cut_sum : ∀ (m : Nat) (s : List Nat) (c : Nat), (∀ x ∈ s, x ≤ m) → c < s.sum → ∃ j, j < s.length ∧ (s.take j).sum ≤ c ∧ c < (s.take (j + 1)).sum
 | m, [], c, _, h => by simp at h
 | m, x :: s, c, hm, h => by
  by_cases hx : c < x
  ·exact ⟨0, by simp, by simp, by simpa using hx⟩
  ·rw [List.sum_cons] at h
   obtain ⟨j, h1, h2, h3⟩ := cut_sum m s (c - x) (fun y hy => hm y (by simp [hy])) (by omega)
   exact ⟨j + 1, by simpa using h1, by rw [List.take_succ_cons, List.sum_cons]; omega, by rw [List.take_succ_cons, List.sum_cons]; omega⟩
theorem sum_le {m : Nat} : ∀ {s : List Nat}, (∀ x ∈ s, x ≤ m) → s.sum ≤ m * s.length
 | [], _ => by simp
 | x :: s, h => by
  have h1 := h x (by simp)
  have h2 := sum_le (m := m) (s := s) fun y hy => h y (by simp [hy])
  rw [List.sum_cons, List.length_cons, Nat.mul_succ]; omega
theorem sum_take_succ {s : List Nat} {j : Nat} (h : j < s.length) : (s.take (j + 1)).sum = (s.take j).sum + s[j] := by
 rw [List.take_succ_eq_append_getElem h, List.sum_append]; simp
/-- a leaf that does not fit can be parted so that both parts fit -/
theorem leaf_cut {l : List KV} (h : GoodKV l) (hb : 512 < sizeKV l) (hs : sizeKV l ≤ 707) : ∃ j, 1 ≤ j ∧ j ≤ l.length - 1 ∧ sizeKV (l.take j) ≤ 512 ∧ sizeKV (l.drop j) ≤ 512 := by
 have hm : ∀ x ∈ l.map sizeP, x ≤ 195 := fun x hx => by
  obtain ⟨p, hp, rfl⟩ := List.mem_map.1 hx
  have := h.len p hp
  simp only [sizeP]; omega
 unfold sizeKV at hb hs
 obtain ⟨j, h1, h2, h3⟩ := cut_sum 195 (l.map sizeP) 250 hm (by omega)
 rw [List.length_map] at h1
 have h4 := sum_take_succ (s := l.map sizeP) (j := j) (by rw [List.length_map]; exact h1)
 have h5 := hm _ (List.getElem_mem (l := l.map sizeP) (n := j) (by rw [List.length_map]; exact h1))
 have h6 : (l.map sizeP).sum = ((l.map sizeP).take (j + 1)).sum + ((l.map sizeP).drop (j + 1)).sum := by rw [← List.sum_append, List.take_append_drop]
 refine ⟨j + 1, by omega, ?_, ?_, ?_⟩
 ·by_cases e : j + 1 = l.length
  ·exfalso
   have h7 : (l.map sizeP).take (j + 1) = l.map sizeP := List.take_of_length_le (by rw [List.length_map]; omega)
   rw [h7] at h4
   omega
  ·omega
 ·unfold sizeKV; rw [List.map_take]; omega
 ·unfold sizeKV; rw [List.map_drop]; omega
theorem sizeIn_eq (ks : List (List UInt8)) (n : Nat) : sizeIn ks n = 3 + (ks.map fun k => 1 + k.length).sum + 2 * n := rfl
/-- an inner node that does not fit can be parted so that both parts fit -/
theorem inner_cut {ks : List (List UInt8)} (h : ∀ k ∈ ks, k.length ≤ 64) (hb : 512 < sizeIn ks (ks.length + 1)) (hs : sizeIn ks (ks.length + 1) ≤ 579) :
  3 ≤ ks.length ∧ ∃ j, 1 ≤ j ∧ j ≤ ks.length - 2 ∧ sizeIn (ks.take j) (j + 1) ≤ 512 ∧ sizeIn (ks.drop (j + 1)) (ks.length - j) ≤ 512 := by
 have hm : ∀ x ∈ ks.map (fun k => 3 + k.length), x ≤ 67 := fun x hx => by
  obtain ⟨p, hp, rfl⟩ := List.mem_map.1 hx
  have := h p hp
  omega
 have hsum : ∀ l : List (List UInt8), (l.map fun k => 3 + k.length).sum = (l.map fun k => 1 + k.length).sum + 2 * l.length := fun l => by
  induction l with
  | nil => rfl
  | cons a l ih => simp only [List.map_cons, List.sum_cons, List.length_cons, ih]; omega
 rw [sizeIn_eq] at hb hs
 have hT := hsum ks
 have hle := sum_le hm
 rw [List.length_map] at hle
 have h3l : 3 ≤ ks.length := by omega
 obtain ⟨j, h1, h2, h3⟩ := cut_sum 67 (ks.map fun k => 3 + k.length) 200 hm (by omega)
 rw [List.length_map] at h1
 have h4 := sum_take_succ (s := ks.map fun k => 3 + k.length) (j := j) (by rw [List.length_map]; exact h1)
 have h5 := hm _ (List.getElem_mem (l := ks.map fun k => 3 + k.length) (n := j) (by rw [List.length_map]; exact h1))
 have h6 : (ks.map fun k => 3 + k.length).sum = ((ks.map fun k => 3 + k.length).take (j + 1)).sum + ((ks.map fun k => 3 + k.length).drop (j + 1)).sum := by rw [← List.sum_append, List.take_append_drop]
 have h8 := hsum (ks.take j)
 have h9 := hsum (ks.drop (j + 1))
 rw [List.map_take] at h8
 rw [List.map_drop] at h9
 rw [List.length_take] at h8
 rw [List.length_drop] at h9
 rw [List.map_take] at h8
 rw [List.map_drop] at h9
 refine ⟨h3l, j, ?_, ?_, ?_, ?_⟩
 ·by_cases e : j = 0
  ·exfalso; subst e
   simp only [List.take_zero, List.sum_nil] at h4
   omega
  ·omega
 ·by_cases e : ks.length ≤ j + 1
  ·exfalso
   have h10 : (ks.map fun k => 3 + k.length).drop (j + 1) = [] := List.drop_eq_nil_of_le (by rw [List.length_map]; exact e)
   rw [h10, List.sum_nil] at h6
   omega
  ·omega
 ·rw [sizeIn_eq, List.map_take]; omega
 ·rw [sizeIn_eq, List.map_drop]; omega
end Go.Proofs.YtliimeoblffigaaGreat

