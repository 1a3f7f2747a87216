/- The steps of put and drop at an inner node. Plain theorems. -/
import Derived.Test.YtliimeoblffigaaGreatTrOG
import Derived.Test.YtliimeoblffigaaGreatPlUG
set_option linter.unusedVariables false
set_option linter.unusedSimpArgs false
set_option maxRecDepth 100000
namespace Go.Proofs.YtliimeoblffigaaGreat
set_option linter.unusedVariables false

/-- one page has other bytes -/
def upd (ct : Nat → List UInt8) (i : Nat) (b : List UInt8) : Nat → List UInt8 := fun j => if j = i then b else ct j
theorem upd_same (ct : Nat → List UInt8) (i : Nat) (b : List UInt8) : upd ct i b i = b := if_pos rfl
theorem upd_ne {ct : Nat → List UInt8} {i j : Nat} {b : List UInt8} (h : j ≠ i) : upd ct i b j = ct j := if_neg h
theorem Pairwise.head_lt {ks : List (List UInt8)} (h : ks.Pairwise fun a b => cmpB a b < 0) {i j : Nat} {a b : List UInt8} (hij : i < j) (ha : ks[i]? = some a) (hb : ks[j]? = some b) : cmpB a b < 0 := by
 obtain ⟨h1, rfl⟩ := List.getElem?_eq_some_iff.1 ha
 obtain ⟨h2, rfl⟩ := List.getElem?_eq_some_iff.1 hb
 exact List.pairwise_iff_getElem.1 h i j h1 h2 hij
theorem split_at {α : Type} {l : List α} {i : Nat} (h : i < l.length) : l = l.take i ++ l[i] :: l.drop (i + 1) := by
 rw [← List.drop_eq_getElem_cons h, List.take_append_drop]
theorem keysE_up {T : Nat → List Nat → List KV → Prop} {E : List Ent} (h : Brn T E) : (keysE E).Pairwise fun a b => cmpB a b < 0 := by
 have h1 : (E.map (·.1)).Pairwise fun a b => cmpB a b < 0 := by
  rw [List.pairwise_map]
  exact h.pw.imp fun h => h.1
 exact h1.sublist (List.tail_sublist _)
theorem keysE_len64 {T : Nat → List Nat → List KV → Prop} {E : List Ent} (h : Brn T E) : ∀ k ∈ keysE E, k.length ≤ 64 := fun k hk => by
 obtain ⟨e, he, rfl⟩ := List.mem_map.1 (List.mem_of_mem_tail hk)
 exact h.klen e he
theorem Brn.len {T : Nat → List Nat → List KV → Prop} {E : List Ent} (h : Brn T E) : E.length = (keysE E).length + 1 := by
 have := h.some_
 rw [keysE_len]
 cases E with
 | nil => exact absurd rfl this
 | cons a E => simp
theorem keysE_at {E : List Ent} {j : Nat} {e : Ent} (h : E[j + 1]? = some e) : (keysE E)[j]? = some e.1 := by
 unfold keysE
 rw [← List.drop_one, List.getElem?_drop, List.getElem?_map, Nat.add_comm 1 j, h]; rfl
/-- the way to a key -/
theorem Brn.way {T : Nat → List Nat → List KV → Prop} {E : List Ent} (h : Brn T E) {k : List UInt8} {i : Nat} {ok : Bool} (f : Fnd (keysE E) k i ok) :
  ∃ (EA EB : List Ent) (k0 : List UInt8) (x : Kid), E = EA ++ (k0, x) :: EB ∧ EA.length = (if ok then i + 1 else i) ∧ Way EA EB k0 k := by
 obtain ⟨n, hn⟩ : ∃ n, n = if ok then i + 1 else i := ⟨_, rfl⟩
 have hlen := h.len
 have hok : ok = true → i < (keysE E).length := fun ho => by
  obtain ⟨x, hx, _⟩ := f.ok.1 ho
  exact (List.getElem?_eq_some_iff.1 hx).1
 have hnl : n < E.length := by
  have := f.le
  rw [hn]
  cases ok with
  | false => simp; omega
  | true => have := hok rfl; simp; omega
 have hup := keysE_up h
 rw [← hn]
 refine ⟨E.take n, E.drop (n + 1), E[n].1, E[n].2, split_at hnl, by rw [List.length_take]; omega, ?_, fun e he => ?_⟩
 ·by_cases e0 : n = 0
  ·subst e0
   have : (E[0]).1 = [] := h.hd _ (by rw [List.head?_eq_getElem?]; exact List.getElem?_eq_getElem hnl)
   rw [this]; exact cmpB_nil_le _
  ·have hk : (keysE E)[n - 1]? = some E[n].1 := keysE_at (by rw [show n - 1 + 1 = n by omega]; exact List.getElem?_eq_getElem hnl)
   cases ok with
   | false =>
    have hn : n = i := by simpa using hn
    exact Int.le_of_lt (f.lo (n - 1) _ (by omega) hk)
   | true =>
    have hn : n = i + 1 := by simpa using hn
    obtain ⟨x, hx, hz⟩ := f.ok.1 rfl
    rw [show n - 1 = i by omega, hx] at hk
    rw [← Option.some.inj hk, hz]; exact Int.le_refl _
 ·obtain ⟨j, hj, rfl⟩ := List.mem_iff_getElem.1 he
  rw [List.length_drop] at hj
  rw [List.getElem_drop]
  have hk : (keysE E)[n + j]? = some (E[n + 1 + j]'(by omega)).1 := keysE_at (by rw [show n + j + 1 = n + 1 + j by omega]; exact List.getElem?_eq_getElem (by omega))
  cases ok with
  | true =>
   have hn : n = i + 1 := by simpa using hn
   obtain ⟨x, hx, hz⟩ := f.ok.1 rfl
   have := Pairwise.head_lt hup (by omega : i < n + j) hx hk
   rw [← (cmpB_eq_zero _ _).1 hz]; exact this
  | false =>
   have hn : n = i := by simpa using hn
   have h0 := f.hi (n + j) _ (by omega) hk
   have hne : cmpB (E[n + 1 + j]'(by omega)).1 k ≠ 0 := fun hz => by
    by_cases e : j = 0
    ·subst e
     have := f.ok.2 ⟨_, (show (keysE E)[i]? = (keysE E)[n + 0]? from congrArg (fun t => (keysE E)[t]?) (by omega)).trans hk, hz⟩
     cases this
    ·have hil : i < (keysE E).length := by have := (List.getElem?_eq_some_iff.1 hk).1; omega
     have h1 := Pairwise.head_lt hup (by omega : i < n + j) (List.getElem?_eq_getElem hil) hk
     have h2 := f.hi i _ (Nat.le_refl _) (List.getElem?_eq_getElem hil)
     rw [(cmpB_eq_zero _ _).1 hz] at h1
     omega
   have := cmpB_neg (E[n + 1 + j]'(by omega)).1 k
   omega
section
variable {ct ct' : Nat → List UInt8} {ids ids' : List Nat} {h id : Nat} {EA EB : List Ent} {k0 k v : List UInt8} {x : Kid} {p' : List Nat} {l' : List KV}
/-- an inner node's own facts -/
structure Nod (ct : Nat → List UInt8) (ids : List Nat) (h id : Nat) (E : List Ent) : Prop where
 brn : Brn (TR ct h) E
 lim : id ≤ 65535
 size : sizeIn (keysE E) E.length ≤ 512
 page : ct id = pageIn (keysE E) (idsE E)
 once : (id :: psE E).Nodup
 sub : ∀ j ∈ id :: psE E, j ∈ ids
theorem Nod.tr {E : List Ent} (n : Nod ct ids h id E) : TR ct (h + 1) id (id :: psE E) (lE E) := ⟨E, n.brn, n.lim, n.size, n.page, rfl, rfl⟩
theorem TR.nod {ps : List Nat} {l : List KV} (hT : TR ct (h + 1) id ps l) (hnd : ps.Nodup) (hin : ∀ j ∈ ps, j ∈ ids) : ∃ E, Nod ct ids h id E ∧ ps = id :: psE E ∧ l = lE E := by
 obtain ⟨E, h1, h2, h3, h4, rfl, rfl⟩ := hT
 exact ⟨E, ⟨h1, h2, h3, h4, hnd, hin⟩, rfl, rfl⟩
theorem psE_mid : id :: psE (EA ++ (k0, x) :: EB) = (id :: psE EA) ++ (x.ps ++ psE EB) := by rw [psE_app, psE_cons]; rfl
/-- what a call below a kid leaves of the node -/
theorem Nod.kid (n : Nod ct ids h id (EA ++ (k0, x) :: EB)) (U : Upd ids ids' ct ct' x.ps p') :
  Upd ids ids' ct ct' (id :: psE (EA ++ (k0, x) :: EB)) ((id :: psE EA) ++ (p' ++ psE EB)) ∧ ct' id = ct id ∧ (∀ e ∈ EA ++ EB, TR ct h e.2.id e.2.ps e.2.l → TR ct' h e.2.id e.2.ps e.2.l) ∧ TR ct h x.id x.ps x.l ∧ x.ps.Nodup ∧ (∀ j ∈ x.ps, j ∈ ids) ∧ id ∉ x.ps := by
 have ho := n.once
 have hs := n.sub
 rw [psE_mid] at ho hs ⊢
 obtain ⟨V, hc⟩ := U.ctx ho hs
 obtain ⟨n1, n2, n3⟩ := List.nodup_append.1 ho
 refine ⟨V, hc id (by simp), fun e he hT => hT.congr fun j hj => hc j ?_, n.brn.kid (k0, x) (by simp), (List.nodup_append.1 n2).1, fun j hj => hs j (by simp [hj]), fun hi => n3 id (by simp) id (List.mem_append_left _ hi) rfl⟩
 rcases List.mem_append.1 he with he | he
 ·exact List.mem_append_left _ (List.mem_cons_of_mem _ (mem_psE.2 ⟨e, he, hj⟩))
 ·exact List.mem_append_right _ (mem_psE.2 ⟨e, he, hj⟩)
theorem kvDel_mem {p : KV} {l : List KV} (h : p ∈ kvDel k l) : p ∈ l := (List.mem_filter.1 h).1
theorem keysE_mid : keysE (EA ++ (k0, x) :: EB) = keysE (EA ++ (k0, ⟨x.id, p', l'⟩) :: EB) := by unfold keysE; simp
theorem idsE_mid : idsE (EA ++ (k0, x) :: EB) = idsE (EA ++ (k0, ⟨x.id, p', l'⟩) :: EB) := by unfold idsE; simp
/-- the kid turned: the node's page stays -/
theorem Nod.turn (n : Nod ct ids h id (EA ++ (k0, x) :: EB)) (U : Upd ids ids' ct ct' x.ps p') (hT : TR ct' h x.id p' l') (hne : l' ≠ []) (w : Way EA EB k0 k) (hl : ∀ p ∈ l', p.1 = k ∨ p ∈ x.l) :
  Upd ids ids' ct ct' (id :: psE (EA ++ (k0, x) :: EB)) (id :: psE (EA ++ (k0, ⟨x.id, p', l'⟩) :: EB)) ∧ TR ct' (h + 1) id (id :: psE (EA ++ (k0, ⟨x.id, p', l'⟩) :: EB)) (lE EA ++ (l' ++ lE EB)) := by
 obtain ⟨V, hc, ho, _⟩ := n.kid U
 have hs := n.size
 have hp := n.page
 rw [keysE_mid (p' := p') (l' := l')] at hs hp
 rw [idsE_mid (p' := p') (l' := l')] at hp
 refine ⟨by rw [psE_mid (x := ⟨x.id, p', l'⟩)]; exact V, EA ++ (k0, ⟨x.id, p', l'⟩) :: EB, n.brn.set ho hT hne fun p hp => n.brn.bnd w (hl p hp), n.lim, ?_, by rw [hc]; exact hp, rfl, by rw [lE_app, lE_cons]⟩
 simp only [List.length_append, List.length_cons] at hs ⊢
 exact hs
end
section
variable {ct : Nat → List UInt8} {ids : List Nat} {h id : Nat} {E : List Ent}
/-- a page is written whose kids stand -/
theorem TR.write {b : List UInt8} (hB : Brn (TR ct h) E) (hl : id ≤ 65535) (hs : sizeIn (keysE E) E.length ≤ 512) (hn : id ∉ psE E) (hb : b = pageIn (keysE E) (idsE E)) : TR (upd ct id b) (h + 1) id (id :: psE E) (lE E) :=
 ⟨E, hB.mono fun e he hT => hT.congr fun j hj => upd_ne fun e2 => hn (mem_psE.2 ⟨e, he, e2 ▸ hj⟩), hl, hs, by rw [upd_same, hb], rfl, rfl⟩
theorem TR.writeL {b : List UInt8} {l : List KV} (hl : id ≤ 65535) (hg : GoodKV l) (hs : sizeKV l ≤ 512) (hb : b = pageKV l) : TR (upd ct id b) 0 id [id] l := ⟨rfl, hl, by rw [upd_same, hb], hg, hs⟩
theorem Upd.write {ids' ps ps' : List Nat} {ct ct' : Nat → List UInt8} {b : List UInt8} (U : Upd ids ids' ct ct' ps ps') (hi : id ∈ ps') (hps : id ∈ ps) : Upd ids ids' ct (upd ct' id b) ps ps' :=
 ⟨fun j hj hn => ⟨(U.keep j hj hn).1, (upd_ne fun e : j = id => hn (e ▸ hps)).trans (U.keep j hj hn).2⟩, U.has, U.old, U.once⟩
/-- a fresh page more -/
theorem Upd.fresh {ids' ids'' ps P Q : List Nat} {ct ct' : Nat → List UInt8} {o : Nat} {b : List UInt8} (U : Upd ids ids' ct ct' ps (P ++ Q)) (ho : o ∉ ids') (hi : ∀ j, j ∈ ids'' ↔ j = o ∨ j ∈ ids') (hsub : ∀ j ∈ ps, j ∈ ids) (hps : o ∉ ps) : Upd ids ids'' ct (upd ct' o b) ps (P ++ o :: Q) := by
 have hoP : ∀ j ∈ P ++ Q, j ≠ o := fun j hj e => ho (e ▸ U.has j hj)
 have hoi : o ∉ ids := fun hoi => by
  exact ho (U.keep o hoi hps).1
 refine ⟨fun j hj hn => ?_, fun j hj => ?_, fun j hj => ?_, ?_⟩
 ·have h1 := U.keep j hj hn
  exact ⟨(hi j).2 (.inr h1.1), (upd_ne fun e : j = o => ho (e ▸ h1.1)).trans h1.2⟩
 ·simp only [List.mem_append, List.mem_cons] at hj
  rcases hj with hj | hj | hj
  ·exact (hi j).2 (.inr (U.has j (by simp [hj])))
  ·exact (hi j).2 (.inl hj)
  ·exact (hi j).2 (.inr (U.has j (by simp [hj])))
 ·simp only [List.mem_append, List.mem_cons] at hj
  rcases hj with hj | hj | hj
  ·exact U.old j (by simp [hj])
  ·exact .inr (hj ▸ hoi)
  ·exact U.old j (by simp [hj])
 ·obtain ⟨n1, n2, n3⟩ := List.nodup_append.1 U.once
  refine List.nodup_append.2 ⟨n1, List.nodup_cons.2 ⟨fun h => hoP o (by simp [h]) rfl, n2⟩, fun a ha b hb => ?_⟩
  rcases List.mem_cons.1 hb with rfl | hb
  ·exact hoP a (by simp [ha])
  ·exact n3 a ha b hb
end
end Go.Proofs.YtliimeoblffigaaGreat

set_option maxRecDepth 100000
namespace Go.Proofs.YtliimeoblffigaaGreat
set_option linter.unusedVariables false

theorem drop_mid {α : Type} {A B : List α} {k : α} {j : Nat} (h : A.length = j) : (A ++ k :: B).drop (j + 1) = B := by
 subst h
 induction A with
 | nil => rfl
 | cons a A ih => exact ih
theorem sub_sum {a b : List Nat} (h : a.Sublist b) : a.sum ≤ b.sum := by
 induction h with
 | slnil => exact Nat.le_refl _
 | cons x h ih => rw [List.sum_cons]; omega
 | cons_cons x h ih => rw [List.sum_cons, List.sum_cons]; omega
theorem sizeIn_app (a : List (List UInt8)) (k : List UInt8) (b : List (List UInt8)) (n : Nat) : sizeIn (a ++ k :: b) (n + 1) = sizeIn (a ++ b) n + (3 + k.length) := by
 simp only [sizeIn, List.map_append, List.map_cons, List.sum_append, List.sum_cons]; omega
section
variable {ct ct' : Nat → List UInt8} {ids ids' : List Nat} {h id o : Nat} {EA EB : List Ent} {k0 k v key : List UInt8} {x : Kid} {p1 p2 : List Nat} {l1 l2 : List KV}
theorem keys_mid (y : Kid) : keysE (EA ++ (k0, y) :: EB) = (EA.map (·.1) ++ [k0]).tail ++ EB.map (·.1) := by
 unfold keysE
 cases EA with
 | nil => simp
 | cons a EA => simp
theorem keys_mid_len : ((EA.map (·.1) ++ [k0]).tail).length = EA.length := by simp
theorem keys_ins (y z : Kid) : keysE (EA ++ (k0, y) :: (key, z) :: EB) = (keysE (EA ++ (k0, x) :: EB)).take EA.length ++ key :: (keysE (EA ++ (k0, x) :: EB)).drop EA.length := by
 have e : keysE (EA ++ (k0, y) :: (key, z) :: EB) = (EA.map (·.1) ++ [k0]).tail ++ key :: EB.map (·.1) := by
  rw [keys_mid y]; rfl
 rw [e, keys_mid x, List.take_left' keys_mid_len, List.drop_left' keys_mid_len]
theorem ids_ins (y z : Kid) (hy : y.id = x.id) : idsE (EA ++ (k0, y) :: (key, z) :: EB) = (idsE (EA ++ (k0, x) :: EB)).take (EA.length + 1) ++ z.id :: (idsE (EA ++ (k0, x) :: EB)).drop (EA.length + 1) := by
 have e : idsE (EA ++ (k0, x) :: EB) = (idsE EA ++ [x.id]) ++ idsE EB := by simp [idsE]
 have hl : (idsE EA ++ [x.id]).length = EA.length + 1 := by simp [idsE]
 rw [e, List.take_left' hl, List.drop_left' hl]
 simp [idsE, hy]
/-- the kid was parted -/
theorem Nod.part (n : Nod ct ids h id (EA ++ (k0, x) :: EB)) (U : Upd ids ids' ct ct' x.ps (p1 ++ p2)) (h1 : TR ct' h x.id p1 l1) (h2 : TR ct' h o p2 l2) (hl : l1 ++ l2 = kvPut k v x.l) (n1 : l1 ≠ []) (n2 : l2 ≠ []) (w : Way EA EB k0 k)
  (k1 : ∀ p ∈ l1, cmpB p.1 key < 0) (k2 : ∀ p ∈ l2, cmpB key p.1 ≤ 0) (hk : key.length ≤ 64) :
  Brn (TR ct' h) (EA ++ (k0, ⟨x.id, p1, l1⟩) :: (key, ⟨o, p2, l2⟩) :: EB) ∧ lE (EA ++ (k0, ⟨x.id, p1, l1⟩) :: (key, ⟨o, p2, l2⟩) :: EB) = kvPut k v (lE (EA ++ (k0, x) :: EB)) ∧
   Upd ids ids' ct ct' (id :: psE (EA ++ (k0, x) :: EB)) (id :: psE (EA ++ (k0, ⟨x.id, p1, l1⟩) :: (key, ⟨o, p2, l2⟩) :: EB)) ∧
   sizeIn (keysE (EA ++ (k0, ⟨x.id, p1, l1⟩) :: (key, ⟨o, p2, l2⟩) :: EB)) (EA ++ (k0, ⟨x.id, p1, l1⟩) :: (key, ⟨o, p2, l2⟩) :: EB).length ≤ 579 := by
 obtain ⟨V, hc, ho, _⟩ := n.kid U
 refine ⟨n.brn.part ho h1 h2 n1 n2 hk (fun p hp => n.brn.bnd w ?_) k1 k2, ?_, ?_, ?_⟩
 ·have : p ∈ kvPut k v x.l := by rw [← hl]; exact hp
  rcases kvPut_mem this with rfl | hm
  ·exact .inl rfl
  ·exact .inr hm
 ·rw [n.brn.put w, ← hl, lE_app, lE_cons, lE_cons, List.append_assoc]
 ·have e : id :: psE (EA ++ (k0, ⟨x.id, p1, l1⟩) :: (key, ⟨o, p2, l2⟩) :: EB) = (id :: psE EA) ++ ((p1 ++ p2) ++ psE EB) := by
   rw [psE_app, psE_cons, psE_cons, List.append_assoc]; rfl
  rw [e]; exact V
 ·have hs := n.size
  have hlen : (EA ++ (k0, (⟨x.id, p1, l1⟩ : Kid)) :: (key, (⟨o, p2, l2⟩ : Kid)) :: EB).length = (EA ++ (k0, x) :: EB).length + 1 := by simp only [List.length_append, List.length_cons]; omega
  rw [hlen, keys_ins (x := x), sizeIn_app, List.take_append_drop]
  omega
end
section
variable {ct : Nat → List UInt8} {ids ids' ids2 ps : List Nat} {h id o : Nat} {E EC ED : List Ent} {kk : List UInt8} {w : Kid}
theorem keys_cut (hC : EC ≠ []) (y : Kid) : keysE (EC ++ (kk, w) :: ED) = keysE EC ++ kk :: keysE (([], y) :: ED) := by
 cases EC with
 | nil => exact absurd rfl hC
 | cons a EC => simp [keysE]
theorem ids_cut : idsE (EC ++ (kk, w) :: ED) = idsE EC ++ idsE (([], w) :: ED) := by simp [idsE]
theorem ps_cut : psE (EC ++ (kk, w) :: ED) = psE EC ++ psE (([], w) :: ED) := by simp [psE]
theorem l_cut : lE (EC ++ (kk, w) :: ED) = lE EC ++ lE (([], w) :: ED) := by simp [lE]
/-- the cut of a node's kids at a place -/
theorem cut_ent {T : Nat → List Nat → List KV → Prop} (hB : Brn T E) {j : Nat} (h1 : 1 ≤ j) (h2 : j + 2 ≤ (keysE E).length) : ∃ EC ED kk w, E = EC ++ (kk, w) :: ED ∧ EC ≠ [] ∧ ED ≠ [] ∧ keysE EC = (keysE E).take j ∧ (keysE E)[j]? = some kk ∧ keysE (([], w) :: ED) = (keysE E).drop (j + 1) ∧ idsE EC = (idsE E).take (j + 1) ∧ idsE (([], w) :: ED) = (idsE E).drop (j + 1) ∧ EC.length = j + 1 ∧ (([], w) :: ED : List Ent).length = (keysE E).length - j := by
 have hl := hB.len
 have hj : j + 1 < E.length := by omega
 have hC : (E.take (j + 1)).length = j + 1 := by rw [List.length_take]; omega
 have hCn : E.take (j + 1) ≠ [] := fun e => by rw [e] at hC; simp at hC
 have hDl : (E.drop (j + 1 + 1)).length = E.length - (j + 2) := by rw [List.length_drop]
 have hDn : E.drop (j + 1 + 1) ≠ [] := fun e => by rw [e] at hDl; simp at hDl; omega
 have e := split_at hj
 have hk := keys_cut (kk := E[j + 1].1) (w := E[j + 1].2) (ED := E.drop (j + 1 + 1)) hCn E[j + 1].2
 have e' : E = E.take (j + 1) ++ (E[j + 1].1, E[j + 1].2) :: E.drop (j + 1 + 1) := e
 rw [← e'] at hk
 have hkl : (keysE (E.take (j + 1))).length = j := by rw [keysE_len, hC]; rfl
 have hi := ids_cut (EC := E.take (j + 1)) (kk := E[j + 1].1) (w := E[j + 1].2) (ED := E.drop (j + 1 + 1))
 rw [← e'] at hi
 have hil : (idsE (E.take (j + 1))).length = j + 1 := by rw [idsE_len, hC]
 refine ⟨_, _, _, _, e', hCn, hDn, ?_, ?_, ?_, ?_, ?_, hC, ?_⟩
 ·rw [hk, List.take_left' hkl]
 ·rw [hk, List.getElem?_append_right (by omega), hkl, Nat.sub_self]; rfl
 ·rw [hk, drop_mid hkl]
 ·rw [hi, List.take_left' hil]
 ·rw [hi, List.drop_left' hil]
 ·rw [List.length_cons, hDl]; omega
/-- a node is parted into two pages -/
theorem split_tr {b1 b2 : List UInt8} (hB : Brn (TR ct h) (EC ++ (kk, w) :: ED)) (hC : EC ≠ []) (hl : id ≤ 65535) (hlo : o ≤ 65535) (hn : id ∉ psE (EC ++ (kk, w) :: ED)) (hno : o ∉ psE (EC ++ (kk, w) :: ED)) (hio : id ≠ o)
  (s1 : sizeIn (keysE EC) EC.length ≤ 512) (s2 : sizeIn (keysE (([], w) :: ED)) (([], w) :: ED : List Ent).length ≤ 512) (e1 : b1 = pageIn (keysE EC) (idsE EC)) (e2 : b2 = pageIn (keysE (([], w) :: ED)) (idsE (([], w) :: ED))) :
  TR (upd (upd ct id b1) o b2) (h + 1) id (id :: psE EC) (lE EC) ∧ TR (upd (upd ct id b1) o b2) (h + 1) o (o :: psE (([], w) :: ED)) (lE (([], w) :: ED)) ∧ (∀ p ∈ lE EC, cmpB p.1 kk < 0) ∧ (∀ p ∈ lE (([], w) :: ED), cmpB kk p.1 ≤ 0) ∧ kk.length ≤ 64 ∧ lE EC ≠ [] ∧ lE (([], w) :: ED) ≠ [] := by
 obtain ⟨h1, h2, h3, h4, h5⟩ := hB.cut hC
 rw [ps_cut] at hn hno
 have a1 : id ∉ psE EC := fun hx => hn (List.mem_append_left _ hx)
 have a2 : id ∉ psE (([], w) :: ED) := fun hx => hn (List.mem_append_right _ hx)
 have b1' : o ∉ psE EC := fun hx => hno (List.mem_append_left _ hx)
 have b2' : o ∉ psE (([], w) :: ED) := fun hx => hno (List.mem_append_right _ hx)
 refine ⟨?_, ?_, h3, h4, h5, ?_, ?_⟩
 ·refine (TR.write h1 hl s1 a1 e1).congr fun j hj => upd_ne fun e => ?_
  rcases List.mem_cons.1 hj with hj | hj
  ·exact hio (by omega)
  ·exact b1' (e ▸ hj)
 ·refine TR.write (h2.mono fun e he hT => hT.congr fun j hj => upd_ne fun e2 => a2 (mem_psE.2 ⟨e, he, e2 ▸ hj⟩)) hlo s2 b2' e2
 ·obtain ⟨e, he⟩ := List.exists_mem_of_ne_nil _ hC
  obtain ⟨p, hp⟩ := List.exists_mem_of_ne_nil _ (h1.ne e he)
  exact List.ne_nil_of_mem (mem_lE.2 ⟨e, he, hp⟩)
 ·obtain ⟨p, hp⟩ := List.exists_mem_of_ne_nil _ (h2.ne ([], w) (by simp))
  exact List.ne_nil_of_mem (mem_lE.2 ⟨_, by simp, hp⟩)
end
section
variable {ct ct' : Nat → List UInt8} {ids ids' : List Nat} {h id : Nat} {EA EB : List Ent} {k0 k : List UInt8} {x : Kid}
theorem keys_del (hA : EA ≠ []) : keysE (EA ++ EB) = (keysE (EA ++ (k0, x) :: EB)).take (EA.length - 1) ++ (keysE (EA ++ (k0, x) :: EB)).drop (EA.length - 1 + 1) := by
 cases EA with
 | nil => exact absurd rfl hA
 | cons a EA =>
  have e1 : keysE (a :: EA ++ EB) = EA.map (·.1) ++ EB.map (·.1) := by simp [keysE]
  have e2 : keysE (a :: EA ++ (k0, x) :: EB) = EA.map (·.1) ++ k0 :: EB.map (·.1) := by simp [keysE]
  have hl : (EA.map (·.1)).length = EA.length := List.length_map ..
  rw [e1, e2, show (a :: EA).length - 1 = EA.length by simp, List.take_left' hl, drop_mid hl]
theorem keys_del0 {k1 : List UInt8} {x1 : Kid} : keysE (([], x1) :: EB) = (keysE ((k0, x) :: (k1, x1) :: EB)).drop 1 := by simp [keysE]
theorem ids_del : idsE (EA ++ EB) = (idsE (EA ++ (k0, x) :: EB)).take EA.length ++ (idsE (EA ++ (k0, x) :: EB)).drop (EA.length + 1) := by
 have e : idsE (EA ++ (k0, x) :: EB) = idsE EA ++ x.id :: idsE EB := by simp [idsE]
 have hl : (idsE EA).length = EA.length := idsE_len EA
 rw [e, List.take_left' hl, drop_mid hl]
 simp [idsE]
theorem sizeIn_le {a b : List (List UInt8)} {n m : Nat} (h : a.Sublist b) (hn : n ≤ m) : sizeIn a n ≤ sizeIn b m := by
 have : (a.map fun k => 1 + k.length).sum ≤ (b.map fun k => 1 + k.length).sum := by
  have h2 := h.map (fun k => 1 + k.length)
  exact sub_sum h2
 rw [sizeIn_eq, sizeIn_eq]; omega
/-- a kid is gone -/
theorem Nod.gone (n : Nod ct ids h id (EA ++ (k0, x) :: EB)) (U : Upd ids ids' ct ct' x.ps []) (w : Way EA EB k0 k) (hz : kvDel k x.l = []) (hne : EA ++ EB ≠ []) :
  ∃ E', Brn (TR ct' h) E' ∧ lE E' = kvDel k (lE (EA ++ (k0, x) :: EB)) ∧ Upd ids ids' ct ct' (id :: psE (EA ++ (k0, x) :: EB)) (id :: psE E') ∧ sizeIn (keysE E') E'.length ≤ 512 ∧
   keysE E' = (keysE (EA ++ (k0, x) :: EB)).take (EA.length - 1) ++ (keysE (EA ++ (k0, x) :: EB)).drop (EA.length - 1 + 1) ∧ idsE E' = (idsE (EA ++ (k0, x) :: EB)).take EA.length ++ (idsE (EA ++ (k0, x) :: EB)).drop (EA.length + 1) ∧ (∀ j ∈ id :: psE E', j ∈ id :: psE (EA ++ (k0, x) :: EB)) := by
 obtain ⟨V, hc, ho, _⟩ := n.kid U
 have hl : kvDel k (lE (EA ++ (k0, x) :: EB)) = lE (EA ++ EB) := by rw [n.brn.del_ w, hz, lE_app]; rfl
 have hs := n.size
 have hV : Upd ids ids' ct ct' (id :: psE (EA ++ (k0, x) :: EB)) (id :: psE (EA ++ EB)) := by
  have e : id :: psE (EA ++ EB) = (id :: psE EA) ++ ([] ++ psE EB) := by rw [psE_app]; rfl
  rw [e]; exact V
 have hsub : ∀ j ∈ id :: psE (EA ++ EB), j ∈ id :: psE (EA ++ (k0, x) :: EB) := fun j hj => by
  rcases List.mem_cons.1 hj with hj | hj
  ·rw [hj]; simp
  ·refine List.mem_cons_of_mem _ ?_
   rw [psE_app] at hj ⊢
   rw [psE_cons]
   rcases List.mem_append.1 hj with hj | hj
   ·exact List.mem_append_left _ hj
   ·exact List.mem_append_right _ (List.mem_append_right _ hj)
 cases EA with
 | cons a EA =>
  refine ⟨a :: EA ++ EB, (n.brn.del (by simp)).mono fun e he => ho e he, hl.symm, hV, ?_, keys_del (by simp), ids_del, hsub⟩
  rw [keys_del (k0 := k0) (x := x) (by simp)]
  refine Nat.le_trans (sizeIn_le (b := keysE (a :: EA ++ (k0, x) :: EB)) (m := (a :: EA ++ (k0, x) :: EB).length) ?_ (by simp)) hs
  conv => rhs; rw [← List.take_append_drop ((a :: EA).length - 1) (keysE (a :: EA ++ (k0, x) :: EB))]
  exact (List.Sublist.refl _).append (List.drop_sublist_drop_left _ (by omega))
 | nil =>
  cases EB with
  | nil => exact absurd rfl hne
  | cons e EB =>
   obtain ⟨k1, x1⟩ := e
   refine ⟨([], x1) :: EB, (n.brn.del0).mono fun e he hT => ?_, hl.symm, hV, ?_, keys_del0 (k0 := k0) (x := x) (k1 := k1), ?_, hsub⟩
   ·rcases List.mem_cons.1 he with rfl | he
    ·exact ho (k1, x1) (by simp) hT
    ·exact ho e (by simp [he]) hT
   ·refine Nat.le_trans (sizeIn_le (b := keysE ([] ++ (k0, x) :: (k1, x1) :: EB)) (m := ([] ++ (k0, x) :: (k1, x1) :: EB : List Ent).length) ?_ (by simp)) hs
    rw [List.nil_append, keys_del0 (k0 := k0) (x := x) (k1 := k1)]
    exact List.drop_sublist _ _
   ·exact ids_del (EA := []) (k0 := k0) (x := x) (EB := (k1, x1) :: EB)
end
end Go.Proofs.YtliimeoblffigaaGreat

set_option maxRecDepth 100000
namespace Go.Proofs.YtliimeoblffigaaGreat
open Go.RowKit Go.Maps
set_option linter.unusedVariables false
set_option linter.unusedSimpArgs false

theorem PG.alloc {pre : ByteArray} {S : DSt} {sl tab : Slots} {sf : List (Int × Int)} {at_ : Ats} {sv : Option (List UInt8 × (Nat → List UInt8))} (h : PG pre S sl sf at_ tab sv) {i : Nat} (hi : ∀ p ∈ sl, p.1 ≠ i) (hn : sl.length < 65536) (hb : i < 65536) :
  PG pre S (aPut klI i (-1) sl) sf at_ tab sv ∧ ∀ j, cont ((S.seen (nf pre)).getD []) (aPut klI i (-1) sl) at_ j = if j = i then zeros else cont ((S.seen (nf pre)).getD []) sl at_ j := by
 obtain ⟨h1, h2⟩ := h.inv.alloc hi hn hb
 exact ⟨⟨h1, h.sf, h.dead, h.out, h.seen, h.nt, h.mt, h.bs, h.hold⟩, h2⟩
theorem PG.free_ {pre : ByteArray} {S : DSt} {sl tab : Slots} {sf : List (Int × Int)} {at_ : Ats} {sv : Option (List UInt8 × (Nat → List UInt8))} (h : PG pre S sl sf at_ tab sv) (i : Nat) : PG pre S (aDel klI i sl) sf (aDel klI i at_) tab sv := ⟨(h.inv.free i).1, h.sf, h.dead, h.out, h.seen, h.nt, h.mt, h.bs, h.hold⟩
/-- the pool at block g; all that it looks at lies in T: it has the pages ids, and they have the bytes ct; at most q deeds wait -/
structure TS (w : World) (T : Nat → Prop) (g hand : Nat) (pre : ByteArray) (q : Nat) (ids : List Nat) (ct : Nat → List UInt8) : Prop where
 ex : ∃ (TD TP G : Nat → Prop) (gd bs bf ba : Nat) (cl h1 h2 h3 : Int) (S : DSt) (sl : Slots) (sf : List (Int × Int)) (at_ : Ats), PoolM w TD TP G gd g pre hand S sl sf at_ bs bf ba cl h1 h2 h3 ∧ PG pre S sl sf at_ [] none ∧ S.arm = none ∧ S.queue.length ≤ q ∧ at_.length ≤ hand ∧ sl.map (·.1) = ids ∧ (∀ i, cont ((S.seen (nf pre)).getD []) sl at_ i = ct i) ∧ (∀ b, TD b → T b) ∧ ∀ b, TP b → T b
 lt : ∀ b, T b → b < w.heap.size
 h1 : 1 ≤ hand
 h2 : hand ≤ 1000000
section
variable {w w' : World} {T T' Sx : Nat → Prop} {g hand q q' : Nat} {pre : ByteArray} {ids : List Nat} {ct ct' : Nat → List UInt8}
theorem TS.chg (h : TS w T g hand pre q ids ct) (hc : Chg Sx w w') (hS : ∀ b, T b → ¬ Sx b) : TS w' T g hand pre q ids ct := by
 obtain ⟨TD, TP, G, gd, bs, bf, ba, cl, h1, h2, h3, S, sl, sf, at_, hM, hG, ha, hq, hl, hi, hct, hD, hP⟩ := h.ex
 exact ⟨⟨TD, TP, G, gd, bs, bf, ba, cl, h1, h2, h3, S, sl, sf, at_, hM.chg hc (fun b hb => hS b (hD b hb)) (fun b hb => hS b (hP b hb)), hG, ha, hq, hl, hi, hct, hD, hP⟩, fun b hb => Nat.lt_of_lt_of_le (h.lt b hb) hc.size, h.h1, h.h2⟩
theorem TS.c0 (h : TS w T g hand pre q ids ct) (hc : Chg Non w w') : TS w' T g hand pre q ids ct := h.chg hc fun _ _ h => h
theorem TS.up (h : TS w T g hand pre q ids ct) (hT : ∀ b, T b → T' b) (hl : ∀ b, T' b → b < w.heap.size) : TS w T' g hand pre q ids ct := by
 obtain ⟨TD, TP, G, gd, bs, bf, ba, cl, h1, h2, h3, S, sl, sf, at_, hM, hG, ha, hq, hl', hi, hct, hD, hP⟩ := h.ex
 exact ⟨⟨TD, TP, G, gd, bs, bf, ba, cl, h1, h2, h3, S, sl, sf, at_, hM, hG, ha, hq, hl', hi, hct, fun b hb => hT b (hD b hb), fun b hb => hT b (hP b hb)⟩, hl, h.h1, h.h2⟩
theorem TS.le_q (h : TS w T g hand pre q ids ct) (hq : q ≤ q') : TS w T g hand pre q' ids ct := by
 obtain ⟨TD, TP, G, gd, bs, bf, ba, cl, h1, h2, h3, S, sl, sf, at_, hM, hG, ha, hq', hl', hi, hct, hD, hP⟩ := h.ex
 exact ⟨⟨TD, TP, G, gd, bs, bf, ba, cl, h1, h2, h3, S, sl, sf, at_, hM, hG, ha, by omega, hl', hi, hct, hD, hP⟩, h.lt, h.h1, h.h2⟩
theorem TS.id_lt (h : TS w T g hand pre q ids ct) {i : Nat} (hi : i ∈ ids) : i ≤ 65535 := by
 obtain ⟨TD, TP, G, gd, bs, bf, ba, cl, h1, h2, h3, S, sl, sf, at_, hM, hG, ha, hq, hl', rfl, hct, hD, hP⟩ := h.ex
 obtain ⟨p, hp, rfl⟩ := List.mem_map.1 hi
 have := hG.inv.ids p hp
 omega
theorem map_put {i : Nat} {s : Int} {sl : Slots} (j : Nat) : j ∈ (aPut klI i s sl).map (·.1) ↔ j = i ∨ j ∈ sl.map (·.1) := by
 simp only [List.mem_map]
 constructor
 ·rintro ⟨p, hp, rfl⟩
  rcases (mem_put keyI).1 hp with rfl | ⟨h, _⟩
  ·exact .inl rfl
  ·exact .inr ⟨p, h, rfl⟩
 ·rintro (rfl | ⟨p, hp, rfl⟩)
  ·exact ⟨_, (mem_put keyI).2 (.inl rfl), rfl⟩
  ·by_cases e : p.1 = i
   ·exact ⟨_, (mem_put keyI).2 (.inl rfl), e.symm⟩
   ·exact ⟨p, (mem_put keyI).2 (.inr ⟨hp, e⟩), rfl⟩
theorem map_del {i : Nat} {sl : Slots} (j : Nat) : j ∈ (aDel klI i sl).map (·.1) ↔ j ∈ sl.map (·.1) ∧ j ≠ i := by
 simp only [List.mem_map]
 constructor
 ·rintro ⟨p, hp, rfl⟩
  obtain ⟨h1, h2⟩ := (mem_del keyI).1 hp
  exact ⟨⟨p, h1, rfl⟩, h2⟩
 ·rintro ⟨⟨p, hp, rfl⟩, h2⟩
  exact ⟨p, (mem_del keyI).2 ⟨hp, h2⟩, rfl⟩
theorem tGet (hS : TS w T g hand pre q ids ct) {i : Nat} (hi : i ∈ ids) (hq : q ≤ 900000) :
  Calls Tryz.prog 161 #[.pointer (some ⟨g, 0, none⟩), .int .i64 (i : Int)] w fun e w' => ∃ u, e = .returned (.tuple #[u, .int .i64 0]) ∧ OwnB w' w.heap.size u (ct i) ∧ TS w' (Ext T w w') g hand pre (q + 1) ids ct ∧ Chg T w w' := by
 obtain ⟨TD, TP, G, gd, bs, bf, ba, cl, h1, h2, h3, S, sl, sf, at_, hM, hG, ha, hqq, hl, rfl, hct, hD, hP⟩ := hS.ex
 refine (plGetU hM hG hi hS.h1 hl hS.h2 (by omega) ha).mono ?_
 rintro e w' ⟨hc, u, rfl, hu, S', sl', at', TD', TP', G', cl', a1, a2, a3, hM', hG', e1, e2, e3, e4, e5, e6, e7⟩
 refine ⟨u, rfl, by rw [← hct]; exact hu, ⟨⟨TD', TP', G', gd, bs, bf, ba, cl', a1, a2, a3, S', sl', sf, at', hM', hG', e3, by omega, e5, e1, fun j => (e2 j).trans (hct j), fun b hb => (e6 b hb).imp (hD b) id, fun b hb => (e7 b hb).imp (hP b) id⟩, Ext.lt hS.lt hc.size, hS.h1, hS.h2⟩, hc.mono fun b _ h => h.elim (hD b) (hP b)⟩
theorem tPut (hS : TS w T g hand pre q ids ct) {i : Nat} (hi : i ∈ ids) (hq : q ≤ 900000) {dv : Value} {Gd : Nat → Prop} {dt : List UInt8} (hd : RdB w Gd dv dt) (hl : dt.length = 512) :
  Calls Tryz.prog 125 #[.pointer (some ⟨g, 0, none⟩), .int .i64 (i : Int), dv] w fun e w' => e = .returned (.int .i64 0) ∧ TS w' (Ext T w w') g hand pre (q + 1) ids (upd ct i dt) ∧ Chg T w w' := by
 obtain ⟨TD, TP, G, gd, bs, bf, ba, cl, h1, h2, h3, S, sl, sf, at_, hM, hG, ha, hqq, hl9, rfl, hct, hD, hP⟩ := hS.ex
 obtain ⟨p, hp, hpe⟩ := List.mem_map.1 hi
 have hp' : (i, p.2) ∈ sl := by rw [← hpe]; exact hp
 refine (plPut hM hG hp' hS.h1 hl9 hS.h2 (by omega) hd hl).mono ?_
 rintro e w' ⟨hc, ⟨_, harm, _⟩ | ⟨rfl, S', sl', at', TD', TP', G', cl', a3, hM', hG', e1, e2, e3, e4, e5, e6, e7⟩⟩
 ·exact absurd ha harm
 ·exact ⟨rfl, ⟨⟨TD', TP', G', gd, bs, bf, ba, cl', h1, h2, a3, S', sl', sf, at', hM', hG', e3 ha, by omega, e5, e1, fun j => (e2 j).trans (by rw [hct j]; rfl), fun b hb => (e6 b hb).imp (hD b) id, fun b hb => (e7 b hb).imp (hP b) id⟩, Ext.lt hS.lt hc.size, hS.h1, hS.h2⟩, hc.mono fun b _ h => h.elim (hD b) (hP b)⟩
theorem tAlloc (hS : TS w T g hand pre q ids ct) (hn : ids.length < 65536) :
  Calls Tryz.prog 86 #[.pointer (some ⟨g, 0, none⟩)] w fun e w' => ∃ (i : Nat) (ids' : List Nat), e = .returned (.tuple #[.int .i64 (i : Int), .int .i64 0]) ∧ i ∉ ids ∧ i ≤ 65535 ∧ (∀ j, j ∈ ids' ↔ j = i ∨ j ∈ ids) ∧ ids'.length = ids.length + 1 ∧ TS w' T g hand pre q ids' (upd ct i zeros) ∧ Chg T w w' := by
 obtain ⟨TD, TP, G, gd, bs, bf, ba, cl, h1, h2, h3, S, sl, sf, at_, hM, hG, ha, hqq, hl9, rfl, hct, hD, hP⟩ := hS.ex
 rw [List.length_map] at hn
 refine (plAlloc hM hn hG.inv.rs).mono ?_
 rintro e w' ⟨i, rfl, hni, hib, _, hM', hc⟩
 obtain ⟨hG', hct'⟩ := hG.alloc hni hn hib
 refine ⟨i, (aPut klI i (-1) sl).map (·.1), rfl, fun hi => ?_, by omega, map_put, by rw [List.length_map, List.length_map, length_put_new keyI hni], ⟨⟨TD, TP, G, gd, bs, bf, ba, cl, h1, h2, h3, S, _, sf, at_, hM', hG', ha, hqq, hl9, rfl, fun j => (hct' j).trans (by rw [hct j]; rfl), hD, hP⟩, fun b hb => Nat.lt_of_lt_of_le (hS.lt b hb) hc.size, hS.h1, hS.h2⟩, hc.mono fun b _ h => ?_⟩
 ·obtain ⟨p, hp, e⟩ := List.mem_map.1 hi
  exact hni p hp e
 ·rw [show b = bs from h]; exact hP _ hM.tg.2.1
theorem tFree (hS : TS w T g hand pre q ids ct) {i : Nat} (hi : i ∈ ids) :
  Calls Tryz.prog 127 #[.pointer (some ⟨g, 0, none⟩), .int .i64 (i : Int)] w fun e w' => ∃ (ids' : List Nat), e = .returned (.int .i64 0) ∧ (∀ j, j ∈ ids' ↔ j ∈ ids ∧ j ≠ i) ∧ ids'.length ≤ ids.length ∧ TS w' T g hand pre q ids' (upd ct i []) ∧ Chg T w w' := by
 have hil := hS.id_lt hi
 obtain ⟨TD, TP, G, gd, bs, bf, ba, cl, h1, h2, h3, S, sl, sf, at_, hM, hG, ha, hqq, hl9, rfl, hct, hD, hP⟩ := hS.ex
 obtain ⟨p, hp, hpe⟩ := List.mem_map.1 hi
 refine (plFree hM (i := i) (by omega) ⟨p, hp, hpe⟩ hG.inv.rs).mono ?_
 rintro e w' ⟨rfl, hM', hc⟩
 have hG' := hG.free_ i
 have hct' := (hG.inv.free i).2
 refine ⟨(aDel klI i sl).map (·.1), rfl, map_del, by rw [List.length_map, List.length_map]; exact length_del_le _ _, ⟨⟨TD, TP, G, gd, bs, bf, ba, cl, h1, h2, h3, S, _, sf, _, hM', hG', ha, hqq, Nat.le_trans (length_del_le _ _) hl9, rfl, fun j => (hct' j).trans (by rw [hct j]; rfl), hD, hP⟩, fun b hb => Nat.lt_of_lt_of_le (hS.lt b hb) hc.size, hS.h1, hS.h2⟩, hc.mono fun b _ h => ?_⟩
 rcases h with h | h
 ·rw [h]; exact hP _ hM.tg.2.1
 ·rw [h]; exact hP _ hM.tg.2.2.2
theorem btWrong (w : World) (n : Int) (hn : n ≠ 1) : Calls Tryz.prog 124 #[.int .i64 n] w fun e w' => e = .returned (.int .i64 n) ∧ w' = w := by
 have h1 : (n == 1) = false := beq_eq_false_iff_ne.2 hn
 go_enter Tryz.func124, Tryz.ntmps124
 go_wp2_with fail
 go_ret
 exact ⟨rfl, rfl⟩
end
end Go.Proofs.YtliimeoblffigaaGreat

