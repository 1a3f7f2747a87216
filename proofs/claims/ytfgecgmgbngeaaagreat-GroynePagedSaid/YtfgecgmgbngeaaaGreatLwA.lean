/- Plain facts behind the law GroynePaged: what a pool leaves on a drive, and what a pool opened on it has. -/
import Derived.Test.YtfgecgmgbngeaaaGreatJnM
set_option maxRecDepth 100000
namespace Go.Proofs.YtfgecgmgbngeaaaGreat
open Go.RowKit Go.Maps
set_option linter.unusedVariables false
set_option linter.unusedSimpArgs false

theorem ChkL.kv {ks vs : List (List UInt8)} {nk : Nat} (h : ChkL ks vs nk) : GoodKV (ks.zip vs) ∧ ksL (ks.zip vs) = ks ∧ vsL (ks.zip vs) = vs ∧ (ks.zip vs).length = ks.length := by
  refine ⟨⟨fun p hp => ?_, fun i p q hp hq => ?_⟩, ?_, ?_, ?_⟩
  · obtain ⟨a, b⟩ := p
    have := List.of_mem_zip hp
    exact ⟨h.k _ this.1, h.v _ this.2⟩
  · have h1 := (List.getElem?_zip_eq_some.1 hp).1
    have h2 := (List.getElem?_zip_eq_some.1 hq).1
    exact h.up i _ _ h1 h2
  · exact List.map_fst_zip (by rw [h.e]; exact Nat.le_refl _)
  · exact List.map_snd_zip (by rw [h.e]; exact Nat.le_refl _)
  · rw [List.length_zip, h.e, Nat.min_self]
theorem GoodKV.of_flat : ∀ {L : List (List KV)}, GoodKV L.flatten → ∀ x ∈ L, GoodKV x
  | y :: L, h, x, hx => by
    rw [List.flatten_cons] at h
    rcases List.mem_cons.1 hx with rfl | hx
    · have := h.take x.length
      rwa [List.take_left'] at this
      rfl
    · have := h.drop y.length
      rw [List.drop_left' rfl] at this
      exact GoodKV.of_flat this x hx
theorem PG.new_ {pre : ByteArray} {sf : List (Int × Int)} (hs : SafeM sf []) : PG pre ⟨noF, noF, [], none, false⟩ [] sf [] [] none :=
  ⟨PInv.new, hs, rfl, fun x hx => by simp at hx, rfl, fun _ => rfl, by simp [noF], fun k => by simp [noF], fun x e => by cases e⟩
section
variable {pre : ByteArray} {S : DSt} {sl tab : Slots} {sf : List (Int × Int)} {at_ : Ats} {sv : Option (List UInt8 × (Nat → List UInt8))}
theorem PG.armed (h : PG pre S sl sf at_ tab sv) (a : Option Nat) : PG pre ⟨S.safe, S.seen, S.queue, a, S.dead⟩ sl sf at_ tab sv := ⟨h.inv, h.sf, h.dead, h.out, h.seen, h.nt, h.mt, h.bs, h.hold⟩
theorem PG.free_ (h : PG pre S sl sf at_ tab sv) (i : Nat) : PG pre S (aDel klI i sl) sf (aDel klI i at_) tab sv := ⟨(h.inv.free i).1, h.sf, h.dead, h.out, h.seen, h.nt, h.mt, h.bs, h.hold⟩
/-- the files hold the pages of l -/
def Kept (pre : ByteArray) (l : List KV) (f : Fls) : Prop :=
  ∃ (tab : Slots) (ct : Nat → List UInt8) (PL : List (List KV)), TabOk tab ∧ Holds (nf pre) (nm pre) (metaB tab) tab ct f ∧ tab.map (·.1) = List.range PL.length ∧ (∀ (j : Nat) (x : List KV), PL[j]? = some x → ct j = pageKV x) ∧ PL.flatten = l ∧ (∀ x ∈ PL, sizeKV x ≤ 512) ∧ PL.length ≤ l.length + 1 ∧ PL ≠ []
theorem Kept.of {l : List KV} {PL : List (List KV)} {ct : Nat → List UInt8} {tb : Slots} {f : Fls} (hL : LaidP l l.length PL pre S sl at_) (hne : PL ≠ []) (ht : TabOk tb) (hk : tb.map (·.1) = sl.map (·.1)) (hct : ∀ p ∈ tb, ct p.1 = cont ((S.seen (nf pre)).getD []) sl at_ p.1) (hH : Holds (nf pre) (nm pre) (metaB tb) tb ct f) : Kept pre l f := by
  have hk' := hk.trans hL.keys
  refine ⟨tb, ct, PL, ht, hH, hk', fun j x hx => ?_, by rw [hL.flat, List.take_length], hL.size, hL.n, hne⟩
  have hj := (List.getElem?_eq_some_iff.1 hx).1
  have hm : j ∈ tb.map (·.1) := by rw [hk']; exact List.mem_range.2 hj
  obtain ⟨p, hp, e⟩ := List.mem_map.1 hm
  have e : p.1 = j := e
  have h1 := hct p hp
  rw [e] at h1
  rw [h1]; exact hL.ct j x hx
/-- what a crash may leave, and that it may be done -/
structure Ends (pre : ByteArray) (S : DSt) (R : Fls → Prop) : Prop where
  bs : BndF S.safe
  dq : ∀ x ∈ S.queue, DeedB (supP pre) x
  un : unitsQ S.queue ≤ 1000000000
  rk : ∀ k, R (crashF S.safe S.queue k)
theorem PDead.ends {R R' : Fls → Prop} (h : PDead pre S R) (hr : ∀ f, R f → R' f) : Ends pre S R' := ⟨h.bs, h.dq, h.un, fun k => hr _ (h.rk k)⟩
theorem PG.ends {R : Fls → Prop} (h : PG pre S sl sf at_ tab sv) (hq : S.queue = []) (hr : R S.safe) : Ends pre S R := ⟨h.bs, fun x hx => by rw [hq] at hx; simp at hx, by rw [hq]; simp [unitsQ], fun k => by rw [hq]; exact hr⟩
theorem Ends.bnd {R : Fls → Prop} (h : Ends pre S R) (k : Nat) : BndF (crashF S.safe S.queue k) := crash_inv k h.bs fun x hx f n hf => hf.app (h.dq x hx) n
/-- a pool opened on files that hold pages -/
theorem Kept.pg {l : List KV} {f : Fls} (h : Kept pre l f) (hb : BndF f) :
    ∃ (tab : Slots) (PL : List (List KV)), TabOk tab ∧ f (nm pre) = some (metaB tab) ∧ (∀ p ∈ tab, 0 ≤ p.2 → (p.2.toNat + 1) * 512 ≤ ((f (nf pre)).getD []).length) ∧ ((f (nf pre)).getD []).length ≤ 67109376 ∧ tab.map (·.1) = List.range PL.length ∧ PL.flatten = l ∧ (∀ x ∈ PL, sizeKV x ≤ 512) ∧ PL.length ≤ l.length + 1 ∧
      (∀ (j : Nat) (x : List KV), PL[j]? = some x → cont ((f (nf pre)).getD []) tab [] j = pageKV x) ∧ ∀ sf, SafeM sf tab → PG pre ⟨f, f, [], none, false⟩ tab sf [] tab none := by
  obtain ⟨tab, ct, PL, ht, hH, hk, hct, hfl, hsz, hn, hne⟩ := h
  have hbig := hb (nf pre)
  obtain ⟨hI, hc⟩ := PInv.of_holds hH ht.rs ht.lo ht.one ht.ids ht.n hbig
  refine ⟨tab, PL, ht, hH.tb, hH.fit, hbig, hk, hfl, hsz, hn, fun j x hx => ?_, fun sf hsf => ⟨hI, hsf, rfl, fun x hx => by simp at hx, rfl, fun e => ?_, ?_, hb, fun x e => by cases e⟩⟩
  · have hj := (List.getElem?_eq_some_iff.1 hx).1
    have hm : j ∈ tab.map (·.1) := by rw [hk]; exact List.mem_range.2 hj
    obtain ⟨p, hp, e⟩ := List.mem_map.1 hm
    have e : p.1 = j := e
    have h1 := hc p hp
    rw [e] at h1
    rw [h1]; exact hct j x hx
  · rcases e with e | e
    · exact absurd rfl e
    · rw [e] at hk
      have : PL.length = 0 := by
        have := congrArg List.length hk
        simpa using this.symm
      exact absurd (List.eq_nil_of_length_eq_zero this) hne
  · show ((f (nm pre)).getD []).length ≤ 10000000
    rw [hH.tb, Option.getD_some]
    have := metaB_len tab ht.n
    omega
/-- a key is taken away from the front -/
theorem range_del {m k : Nat} {sl : Slots} (hr : Rise sl) (hk : sl.map (·.1) = (List.range m).drop k) (hkm : k < m) : (aDel klI k sl).map (·.1) = (List.range m).drop (k + 1) := by
  have hd : (List.range m).drop k = k :: (List.range m).drop (k + 1) := by
    rw [List.drop_eq_getElem_cons (by rw [List.length_range]; exact hkm), List.getElem_range]
  rw [hd] at hk
  cases sl with
  | nil => simp at hk
  | cons p r =>
    rw [List.map_cons] at hk
    injection hk with h1 h2
    have hne : ∀ q ∈ r, q.1 ≠ k := fun q hq => by
      have := (List.pairwise_cons.1 hr).1 q hq
      omega
    have e : aDel klI k (p :: r) = aDel klI k r := by
      unfold aDel
      rw [List.filter_cons, if_neg (by rw [h1, (keyI.same k k).2 rfl]; simp)]
    rw [e, del_none keyI hne]
    exact h2
end
end Go.Proofs.YtfgecgmgbngeaaaGreat
