/- Records in memory. Plain theorems, no walk. -/
import Derived.Test.YtpbgjldjipgfeaaRecL
import Derived.Test.YtpbgjldjipgfeaaBase
import Derived.Test.YtpbgjldjipgfeaaOpenI
namespace Go.Proofs.Ytpbgjldjipgfeaa
open Go.RowKit

/-- the slice value v reads as the writes (or the ranges) l -/
def RdW (w : World) (F : Nat → Prop) (v : Value) (l : List WrS) : Prop :=
  ∃ xs : List (Value × Value), xs.length = l.length ∧ RdV w F 3 v l.length ((xs.zip l).flatMap fun p => [p.1.1, p.1.2, .bool p.2.f]) ∧
    ∀ (i : Nat) (x : Value × Value) (y : WrS), xs[i]? = some x → l[i]? = some y → RdB w F x.1 y.a ∧ RdB w F x.2 y.b
section
variable {w w' : World} {F F' S : Nat → Prop} {v : Value} {l : List WrS}
theorem RdW.mono (h : RdW w F v l) (hF : ∀ k, F k → F' k) : RdW w F' v l := by
  obtain ⟨xs, h1, h2, h3⟩ := h
  exact ⟨xs, h1, h2.mono hF, fun i x y hx hy => ⟨(h3 i x y hx hy).1.mono hF, (h3 i x y hx hy).2.mono hF⟩⟩
theorem RdW.chg (h : RdW w F v l) (hc : Chg S w w') (hF : ∀ k, F k → ¬ S k) : RdW w' F v l := by
  obtain ⟨xs, h1, h2, h3⟩ := h
  exact ⟨xs, h1, h2.chg hc hF, fun i x y hx hy => ⟨(h3 i x y hx hy).1.chg hc hF, (h3 i x y hx hy).2.chg hc hF⟩⟩
theorem RdW.c0 (h : RdW w F v l) (hc : Chg Non w w') : RdW w' F v l := h.chg hc fun _ _ h => h
theorem RdW.nil_ (w : World) (F : Nat → Prop) : RdW w F (.slice none 0 0) [] := ⟨[], rfl, RdV.nil_ w F 3, fun i x y hx _ => by simp at hx⟩
theorem RdW.shape (h : RdW w F v l) : ∃ A c, v = .slice A l.length c ∧ l.length ≤ c ∧ c ≤ maxLen := by
  obtain ⟨xs, h1, h2, h3⟩ := h
  exact h2.shape
theorem flat3_get {α β : Type} (f0 f1 f2 : α → β) : ∀ (l : List α) (k i : Nat) (h : k < l.length), i < 3 → (l.flatMap fun p => [f0 p, f1 p, f2 p])[k * 3 + i]? = [f0 l[k], f1 l[k], f2 l[k]][i]?
  | a :: l, 0, i, _, hi => by
    rw [Nat.zero_mul, Nat.zero_add, List.flatMap_cons, List.getElem?_append_left (by simpa using hi)]
    rfl
  | a :: l, k + 1, i, h, hi => by
    rw [List.flatMap_cons, show (k + 1) * 3 + i = (k * 3 + i) + 3 by omega, List.getElem?_append_right (by simp)]
    simp only [List.length_cons, List.length_nil, Nat.zero_add, Nat.add_sub_cancel]
    rw [flat3_get f0 f1 f2 l k i (by simpa using h) hi]
    rfl
theorem RdW.at_ {A : Option Addr} {n c : Nat} (h : RdW w F (.slice A n c) l) {k : Nat} (hk : k < l.length) :
    ∃ ad a b, A = some ad ∧ F ad.block ∧ w.cell? (ad.add (k * 3)) = some a ∧ w.cell? ⟨(ad.add (k * 3)).block, (ad.add (k * 3)).off + 1, none⟩ = some b ∧ w.cell? ⟨(ad.add (k * 3)).block, (ad.add (k * 3)).off + 2, none⟩ = some (.bool l[k].f) ∧ RdB w F a l[k].a ∧ RdB w F b l[k].b := by
  obtain ⟨xs, h1, h2, h3⟩ := h
  obtain ⟨A', c', e, _, _⟩ := RdV.shape h2
  injection e with e1 e2 e3
  subst e1; subst e2; subst e3
  have hkx : k < xs.length := by omega
  have hz : k < (xs.zip l).length := by rw [List.length_zip]; omega
  have hg : (xs.zip l)[k] = (xs[k], l[k]) := by rw [List.getElem_zip]
  have hc := fun i (hi : i < 3) => flat3_get (fun p : (Value × Value) × WrS => p.1.1) (fun p => p.1.2) (fun p => Value.bool p.2.f) (xs.zip l) k i hz hi
  rw [hg] at hc
  obtain ⟨ad, u, hA, hf, hu, hcell⟩ := RdV.at_ h2 hk (i := 0) (by omega)
  obtain ⟨ad1, u1, hA1, _, hu1, hcell1⟩ := RdV.at_ h2 hk (i := 1) (by omega)
  obtain ⟨ad2, u2, hA2, _, hu2, hcell2⟩ := RdV.at_ h2 hk (i := 2) (by omega)
  rw [hA] at hA1 hA2
  injection hA1 with hA1
  injection hA2 with hA2
  subst hA1; subst hA2
  rw [hc 0 (by omega)] at hu
  rw [hc 1 (by omega)] at hu1
  rw [hc 2 (by omega)] at hu2
  simp at hu hu1 hu2
  subst hu; subst hu1; subst hu2
  obtain ⟨r1, r2⟩ := h3 k xs[k] l[k] (List.getElem?_eq_getElem hkx) (List.getElem?_eq_getElem hk)
  refine ⟨ad, _, _, hA, hf, ?_, ?_, ?_, r1, r2⟩
  · simpa using hcell
  · rw [← add_succ ad (k * 3) 1 (by omega)]; exact hcell1
  · rw [← add_succ ad (k * 3) 2 (by omega)]; exact hcell2
end
/-- the cells of a record -/
def recC (x : RcS) (wv rv sv pv : Value) : Array Value :=
  #[.int .i64 x.kind, .int .u64 (x.boot : Int), .int .u64 (x.sess : Int), .int .u64 (x.seq : Int), wv, rv, .bool x.commit, sv, pv, .int .u64 (x.id : Int), .string x.name]
/-- what the slices of a record read as -/
structure RecR (w : World) (F : Nat → Prop) (x : RcS) (wv rv sv pv : Value) : Prop where
  ws : RdW w F wv x.ws
  rs : RdW w F rv x.rs
  sh : RdI w F sv x.shards
  rep : RdB w F pv x.reply
  u1 : U64 x.boot
  u2 : U64 x.sess
  u3 : U64 x.seq
  u4 : U64 x.id
  ki : (Lit.int .i64 x.kind).wf = true
section
variable {w w' : World} {F F' S : Nat → Prop} {x : RcS} {wv rv sv pv : Value}
theorem RecR.chg (h : RecR w F x wv rv sv pv) (hc : Chg S w w') (hF : ∀ k, F k → ¬ S k) : RecR w' F x wv rv sv pv :=
  ⟨h.ws.chg hc hF, h.rs.chg hc hF, h.sh.chg hc hF, h.rep.chg hc hF, h.u1, h.u2, h.u3, h.u4, h.ki⟩
theorem RecR.c0 (h : RecR w F x wv rv sv pv) (hc : Chg Non w w') : RecR w' F x wv rv sv pv := h.chg hc fun _ _ h => h
theorem RecR.mono (h : RecR w F x wv rv sv pv) (hF : ∀ k, F k → F' k) : RecR w F' x wv rv sv pv :=
  ⟨h.ws.mono hF, h.rs.mono hF, RdV.mono h.sh hF, h.rep.mono hF, h.u1, h.u2, h.u3, h.u4, h.ki⟩
end
end Go.Proofs.Ytpbgjldjipgfeaa
