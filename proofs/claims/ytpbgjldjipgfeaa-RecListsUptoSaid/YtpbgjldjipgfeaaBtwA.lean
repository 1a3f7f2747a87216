/- Lists of records with their places. -/
import Derived.Test.YtpbgjldjipgfeaaTwn
import Derived.Test.YtpbgjldjipgfeaaCont
namespace Go.Proofs.Ytpbgjldjipgfeaa
open Go.RowKit
set_option linter.unusedVariables false

/-- the cells of a record with its place -/
def posL (x : RcS) (a b c d : Value) (t : Nat) : List Value := [.int .i64 x.kind, .int .u64 (x.boot : Int), .int .u64 (x.sess : Int), .int .u64 (x.seq : Int), a, b, .bool x.commit, c, d, .int .u64 (x.id : Int), .string x.name, .int .u64 (t : Int)]
abbrev Q4 := Value × Value × Value × Value
def flP (qs : List Q4) (ps : List (RcS × Nat)) : List Value := (qs.zip ps).flatMap fun z => posL z.2.1 z.1.1 z.1.2.1 z.1.2.2.1 z.1.2.2.2 z.2.2
theorem flP_app {q1 q2 : List Q4} {l1 l2 : List (RcS × Nat)} (h : q1.length = l1.length) : flP (q1 ++ q2) (l1 ++ l2) = flP q1 l1 ++ flP q2 l2 := by
  rw [flP, List.zip_append h, List.flatMap_append]; rfl
theorem flP_cons (q : Q4) (qs : List Q4) (p : RcS × Nat) (ps : List (RcS × Nat)) : flP (q :: qs) (p :: ps) = posL p.1 q.1 q.2.1 q.2.2.1 q.2.2.2 p.2 ++ flP qs ps := rfl
theorem flP_len : ∀ (qs : List Q4) (ps : List (RcS × Nat)), qs.length = ps.length → (flP qs ps).length = ps.length * 12
  | [], [], _ => rfl
  | [], _ :: _, h => by simp at h
  | _ :: _, [], h => by simp at h
  | q :: qs, p :: ps, h => by
    rw [flP_cons, List.length_append, flP_len qs ps (by simpa using h), List.length_cons]
    simp only [posL, List.length_cons, List.length_nil]
    omega
/-- each element's slices read as its record -/
def Recs (w : World) (F : Nat → Prop) (qs : List Q4) (ps : List (RcS × Nat)) : Prop := ∀ (i : Nat) (q : Q4) (p : RcS × Nat), qs[i]? = some q → ps[i]? = some p → RecR w F p.1 q.1 q.2.1 q.2.2.1 q.2.2.2 ∧ RcSm p.1
theorem Recs.c0 {w w' : World} {F : Nat → Prop} {qs : List Q4} {ps : List (RcS × Nat)} (h : Recs w F qs ps) (hc : Chg Non w w') : Recs w' F qs ps := fun i q p hq hp => ⟨(h i q p hq hp).1.c0 hc, (h i q p hq hp).2⟩
theorem Recs.at_ {w : World} {F : Nat → Prop} {q : Q4} {p : RcS × Nat} {q1 q2 : List Q4} {l1 l2 : List (RcS × Nat)} (h : Recs w F (q1 ++ q :: q2) (l1 ++ p :: l2)) (hl : q1.length = l1.length) : RecR w F p.1 q.1 q.2.1 q.2.2.1 q.2.2.2 ∧ RcSm p.1 :=
  h l1.length q p (by rw [List.getElem?_append_right (by omega), hl, Nat.sub_self]; rfl) (by rw [List.getElem?_append_right (by omega), Nat.sub_self]; rfl)
/-- the slice value v reads as the list ps -/
def RdP (w : World) (F : Nat → Prop) (v : Value) (ps : List (RcS × Nat)) : Prop := ∃ qs, qs.length = ps.length ∧ RdV w F 12 v ps.length (flP qs ps) ∧ Recs w F qs ps
/-- the same of a list of the call's own -/
def OwnP (w : World) (base : Nat) (v : Value) (qs : List Q4) (ps : List (RcS × Nat)) : Prop :=
  qs.length = ps.length ∧ w.ownsRow base 53 12 v ps.length (flP qs ps) ∧ ∀ (i : Nat) (q : Q4) (p : RcS × Nat), qs[i]? = some q → ps[i]? = some p → ∃ xs ys, RecOwn w base p.1 q.1 q.2.1 q.2.2.1 q.2.2.2 xs ys
theorem RecOwn.chg {w w' : World} {S : Nat → Prop} {base : Nat} {x : RcS} {a b c d : Value} {xs ys : List (Value × Value)} (h : RecOwn w base x a b c d xs ys) (hc : Chg S w w')
    (h1 : ∀ k, a.ownBlock = some k → ¬ S k) (h2 : ∀ k, b.ownBlock = some k → ¬ S k) (h3 : ∀ k, c.ownBlock = some k → ¬ S k) (h4 : ∀ p ∈ pcW xs x.ws ++ pcW ys x.rs ++ [(d, x.reply)], ∀ k, p.1.ownBlock = some k → ¬ S k) : RecOwn w' base x a b c d xs ys :=
  ⟨h.wl, h.rl, row_chg h.ws hc h1, row_chg h.rs hc h2, row_chg h.sh hc h3, h.ps.chg' hc h4⟩
theorem RecOwn.c0 {w w' : World} {base : Nat} {x : RcS} {a b c d : Value} {xs ys : List (Value × Value)} (h : RecOwn w base x a b c d xs ys) (hc : Chg Non w w') : RecOwn w' base x a b c d xs ys :=
  h.chg hc (fun _ _ h => h) (fun _ _ h => h) (fun _ _ h => h) (fun _ _ _ _ h => h)
theorem RecOwn.low {w : World} {base b0 : Nat} {x : RcS} {a b c d : Value} {xs ys : List (Value × Value)} (h : RecOwn w base x a b c d xs ys) (hb : b0 ≤ base) : RecOwn w b0 x a b c d xs ys :=
  ⟨h.wl, h.rl, row_low h.ws hb, row_low h.rs hb, row_low h.sh hb, h.ps.low hb⟩
/-- a change of a row of places leaves it -/
theorem RecOwn.row {w w' wz : World} {base b2 n : Nat} {x : RcS} {a b c d u : Value} {xs ys : List (Value × Value)} {zs : List Value} (h : RecOwn w base x a b c d xs ys) (hr : w.ownsRow b2 53 12 u n zs) (hc : Chg (fun k => some k = u.ownBlock) w w') : RecOwn w' base x a b c d xs ys :=
  h.chg hc (own_ne2 h.ws hr (by decide)) (own_ne2 h.rs hr (by decide)) (own_ne2 h.sh hr (by decide)) (fun p hp => own_ne2 (h.ps.1 p hp) hr (by decide))
theorem OwnP.c0 {w w' : World} {base : Nat} {v : Value} {qs : List Q4} {ps : List (RcS × Nat)} (h : OwnP w base v qs ps) (hc : Chg Non w w') : OwnP w' base v qs ps :=
  ⟨h.1, row_chg h.2.1 hc (fun _ _ h => h), fun i q p hq hp => by obtain ⟨xs, ys, h3⟩ := h.2.2 i q p hq hp; exact ⟨xs, ys, h3.c0 hc⟩⟩
theorem RecOwn.sl2 {w : World} {base : Nat} {x : RcS} {a b c d : Value} {xs ys : List (Value × Value)} (h : RecOwn w base x a b c d xs ys) : (∃ A n c, a = .slice A n c) ∧ (∃ A n c, b = .slice A n c) ∧ (∃ A n e, c = .slice A n e) ∧ ∃ A n c, d = .slice A n c :=
  ⟨RdV.sl (RdV.of_own h.ws), RdV.sl (RdV.of_own h.rs), RdV.sl (RdV.of_own h.sh), (h.ps.1 (d, x.reply) (by simp)).sl⟩
theorem OwnP.nil_ (w : World) (base : Nat) : OwnP w base (.slice none 0 0) [] [] := ⟨rfl, World.ownsRow_nil _ _ _ 12, fun i q p hq _ => by simp at hq⟩
theorem OwnP.snoc {w w' : World} {base : Nat} {v v' : Value} {qs : List Q4} {ps : List (RcS × Nat)} {x : RcS} {a b c d : Value} {t : Nat} {xs ys : List (Value × Value)} (h : OwnP w base v qs ps) (hx : RecOwn w base x a b c d xs ys)
    (ho : w'.ownsRow base 53 12 v' (ps.length + 1) (flP qs ps ++ posL x a b c d t)) (hg : Chg (fun k => some k = v.ownBlock) w w') : OwnP w' base v' (qs ++ [(a, b, c, d)]) (ps ++ [(x, t)]) := by
  refine ⟨by simp [h.1], by rw [flP_app h.1, List.length_append]; exact ho, fun i q p hq hp => ?_⟩
  rcases Nat.lt_or_ge i ps.length with hi | hi
  · rw [List.getElem?_append_left (by have := h.1; omega)] at hq
    rw [List.getElem?_append_left hi] at hp
    obtain ⟨xs, ys, h3⟩ := h.2.2 i q p hq hp
    exact ⟨xs, ys, h3.row (wz := w) h.2.1 hg⟩
  · rw [List.getElem?_append_right (by have := h.1; omega)] at hq
    rw [List.getElem?_append_right hi] at hp
    have h1 := h.1
    rw [h1] at hq
    generalize i - ps.length = j at hq hp
    match j, hq, hp with
    | 0, hq, hp =>
      simp at hq hp
      subst hq; subst hp
      exact ⟨xs, ys, hx.row (wz := w) h.2.1 hg⟩
    | j + 1, hq, hp => simp at hq
theorem pos_at {w : World} {F : Nat → Prop} {n m cp k : Nat} {Ad : Option Addr} {X Y : List Value} {x : RcS} {a b c d : Value} {t : Nat} (h : RdV w F 12 (.slice Ad n cp) m (X ++ (posL x a b c d t ++ Y))) (hX : X.length = k * 12) :
    ∃ ad, Ad = some ad ∧ w.cell? (ad.add (k * 12)) = some (.int .i64 x.kind) ∧ w.cell? ⟨(ad.add (k * 12)).block, (ad.add (k * 12)).off + 1, none⟩ = some (.int .u64 (x.boot : Int)) ∧ w.cell? ⟨(ad.add (k * 12)).block, (ad.add (k * 12)).off + 2, none⟩ = some (.int .u64 (x.sess : Int)) ∧ w.cell? ⟨(ad.add (k * 12)).block, (ad.add (k * 12)).off + 3, none⟩ = some (.int .u64 (x.seq : Int)) ∧ w.cell? ⟨(ad.add (k * 12)).block, (ad.add (k * 12)).off + 4, none⟩ = some (a) ∧ w.cell? ⟨(ad.add (k * 12)).block, (ad.add (k * 12)).off + 5, none⟩ = some (b) ∧ w.cell? ⟨(ad.add (k * 12)).block, (ad.add (k * 12)).off + 6, none⟩ = some (.bool x.commit) ∧ w.cell? ⟨(ad.add (k * 12)).block, (ad.add (k * 12)).off + 7, none⟩ = some (c) ∧ w.cell? ⟨(ad.add (k * 12)).block, (ad.add (k * 12)).off + 8, none⟩ = some (d) ∧ w.cell? ⟨(ad.add (k * 12)).block, (ad.add (k * 12)).off + 9, none⟩ = some (.int .u64 (x.id : Int)) ∧ w.cell? ⟨(ad.add (k * 12)).block, (ad.add (k * 12)).off + 10, none⟩ = some (.string x.name) ∧ w.cell? ⟨(ad.add (k * 12)).block, (ad.add (k * 12)).off + 11, none⟩ = some (.int .u64 (t : Int)) := by
  obtain ⟨h1, A', c', e, _, _, h2⟩ := h
  injection e with e1 e2 e3
  subst e1
  have hpos : 0 < m := by simp [posL] at h1; omega
  obtain ⟨ad, e, _, hc⟩ := h2 hpos
  subst e
  have key : ∀ i u, i < 12 → (posL x a b c d t)[i]? = some u → w.cell? (ad.add (k * 12 + i)) = some u := fun i u hi hu => hc _ _ (by
    rw [← hX, List.getElem?_append_right (by omega), show X.length + i - X.length = i by omega, List.getElem?_append_left (by simp only [posL, List.length_cons, List.length_nil]; omega)]
    exact hu)
  refine ⟨ad, rfl, ?_, ?_, ?_, ?_, ?_, ?_, ?_, ?_, ?_, ?_, ?_, ?_⟩
  · exact key 0 _ (by omega) rfl
  · rw [← add_succ ad (k * 12) 1 (by omega)]; exact key 1 _ (by omega) rfl
  · rw [← add_succ ad (k * 12) 2 (by omega)]; exact key 2 _ (by omega) rfl
  · rw [← add_succ ad (k * 12) 3 (by omega)]; exact key 3 _ (by omega) rfl
  · rw [← add_succ ad (k * 12) 4 (by omega)]; exact key 4 _ (by omega) rfl
  · rw [← add_succ ad (k * 12) 5 (by omega)]; exact key 5 _ (by omega) rfl
  · rw [← add_succ ad (k * 12) 6 (by omega)]; exact key 6 _ (by omega) rfl
  · rw [← add_succ ad (k * 12) 7 (by omega)]; exact key 7 _ (by omega) rfl
  · rw [← add_succ ad (k * 12) 8 (by omega)]; exact key 8 _ (by omega) rfl
  · rw [← add_succ ad (k * 12) 9 (by omega)]; exact key 9 _ (by omega) rfl
  · rw [← add_succ ad (k * 12) 10 (by omega)]; exact key 10 _ (by omega) rfl
  · rw [← add_succ ad (k * 12) 11 (by omega)]; exact key 11 _ (by omega) rfl

theorem info_P1 : (Try.prog.info? 53).map (fun i => (i.zero, i.size, i.bytes)) = some (some (.agg #[.int .i64 0, .int .u64 0, .int .u64 0, .int .u64 0, .slice none 0 0, .slice none 0 0, .bool false, .slice none 0 0, .slice none 0 0, .int .u64 0, .string ⟨#[]⟩, .int .u64 0]), 12, 168) := by kernel_rfl
/-- append of one place, that stands in a literal's block, in a region that draws its order -/
theorem step_P1 {w : World} {ops : Array Oper} {o : Oper} {a : Act} {K : Act → World → Prop} {Q : Exit → Act → World → Prop} {E : Prop} (hgd : o.guard = none) (s y : Operand)
    (ho : o.op = .call { callee := .builtin .append, args := #[s, y], argTypes := #[50, 50] })
    {base : Nat} {v : Value} {xs : List Value} {n : Nat} (hown : w.ownsRow base 53 12 v n xs) (hv : a.eval s = v)
    {x : RcS} {p q r z : Value} {t : Nat} (hp : ∃ A n c, p = .slice A n c) (hq : ∃ A n c, q = .slice A n c) (hr' : ∃ A n c, r = .slice A n c) (hz' : ∃ A n c, z = .slice A n c)
    {g : Nat} (hg : Blk w g 53 #[.int .i64 x.kind, .int .u64 (x.boot : Int), .int .u64 (x.sess : Int), .int .u64 (x.seq : Int), p, q, .bool x.commit, r, z, .int .u64 (x.id : Int), .string x.name, .int .u64 (t : Int)]) (hy : a.eval y = .slice (some ⟨g, 0, none⟩) 1 1)
    (hb : n + 1 ≤ 100000000000) (hbase : base ≤ w.heap.size)
    (h : ∀ v' w', w'.ownsRow base 53 12 v' (n + 1) (xs ++ posL x p q r z t) → w.grownBy w' v.ownBlock → K (a.put o.dst v') w') :
    if Region.wanted o (yielded ops a.tmps) = true then Oper.wp Try.prog o a w K Q else E := by
  have hw : Region.wanted o (yielded ops a.tmps) = true := by simp [Region.wanted, hgd]
  rw [if_pos hw]
  obtain ⟨i, hi, hz, h1, h2⟩ := info_parts info_P1
  have hr : RdV w (fun _ => True) 12 (.slice (some ⟨g, 0, none⟩) 1 1) 1 (posL x p q r z t) := ⟨rfl, _, 1, rfl, Nat.le_refl _, by simp [maxLen], fun _ => ⟨_, rfl, trivial, fun j y hyj => by
    rw [add_none, hg.cell, Nat.zero_add]
    rw [← hyj]; exact List.getElem?_toArray⟩⟩
  subst hv
  rw [← hy] at hr
  obtain ⟨_, _, _, rfl⟩ := hp
  obtain ⟨_, _, _, rfl⟩ := hq
  obtain ⟨_, _, _, rfl⟩ := hr'
  obtain ⟨_, _, _, rfl⟩ := hz'
  refine wp_append_rd w s y _ ho base 53 i _ 12 168 Try.underlying50 hi hz h1 h2 rfl (by omega) _ _ hown _ _ _ hr (fun y hy => by simp [posL] at hy; rcases hy with rfl | rfl | rfl | rfl | rfl | rfl | rfl | rfl | rfl | rfl | rfl | rfl <;> rfl) (by simp only [maxLen]; omega) (by omega) hbase ?_
  intro v' w' hown' hgr _ hat
  exact h v' w' hown' hgr
end Go.Proofs.Ytpbgjldjipgfeaa
