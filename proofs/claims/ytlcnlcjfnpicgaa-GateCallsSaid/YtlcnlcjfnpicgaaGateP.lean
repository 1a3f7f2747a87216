/- The gate and the document's gate, side by side; and what a call of both does to their state. -/
import Derived.Test.YtlcnlcjfnpicgaaGate6
import Derived.Test.YtlcnlcjfnpicgaaGateR7
import Derived.Test.YtlcnlcjfnpicgaaGate9
import Derived.Test.YtlcnlcjfnpicgaaAwake20
namespace Go.Proofs.Ytlcnlcjfnpicgaa
open Go.RowKit Go.Maps

theorem GateAt.chgw {S : Nat → Prop} {w w' : World} {base g : Nat} {mp rv : Value} {s : GSt} (h : GateAt w base g mp rv s) (hc : Chg S w w') (hS : ∀ k, GW g mp rv k → ¬ S k) : GateAt w' base g mp rv s := by
  refine ⟨h.le, h.blk.chg hc (hS g (.inl rfl)), ?_, h.ne, ?_, h.len, h.n20⟩
  · refine ⟨h.own.1, ?_⟩
    rcases h.own.2 with hn | ⟨b, cap, cur, rfl, hb, hg, rest⟩
    · exact .inl hn
    · exact .inr ⟨b, cap, cur, rfl, hb, hc.heap hg (hS b (.inr (.inr rfl))), rest⟩
  · rcases h.map with hm | ⟨B, e, hB, hBg, hr, hm⟩
    · exact .inl hm
    · exact .inr ⟨B, e, hB, hBg, hr, hm.chg hc (hS B (.inr (.inl e)))⟩
/-- the gate at g stands in the state s, the document's gate v in the state t; none of the two touches X -/
structure Pair (X : Nat → Prop) (b : Nat) (w0 w : World) (g : Nat) (mp rv v : Value) (s t : GSt) : Prop where
  ga : GateAt w b g mp rv s
  ra : ∃ F mw rw, RefAt w F v mw rw t ∧ ∀ k, F k → k < w.heap.size ∧ ¬ GW g mp rv k ∧ ¬ X k
  c : Chg (fun k => b ≤ k ∧ ¬ X k) w0 w
  xl : ∀ k, X k → k < w.heap.size
  xg : ∀ k, X k → ¬ GW g mp rv k
theorem Pair.c0 {X : Nat → Prop} {b : Nat} {w0 w w' : World} {g : Nat} {mp rv v : Value} {s t : GSt} (h : Pair X b w0 w g mp rv v s t) (hc : Chg Non w w') : Pair X b w0 w' g mp rv v s t := by
  obtain ⟨ga, ⟨F, mw, rw, hr, hF⟩, c, xl, xg⟩ := h
  exact ⟨ga.c0 hc, ⟨F, mw, rw, hr.c0 hc, fun k hk => ⟨Nat.lt_of_lt_of_le (hF k hk).1 hc.size, (hF k hk).2⟩⟩, c.trans0 hc, fun k hk => Nat.lt_of_lt_of_le (xl k hk) hc.size, xg⟩
theorem Pair.weak {X X' : Nat → Prop} {b : Nat} {w0 w : World} {g : Nat} {mp rv v : Value} {s t : GSt} (h : Pair X b w0 w g mp rv v s t) (hX : ∀ k, X' k → X k) : Pair X' b w0 w g mp rv v s t := by
  obtain ⟨ga, ⟨F, mw, rw, hr, hF⟩, c, xl, xg⟩ := h
  exact ⟨ga, ⟨F, mw, rw, hr, fun k hk => ⟨(hF k hk).1, (hF k hk).2.1, fun hx => (hF k hk).2.2 (hX k hx)⟩⟩, c.mono fun k _ hk => ⟨hk.1, fun hx => hk.2 (hX k hx)⟩, fun k hk => xl k (hX k hk), fun k hk => xg k (hX k hk)⟩
/-- what is made beside the two is fenced off -/
theorem Pair.fence {X : Nat → Prop} {b : Nat} {w0 w w' : World} {g : Nat} {mp rv v : Value} {s t : GSt} (h : Pair X b w0 w g mp rv v s t) (hc : Chg Non w w') : Pair (fun k => X k ∨ (w.heap.size ≤ k ∧ k < w'.heap.size)) b w0 w' g mp rv v s t := by
  have h' := h.c0 hc
  obtain ⟨ga, ⟨F, mw, rw, hr, hF⟩, c, xl, xg⟩ := h
  refine ⟨h'.ga, ⟨F, mw, rw, hr.c0 hc, fun k hk => ⟨Nat.lt_of_lt_of_le (hF k hk).1 hc.size, (hF k hk).2.1, fun hx => ?_⟩⟩, h'.c.mono (fun k hlt hk => ⟨hk.1, fun hx => hx.elim hk.2 fun hx => by have := c.size; omega⟩), fun k hk => ?_, fun k hk hg => ?_⟩
  · rcases hx with hx | hx
    · exact (hF k hk).2.2 hx
    · have := (hF k hk).1; omega
  · rcases hk with hk | hk
    · exact Nat.lt_of_lt_of_le (xl k hk) hc.size
    · exact hk.2
  · rcases hk with hk | hk
    · exact xg k hk hg
    · have := (ga.gw hg).2; omega
/-- stores behind the fence -/
theorem Pair.chg {X S : Nat → Prop} {b : Nat} {w0 w w' : World} {g : Nat} {mp rv v : Value} {s t : GSt} (h : Pair X b w0 w g mp rv v s t) (hc : Chg S w w') (hS : ∀ k, S k → X k ∧ w0.heap.size ≤ k) : Pair X b w0 w' g mp rv v s t := by
  obtain ⟨ga, ⟨F, mw, rw, hr, hF⟩, c, xl, xg⟩ := h
  refine ⟨ga.chgw hc fun k hk hs => xg k (hS k hs).1 hk, ⟨F, mw, rw, hr.chg hc fun k hk hs => (hF k hk).2.2 (hS k hs).1, fun k hk => ⟨Nat.lt_of_lt_of_le (hF k hk).1 hc.size, (hF k hk).2⟩⟩, c.trans hc (fun k hk hs => by have := (hS k hs).2; omega), fun k hk => Nat.lt_of_lt_of_le (xl k hk) hc.size, xg⟩
/-- a step of the gate -/
theorem Pair.gate {X : Nat → Prop} {b : Nat} {w0 w w' : World} {g : Nat} {mp rv mp' rv' v : Value} {s s' t : GSt} (h : Pair X b w0 w g mp rv v s t) (hg : GateAt w' b g mp' rv' s') (hs : Stp w w' g mp rv mp' rv') : Pair X b w0 w' g mp' rv' v s' t := by
  obtain ⟨ga, ⟨F, mw, rw, hr, hF⟩, c, xl, xg⟩ := h
  refine ⟨hg, ⟨F, mw, rw, hr.chg hs.chg fun k hk => (hF k hk).2.1, fun k hk => ⟨Nat.lt_of_lt_of_le (hF k hk).1 hs.chg.size, fun hn => ?_, (hF k hk).2.2⟩⟩, c.trans hs.chg (fun k _ hk => ⟨(ga.gw hk).1, fun hx => xg k hx hk⟩), fun k hk => Nat.lt_of_lt_of_le (xl k hk) hs.chg.size, fun k hk hn => ?_⟩
  · rcases hs.new k hn with h1 | h1
    · exact (hF k hk).2.1 h1
    · have := (hF k hk).1; omega
  · rcases hs.new k hn with h1 | h1
    · exact xg k hk h1
    · have := xl k hk; omega
/-- a step of the document's gate -/
theorem Pair.mkref {X : Nat → Prop} {b : Nat} {w0 w w' : World} {g : Nat} {mp rv v v' mw rw : Value} {s t t' : GSt} {F : Nat → Prop} (h : Pair X b w0 w g mp rv v s t) (hF : ∀ k, F k → k < w.heap.size ∧ ¬ GW g mp rv k ∧ ¬ X k)
    (hr : RefAt w' (fun k => F k ∨ w.heap.size ≤ k) v' mw rw t') (hc : Chg Non w w') : Pair X b w0 w' g mp rv v' s t' := by
  have hr2 := hr.lt
  refine ⟨h.ga.c0 hc, ⟨_, mw, rw, hr2, fun k hk => ⟨hk.2, fun hn => ?_, fun hx => ?_⟩⟩, h.c.trans0 hc, fun k hk => Nat.lt_of_lt_of_le (h.xl k hk) hc.size, h.xg⟩
  · rcases hk.1 with h1 | h1
    · exact (hF k h1).2.1 hn
    · have := (h.ga.gw hn).2; omega
  · rcases hk.1 with h1 | h1
    · exact (hF k h1).2.2 hx
    · have := h.xl k hx; omega
/-- from here on -/
theorem Pair.reset {X : Nat → Prop} {b : Nat} {w0 w : World} {g : Nat} {mp rv v : Value} {s t : GSt} (h : Pair X b w0 w g mp rv v s t) : Pair X b w w g mp rv v s t := ⟨h.ga, h.ra, Chg.refl _ _, h.xl, h.xg⟩
theorem Pair.join {X : Nat → Prop} {b : Nat} {w0 w w' : World} {g : Nat} {mp rv v mp' rv' v' : Value} {s t s' t' : GSt} (h : Pair X b w0 w g mp rv v s t) (h' : Pair X b w w' g mp' rv' v' s' t') : Pair X b w0 w' g mp' rv' v' s' t' :=
  ⟨h'.ga, h'.ra, h.c.trans h'.c fun _ _ h => h, h'.xl, h'.xg⟩
/-- the document's gate, laid out -/
theorem Pair.shape {X : Nat → Prop} {b : Nat} {w0 w : World} {g : Nat} {mp rv v : Value} {s t : GSt} (h : Pair X b w0 w g mp rv v s t) :
    ∃ A c B d, v = .agg #[.int .i64 t.p, .bool t.shut, .bool t.cut, .int .u64 (t.id : Int), .string t.name, .int .u64 (t.at_ : Int), .int .i64 t.age, .slice A t.n c, .slice B t.res.length d] := by
  obtain ⟨F, mw, rw, hr, hF⟩ := h.ra
  obtain ⟨A, c, rfl, _⟩ := hr.m.shape
  obtain ⟨B, d, rfl, _⟩ := hr.r.shape
  exact ⟨A, c, B, d, hr.v⟩

def beginS (s : GSt) (id : Nat) (name : ByteArray) : GSt := { s with shut := true, cut := false, id := id, name := name, at_ := 0, age := 0, ms := List.replicate s.n none }
def beginP (s : GSt) (id : Nat) (name : ByteArray) : GSt := if s.shut = true then s else beginS s id name
def beginE (s : GSt) : Int := if s.shut = true then 14 else 0
/-- the bounds that a play keeps -/
structure Fit (s : GSt) (j : Nat) : Prop where
  res : s.res.length ≤ j
  age : 0 ≤ s.age ∧ s.age ≤ j
  p : 1 ≤ s.p
  at_ : U64 s.at_
  cl : s.shut = true → s.cut = false → s.ms = List.replicate s.n none
structure ActS where
  kind : Int
  shard : Int
  answer : Int
  err : Int
  id : Nat
  at_ : Nat
  name : ByteArray
def actC (a : ActS) : Array Value := #[.int .i64 a.kind, .int .i64 a.shard, .int .i64 a.answer, .int .i64 a.err, .int .u64 (a.id : Int), .int .u64 (a.at_ : Int), .string a.name]
def playS (s : GSt) (a : ActS) : GSt :=
  if a.kind = 1 then beginP s a.id a.name
  else if a.kind = 2 then logS s a.at_
  else if a.kind = 3 then answerS s a.shard a.answer a.id a.err a.at_
  else if a.kind = 4 then tickS s
  else if a.kind = 5 then endS s 17
  else if a.kind = 6 then { s with res := [] }
  else s
theorem Fit.mono {s : GSt} {i j : Nat} (h : Fit s i) (hij : i ≤ j) : Fit s j := ⟨Nat.le_trans h.res hij, ⟨h.age.1, by have := h.age.2; omega⟩, h.p, h.at_, h.cl⟩
theorem Fit.play {s : GSt} {j : Nat} (h : Fit s j) (a : ActS) (ha : U64 a.at_) : Fit (playS s a) (j + 1) := by
  have h' := h.mono (Nat.le_succ j)
  have hl := h.res
  have ha1 := h.age.1
  have ha2 := h.age.2
  unfold playS
  split
  · unfold beginP
    split
    · exact h'
    · exact ⟨h'.res, ⟨Int.le_refl _, by show (0 : Int) ≤ _; omega⟩, h'.p, by show (0 : Nat) < _; omega, fun _ _ => rfl⟩
  split
  · unfold logS
    split
    · exact ⟨h'.res, h'.age, h'.p, ha, fun _ hc => by cases hc⟩
    · split
      · exact ⟨by simp; omega, h'.age, h'.p, h'.at_, fun hc _ => by cases hc⟩
      · exact h'
  split
  · unfold answerS
    split
    · rename_i hk
      exact ⟨h'.res, h'.age, h'.p, h'.at_, fun _ hc => by have := hk.1.2.1; rw [show s.cut = false from hc] at this; cases this⟩
    · exact h'
  split
  · unfold tickS
    split
    · exact h'
    · split
      · exact ⟨by simp; omega, ⟨by show (0 : Int) ≤ s.age + 1; omega, by show s.age + 1 ≤ _; omega⟩, h'.p, h'.at_, fun hc _ => by cases hc⟩
      · exact ⟨h'.res, ⟨by show (0 : Int) ≤ s.age + 1; omega, by show s.age + 1 ≤ _; omega⟩, h'.p, h'.at_, h'.cl⟩
  split
  · unfold endS
    split
    · exact h'
    · exact ⟨by simp; omega, h'.age, h'.p, h'.at_, fun hc _ => by cases hc⟩
  split
  · exact ⟨Nat.zero_le _, h'.age, h'.p, h'.at_, h'.cl⟩
  · exact h'
theorem mh_none (n i : Nat) : mh (List.replicate n none) i = false := by
  unfold mh
  rw [List.getElem?_replicate]
  split <;> rfl
theorem Fit.miss {s : GSt} {j : Nat} (h : Fit s j) (hw : wantsS s = 1) : (missS s.ms s.n).length = s.n := by
  have hs := wants_shut (s := s) (by omega)
  have hc : s.cut = false := by
    cases hc : s.cut
    · rfl
    · unfold wantsS at hw
      rw [if_neg (by rw [hs]; decide), if_neg (by rw [hc]; decide)] at hw
      split at hw <;> omega
  rw [h.cl hs hc, missS, List.filter_eq_self.2 (by intro i _; rw [mh_none]; rfl)]
  simp
theorem playS_p (s : GSt) (a : ActS) : (playS s a).p = s.p := by
  unfold playS logS answerS tickS endS beginP beginS
  repeat' split
  all_goals rfl

section
variable {X : Nat → Prop} {b : Nat} {w0 w : World} {g : Nat} {mp rv v : Value} {s t : GSt}
theorem pairGateBegin (h : Pair X b w0 w g mp rv v s t) (id : Nat) (name : ByteArray) :
    Calls Try.prog 17 #[.pointer (some ⟨g, 0, none⟩), .int .u64 (id : Int), .string name] w fun e w' => e = .returned (.int .i64 (beginE s)) ∧
      ∃ mp' rv', Pair X b w0 w' g mp' rv' v (beginP s id name) t ∧ Stp w w' g mp rv mp' rv' := by
  unfold beginP beginE
  cases hs : s.shut
  · refine (gateBegin (id := id) (name := name) h.ga hs).mono ?_
    rintro e w' ⟨rfl, mp', h', st⟩
    exact ⟨rfl, mp', rv, h.gate h' st, st⟩
  · refine (gateBusy (id := id) (name := name) h.ga hs).mono ?_
    rintro e w' ⟨rfl, rfl⟩
    exact ⟨rfl, mp, rv, h, Stp.refl _ _ _ _⟩
theorem pairRefBegin (h : Pair X b w0 w g mp rv v s t) (hp : 1 ≤ t.p) (id : Nat) (name : ByteArray) :
    Calls Try.prog 19 #[v, .int .u64 (id : Int), .string name] w fun e w' => ∃ v', e = .returned (.tuple #[v', .int .i64 (beginE t)]) ∧
      Pair X b w0 w' g mp rv v' s (beginP t id name) ∧ Chg Non w w' := by
  obtain ⟨F, mw, rw, hr, hF⟩ := h.ra
  unfold beginP beginE
  cases hs : t.shut
  · refine (refBegin (id := id) (name := name) hr hs hp).mono ?_
    rintro e w' ⟨v', mw', rfl, h', hc⟩
    exact ⟨v', rfl, h.mkref hF h' hc, hc⟩
  · refine (refBusy (id := id) (name := name) hr hs).mono ?_
    rintro e w' ⟨rfl, hc⟩
    exact ⟨v, rfl, h.c0 hc, hc⟩
theorem pairRefWants (h : Pair X b w0 w g mp rv v s t) :
    Calls Try.prog 20 #[v] w fun e w' => e = .returned (.int .i64 (wantsS t)) ∧ Pair X b w0 w' g mp rv v s t ∧ Chg Non w w' := by
  obtain ⟨F, mw, rw, hr, hF⟩ := h.ra
  refine (refWants hr).mono ?_
  rintro e w' ⟨rfl, hc⟩
  exact ⟨rfl, h.c0 hc, hc⟩
theorem pairRefLogged (h : Pair X b w0 w g mp rv v s t) (hl : t.res.length ≤ 100000) (a : Nat) :
    Calls Try.prog 21 #[v, .int .u64 (a : Int)] w fun e w' => ∃ v', e = .returned v' ∧ Pair X b w0 w' g mp rv v' s (logS t a) ∧ Chg Non w w' := by
  obtain ⟨F, mw, rw, hr, hF⟩ := h.ra
  refine (refLogged (a := a) hr hl).mono ?_
  rintro e w' ⟨v', rw', rfl, h', hc⟩
  exact ⟨v', rfl, h.mkref hF h' hc, hc⟩
theorem pairRefAnswer (h : Pair X b w0 w g mp rv v s t) (i kind : Int) (id : Nat) (err : Int) (a : Nat) :
    Calls Try.prog 23 #[v, .int .i64 i, .int .i64 kind, .int .u64 (id : Int), .int .i64 err, .int .u64 (a : Int)] w fun e w' => ∃ v', e = .returned v' ∧ Pair X b w0 w' g mp rv v' s (answerS t i kind id err a) ∧ Chg Non w w' := by
  obtain ⟨F, mw, rw, hr, hF⟩ := h.ra
  refine (refAnswer i kind id err a hr).mono ?_
  rintro e w' ⟨v', rw', rfl, h', hc⟩
  exact ⟨v', rfl, h.mkref hF h' hc, hc⟩
theorem pairRefTick (h : Pair X b w0 w g mp rv v s t) (hl : t.res.length ≤ 100000) (ha : -1000000000 ≤ t.age ∧ t.age ≤ 1000000000) :
    Calls Try.prog 24 #[v] w fun e w' => ∃ v', e = .returned v' ∧ Pair X b w0 w' g mp rv v' s (tickS t) ∧ Chg Non w w' := by
  obtain ⟨F, mw, rw, hr, hF⟩ := h.ra
  refine (refTick hr hl ha).mono ?_
  rintro e w' ⟨v', rw', rfl, h', hc⟩
  exact ⟨v', rfl, h.mkref hF h' hc, hc⟩
theorem pairRefEnd (h : Pair X b w0 w g mp rv v s t) (hl : t.res.length ≤ 100000) (e0 : Int) :
    Calls Try.prog 26 #[v, .int .i64 e0] w fun e w' => ∃ v', e = .returned v' ∧ Pair X b w0 w' g mp rv v' s (endS t e0) ∧ Chg Non w w' := by
  obtain ⟨F, mw, rw, hr, hF⟩ := h.ra
  refine (refEnd (e0 := e0) hr hl).mono ?_
  rintro e w' ⟨v', rw', rfl, h', hc⟩
  exact ⟨v', rfl, h.mkref hF h' hc, hc⟩
theorem pairGateAnswer (h : Pair X b w0 w g mp rv v s t) (i kind : Int) (id : Nat) (err : Int) (a : Nat) (ha : U64 a) :
    Calls Try.prog 22 #[.pointer (some ⟨g, 0, none⟩), .int .i64 i, .agg (ansC kind id err a)] w fun e w' => e = .returned (.tuple #[]) ∧
      ∃ mp' rv', Pair X b w0 w' g mp' rv' v (answerS s i kind id err a) t ∧ Stp w w' g mp rv mp' rv' := by
  refine (gateAnswer h.ga i kind id err a ha).mono ?_
  rintro e w' ⟨rfl, h', st⟩
  exact ⟨rfl, mp, rv, h.gate h' st, st⟩
theorem pairGateTick (h : Pair X b w0 w g mp rv v s t) (hl : s.res.length ≤ 100000) (ha : -1000000000 ≤ s.age ∧ s.age ≤ 1000000000) :
    Calls Try.prog 11 #[.pointer (some ⟨g, 0, none⟩)] w fun e w' => e = .returned (.tuple #[]) ∧
      ∃ mp' rv', Pair X b w0 w' g mp' rv' v (tickS s) t ∧ Stp w w' g mp rv mp' rv' := by
  refine (gateTick h.ga (by omega) ha).mono ?_
  rintro e w' ⟨rfl, rv', h', st⟩
  exact ⟨rfl, mp, rv', h.gate h' st, st⟩
theorem pairGateFail (h : Pair X b w0 w g mp rv v s t) (hl : s.res.length ≤ 100000) :
    Calls Try.prog 25 #[.pointer (some ⟨g, 0, none⟩)] w fun e w' => e = .returned (.tuple #[]) ∧
      ∃ mp' rv', Pair X b w0 w' g mp' rv' v (endS s 17) t ∧ Stp w w' g mp rv mp' rv' := by
  cases hs : s.shut
  · refine (gateFailOpen h.ga hs).mono ?_
    rintro e w' ⟨rfl, rfl⟩
    rw [endS, if_pos hs]
    exact ⟨rfl, mp, rv, h, Stp.refl _ _ _ _⟩
  · refine (gateFail h.ga (by omega) hs).mono ?_
    rintro e w' ⟨rfl, rv', h', st⟩
    rw [endS, if_neg (by rw [hs]; decide)]
    exact ⟨rfl, mp, rv', h.gate h' st, st⟩
/-- Logged: the list that it gives is as long as there are shards where the cut was wanted, and empty else -/
theorem pairGateLogged (h : Pair X b w0 w g mp rv v s t) (hl : s.res.length ≤ 100000) (a : Nat) :
    Calls Try.prog 10 #[.pointer (some ⟨g, 0, none⟩), .int .u64 (a : Int)] w fun e w' => ∃ A n c, e = .returned (.slice A n c) ∧
      n = (if wantsS s = 1 then (missS s.ms s.n).length else 0) ∧
      ∃ mp' rv', Pair X b w0 w' g mp' rv' v (logS s a) t ∧ Stp w w' g mp rv mp' rv' := by
  unfold logS
  rcases wants_le s with hw | hw | hw
  · rw [if_neg (by omega), if_neg (by omega), if_neg (by omega)]
    refine (gateLogNo (a := a) h.ga hw).mono ?_
    rintro e w' ⟨rfl, k, rfl⟩
    exact ⟨_, _, _, rfl, rfl, mp, rv, h.c0 ((Chg.refl Non w).drewN k), Stp.same ((Chg.refl Non w).drewN k)⟩
  · rw [if_pos hw, if_pos hw]
    refine (gateLogCut (a := a) h.ga hw).mono ?_
    rintro e w' ⟨v1, rfl, ho, h', hc⟩
    have hsh := wants_shut (s := s) (by omega)
    have e1 : retryS { s with cut := true, at_ := a } = missS s.ms s.n := by rw [retryS]; simp [hsh]
    rw [e1] at ho
    obtain ⟨A, c, rfl, _, _⟩ := (RdV.of_own ho).shape
    exact ⟨_, _, _, rfl, rfl, mp, rv, h.gate h' (Stp.ofg hc), Stp.ofg hc⟩
  · rw [if_neg (by omega), if_neg (by omega), if_pos hw]
    refine (gateLogEnter (a := a) h.ga (by omega) hw).mono ?_
    rintro e w' ⟨rfl, rv', h', st⟩
    exact ⟨_, _, _, rfl, rfl, mp, rv', h.gate h' st, st⟩
end
end Go.Proofs.Ytlcnlcjfnpicgaa
