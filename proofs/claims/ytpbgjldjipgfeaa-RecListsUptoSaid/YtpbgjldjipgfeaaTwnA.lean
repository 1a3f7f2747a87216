/- slices.Clone at writes, ranges and ints; stores into a row of the call's own. -/
import Derived.Test.YtpbgjldjipgfeaaRecSM
import Derived.Test.YtpbgjldjipgfeaaPackA
namespace Go.Proofs.Ytpbgjldjipgfeaa
open Go.RowKit
set_option linter.unusedVariables false

theorem row_set {w : World} {base sz n g c : Nat} {e : TypeId} {xs : List Value} (h : w.ownsRow base e sz (.slice (some ⟨g, 0, none⟩) n c) n xs) (j : Nat) (u : Value) :
    (w.setCell ⟨g, j, none⟩ u).ownsRow base e sz (.slice (some ⟨g, 0, none⟩) n c) n (xs.set j u) := by
  refine ⟨by rw [List.length_set]; exact h.1, ?_⟩
  rcases h.2 with ⟨h2, _⟩ | ⟨g', cap, cur, h2, h3, h4, h5, h6, h7, h8⟩
  · cases h2
  · injection h2 with a1 a2 a3
    injection a1 with a1
    injection a1 with a1 _ _
    subst a1; subst a3
    refine .inr ⟨g, c, cur.setIfInBounds j u, rfl, h3, Blk.set_ (show Blk w g e cur from h4) j u, h5, h6, by rw [Array.size_setIfInBounds]; exact h7, ?_⟩
    rw [Array.toList_setIfInBounds, List.take_set, h8]
theorem row_some {w : World} {base sz n : Nat} {e : TypeId} {v : Value} {xs : List Value} (h : w.ownsRow base e sz v n xs) (hn : 0 < n) : ∃ g c, v = .slice (some ⟨g, 0, none⟩) n c ∧ base ≤ g ∧ g < w.heap.size ∧ ∀ j, w.frozen? ⟨g, j, none⟩ = false := by
  rcases h.2 with ⟨_, h2⟩ | ⟨g, cap, cur, h2, h3, h4, _⟩
  · omega
  · exact ⟨g, cap, h2, h3, (Array.getElem?_eq_some_iff.1 h4).1, fun j => (show Blk w g e cur from h4).frozen j⟩
theorem list_set3 (A B : List Value) (a b c p q : Value) : ((A ++ a :: b :: c :: B).set A.length p).set (A.length + 1) q = A ++ p :: q :: c :: B := by
  rw [List.set_append_right _ _ (Nat.le_refl _), Nat.sub_self, List.set_cons_zero, List.set_append_right _ _ (by omega), show A.length + 1 - A.length = 1 by omega, List.set_cons_succ, List.set_cons_zero]
theorem flW_cons (x : Value × Value) (xs : List (Value × Value)) (y : WrS) (l : List WrS) : flW (x :: xs) (y :: l) = x.1 :: x.2 :: .bool y.f :: flW xs l := rfl
theorem flW_one (xs : List (Value × Value)) (l : List WrS) : ∀ u ∈ flW xs l, (∃ p ∈ xs, u = p.1 ∨ u = p.2) ∨ ∃ b, u = .bool b := by
  intro u hu
  obtain ⟨p, hp, hu⟩ := List.mem_flatMap.1 hu
  obtain ⟨h1, h2⟩ := List.of_mem_zip hp
  simp at hu
  rcases hu with rfl | rfl | rfl
  · exact .inl ⟨p.1, h1, .inl rfl⟩
  · exact .inl ⟨p.1, h1, .inr rfl⟩
  · exact .inr ⟨_, rfl⟩
/-- a list of writes of which the first ones are the call's own reads whole -/
theorem rdW_mix {w : World} {F : Nat → Prop} {base b2 : Nat} {ty : TypeId} {v : Value} {l1 l2 : List WrS} {xs1 xs2 : List (Value × Value)} (h1 : xs1.length = l1.length) (h2 : xs2.length = l2.length)
    (h : w.ownsRow base ty 3 v (l1.length + l2.length) (flW xs1 l1 ++ flW xs2 l2)) (hp : ∀ p ∈ pcW xs1 l1, OwnB w b2 p.1 p.2) (ho : ∀ (i : Nat) (x : Value × Value) (y : WrS), xs2[i]? = some x → l2[i]? = some y → RdB w F x.1 y.a ∧ RdB w F x.2 y.b) : RdW w (fun _ => True) v (l1 ++ l2) := by
  refine ⟨xs1 ++ xs2, by simp [h1, h2], ?_, fun i x y hx hy => ?_⟩
  · have := RdV.of_own h
    rw [List.zip_append h1, List.flatMap_append, List.length_append]
    exact this.mono fun _ _ => trivial
  · rcases Nat.lt_or_ge i l1.length with hi | hi
    · rw [List.getElem?_append_left (by omega)] at hx hy
      have hz : (xs1.zip l1)[i]? = some (x, y) := by rw [List.getElem?_zip_eq_some]; exact ⟨hx, hy⟩
      have hm : (x, y) ∈ xs1.zip l1 := List.mem_of_getElem? hz
      exact ⟨(hp (x.1, y.a) (List.mem_flatMap.2 ⟨_, hm, by simp⟩)).rd.mono fun _ _ => trivial, (hp (x.2, y.b) (List.mem_flatMap.2 ⟨_, hm, by simp⟩)).rd.mono fun _ _ => trivial⟩
    · rw [List.getElem?_append_right (by omega)] at hx hy
      rw [h1] at hx
      obtain ⟨r1, r2⟩ := ho _ x y hx hy
      exact ⟨r1.mono fun _ _ => trivial, r2.mono fun _ _ => trivial⟩
/-- the three cells of an element in a row of the call's own -/
theorem row_at {w : World} {base n m c k : Nat} {ty : TypeId} {ad : Addr} {A B : List Value} {a b d : Value} (h : w.ownsRow base ty 3 (.slice (some ad) m c) n (A ++ a :: b :: d :: B)) (hA : A.length = k * 3) :
    w.cell? (ad.add (k * 3)) = some a ∧ w.cell? ⟨(ad.add (k * 3)).block, (ad.add (k * 3)).off + 1, none⟩ = some b ∧ w.cell? ⟨(ad.add (k * 3)).block, (ad.add (k * 3)).off + 2, none⟩ = some d ∧
    w.frozen? (ad.add (k * 3)) = false ∧ w.frozen? ⟨(ad.add (k * 3)).block, (ad.add (k * 3)).off + 1, none⟩ = false := by
  obtain ⟨g, c', e, _, _, hf⟩ := row_some h (by have := h.1; simp at this; omega)
  injection e with e1 e2 e3
  injection e1 with e1
  subst e1; subst e2
  obtain ⟨_, A', c', e, _, _, h2⟩ := RdV.of_own h
  injection e with e1 e2 e3
  subst e1
  obtain ⟨ad, e, _, hc⟩ := h2 (by have := h.1; simp at this; omega)
  injection e with e
  subst e
  refine ⟨hc _ _ ?_, ?_, ?_, ?_, ?_⟩
  · rw [← hA, List.getElem?_append_right (Nat.le_refl _), Nat.sub_self]; rfl
  · rw [← add_succ _ (k * 3) 1 (by omega)]
    refine hc _ _ ?_
    rw [← hA, List.getElem?_append_right (by omega), show A.length + 1 - A.length = 1 by omega]; rfl
  · rw [← add_succ _ (k * 3) 2 (by omega)]
    refine hc _ _ ?_
    rw [← hA, List.getElem?_append_right (by omega), show A.length + 2 - A.length = 2 by omega]; rfl
  · rw [add_none]; exact hf _
  · rw [add_none]; exact hf _
theorem row_put {w : World} {base n m c k : Nat} {ty : TypeId} {ad : Addr} {A B : List Value} {a b d : Value} (h : w.ownsRow base ty 3 (.slice (some ad) m c) n (A ++ a :: b :: d :: B)) (hA : A.length = k * 3) (p : Value) :
    (w.setCell (ad.add (k * 3)) p).ownsRow base ty 3 (.slice (some ad) m c) n (A ++ p :: b :: d :: B) := by
  obtain ⟨g, c', e, _, _, hf⟩ := row_some h (by have := h.1; simp at this; omega)
  injection e with e1 e2 e3
  injection e1 with e1
  subst e1; subst e2
  have := row_set h (k * 3) p
  rw [← hA, List.set_append_right _ _ (Nat.le_refl _), Nat.sub_self, List.set_cons_zero, hA] at this
  rw [add_none, Nat.zero_add]
  exact this
theorem row_put2 {w : World} {base n m c k : Nat} {ty : TypeId} {ad : Addr} {A B : List Value} {a b d : Value} (h : w.ownsRow base ty 3 (.slice (some ad) m c) n (A ++ a :: b :: d :: B)) (hA : A.length = k * 3) (q : Value) :
    (w.setCell ⟨(ad.add (k * 3)).block, (ad.add (k * 3)).off + 1, none⟩ q).ownsRow base ty 3 (.slice (some ad) m c) n (A ++ a :: q :: d :: B) := by
  obtain ⟨g, c', e, _, _, hf⟩ := row_some h (by have := h.1; simp at this; omega)
  injection e with e1 e2 e3
  injection e1 with e1
  subst e1; subst e2
  have := row_set h (k * 3 + 1) q
  rw [← hA, List.set_append_right _ _ (by omega), show A.length + 1 - A.length = 1 by omega, List.set_cons_succ, List.set_cons_zero, hA] at this
  rw [add_none, Nat.zero_add]
  exact this
/-- the block of a row's element -/
theorem row_blk {w : World} {base n m c k : Nat} {ty : TypeId} {ad : Addr} {xs : List Value} (h : w.ownsRow base ty 3 (.slice (some ad) m c) n xs) : (Value.slice (some ad) m c).ownBlock = some (ad.add k).block := by
  rcases h.2 with ⟨h2, _⟩ | ⟨g', cap, cur, h2, _⟩
  · cases h2
  · injection h2 with e1 e2 e3
    injection e1 with e1
    subst e1
    rw [add_none]; rfl
theorem rdV_nil {w : World} {F : Nat → Prop} {sz n c : Nat} {xs : List Value} (h : RdV w F sz (.slice none n c) n xs) : n = 0 := by
  obtain ⟨_, A, c', e, _, _, h2⟩ := h
  injection e with e1 e2 e3
  subst e1
  rcases Nat.eq_zero_or_pos n with h | h
  · exact h
  · obtain ⟨ad, e, _⟩ := h2 h
    cases e

theorem own_zW (w : World) : (w.alloc (.cells #[] 49)).ownsRow w.heap.size 49 3 (.slice (some ⟨w.heap.size, 0, none⟩) 0 0) 0 [] :=
  World.ownsRow_lit (size := 3) w #[] 0 (Nat.le_refl _) (by simp [maxLen]) rfl
set_option maxHeartbeats 400000 in
theorem cloneW {v : Value} {n : Nat} {xs : List Value} {F : Nat → Prop} {w : World} (hr : RdV w F 3 v n xs) (h1 : ∀ u ∈ xs, u.oneCell' = true) (hl : n ≤ 1000000000000) :
    Calls Try.prog 59 #[v] w fun e w' => ∃ u, e = .returned u ∧ w'.ownsRow w.heap.size 49 3 u n xs ∧ Chg Non w w' := by
  obtain ⟨A, m, c, rfl⟩ := RdV.sl hr
  have hmn : m = n := by obtain ⟨_, A', c', e, _⟩ := hr; injection e
  subst hmn
  rcases A with _ | ad
  · have hn0 := rdV_nil hr
    subst hn0
    have hx0 : xs = [] := List.eq_nil_of_length_eq_zero (by have := hr.1; omega)
    subst hx0
    have h0 := Lib.run_eql_slice_nil (P := Try.prog)
    go_enter Try.func59, Try.ntmps59
    go_wp2
    go_ret
    exact ⟨_, rfl, World.ownsRow_nil _ _ _ _, Chg.refl _ _⟩
  · have h0 := fun w => Lib.run_eql_slice_nil (P := Try.prog) w 25 49 (some ad) m c 0 0 Try.underlying25
    obtain ⟨i, hi, hz, hs1, hs2⟩ := info_parts info_W1
    go_enter Try.func59, Try.ntmps59
    go_wp2_with (at_builtin; refine wpList_append_rd _ rfl _ _ _ rfl w.heap.size 49 i _ 3 56 Try.underlying25 hi hz hs1 hs2 rfl (by omega) (.slice (some ⟨w.heap.size, 0, none⟩) 0 0) rfl _ _ (own_zW w) _ _ rfl _ _ (hr.chg ((Chg.refl Non w).alloc _) (fun _ _ h => h)) h1 (by simp only [maxLen]; omega) (by omega) (by simp) ?_; intro v1 w1 hown1 hg1 _ hat1)
    go_ret
    simp only [Nat.zero_add, List.nil_append] at hown1
    exact ⟨v1, rfl, hown1, ((Chg.refl Non w).alloc _).own hg1 (by simp [Value.ownBlock])⟩

theorem own_zR (w : World) : (w.alloc (.cells #[] 63)).ownsRow w.heap.size 63 3 (.slice (some ⟨w.heap.size, 0, none⟩) 0 0) 0 [] :=
  World.ownsRow_lit (size := 3) w #[] 0 (Nat.le_refl _) (by simp [maxLen]) rfl
set_option maxHeartbeats 400000 in
theorem cloneR {v : Value} {n : Nat} {xs : List Value} {F : Nat → Prop} {w : World} (hr : RdV w F 3 v n xs) (h1 : ∀ u ∈ xs, u.oneCell' = true) (hl : n ≤ 1000000000000) :
    Calls Try.prog 60 #[v] w fun e w' => ∃ u, e = .returned u ∧ w'.ownsRow w.heap.size 63 3 u n xs ∧ Chg Non w w' := by
  obtain ⟨A, m, c, rfl⟩ := RdV.sl hr
  have hmn : m = n := by obtain ⟨_, A', c', e, _⟩ := hr; injection e
  subst hmn
  rcases A with _ | ad
  · have hn0 := rdV_nil hr
    subst hn0
    have hx0 : xs = [] := List.eq_nil_of_length_eq_zero (by have := hr.1; omega)
    subst hx0
    have h0 := Lib.run_eql_slice_nil (P := Try.prog)
    go_enter Try.func60, Try.ntmps60
    go_wp2
    go_ret
    exact ⟨_, rfl, World.ownsRow_nil _ _ _ _, Chg.refl _ _⟩
  · have h0 := fun w => Lib.run_eql_slice_nil (P := Try.prog) w 26 63 (some ad) m c 0 0 Try.underlying26
    obtain ⟨i, hi, hz, hs1, hs2⟩ := info_parts info_R1
    go_enter Try.func60, Try.ntmps60
    go_wp2_with (at_builtin; refine wpList_append_rd _ rfl _ _ _ rfl w.heap.size 63 i _ 3 56 Try.underlying26 hi hz hs1 hs2 rfl (by omega) (.slice (some ⟨w.heap.size, 0, none⟩) 0 0) rfl _ _ (own_zR w) _ _ rfl _ _ (hr.chg ((Chg.refl Non w).alloc _) (fun _ _ h => h)) h1 (by simp only [maxLen]; omega) (by omega) (by simp) ?_; intro v1 w1 hown1 hg1 _ hat1)
    go_ret
    simp only [Nat.zero_add, List.nil_append] at hown1
    exact ⟨v1, rfl, hown1, ((Chg.refl Non w).alloc _).own hg1 (by simp [Value.ownBlock])⟩

theorem own_zI (w : World) : (w.alloc (.cells #[] 3)).ownsRow w.heap.size 3 1 (.slice (some ⟨w.heap.size, 0, none⟩) 0 0) 0 [] :=
  World.ownsRow_lit (size := 1) w #[] 0 (Nat.le_refl _) (by simp [maxLen]) rfl
set_option maxHeartbeats 400000 in
theorem cloneI {v : Value} {n : Nat} {xs : List Value} {F : Nat → Prop} {w : World} (hr : RdV w F 1 v n xs) (h1 : ∀ u ∈ xs, u.oneCell' = true) (hl : n ≤ 1000000000000) :
    Calls Try.prog 61 #[v] w fun e w' => ∃ u, e = .returned u ∧ w'.ownsRow w.heap.size 3 1 u n xs ∧ Chg Non w w' := by
  obtain ⟨A, m, c, rfl⟩ := RdV.sl hr
  have hmn : m = n := by obtain ⟨_, A', c', e, _⟩ := hr; injection e
  subst hmn
  rcases A with _ | ad
  · have hn0 := rdV_nil hr
    subst hn0
    have hx0 : xs = [] := List.eq_nil_of_length_eq_zero (by have := hr.1; omega)
    subst hx0
    have h0 := Lib.run_eql_slice_nil (P := Try.prog)
    go_enter Try.func61, Try.ntmps61
    go_wp2
    go_ret
    exact ⟨_, rfl, World.ownsRow_nil _ _ _ _, Chg.refl _ _⟩
  · have h0 := fun w => Lib.run_eql_slice_nil (P := Try.prog) w 27 3 (some ad) m c 0 0 Try.underlying27
    obtain ⟨i, hi, hz, hs1, hs2⟩ := info_parts info_int
    go_enter Try.func61, Try.ntmps61
    go_wp2_with (at_builtin; refine wpList_append_rd _ rfl _ _ _ rfl w.heap.size 3 i _ 1 8 Try.underlying27 hi hz hs1 hs2 rfl (by omega) (.slice (some ⟨w.heap.size, 0, none⟩) 0 0) rfl _ _ (own_zI w) _ _ rfl _ _ (hr.chg ((Chg.refl Non w).alloc _) (fun _ _ h => h)) h1 (by simp only [maxLen]; omega) (by omega) (by simp) ?_; intro v1 w1 hown1 hg1 _ hat1)
    go_ret
    simp only [Nat.zero_add, List.nil_append] at hown1
    exact ⟨v1, rfl, hown1, ((Chg.refl Non w).alloc _).own hg1 (by simp [Value.ownBlock])⟩
end Go.Proofs.Ytpbgjldjipgfeaa
