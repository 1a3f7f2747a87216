/- Laws at this program's own types: append of bytes, and of slices of bytes. -/
import Derived.Test.YtncchbcoldgpbaaProg
import Derived.Test.YtncchbcoldgpbaaWords
import Derived.Lib.Bytealg
namespace Go.Proofs.Ytncchbcoldgpbaa
open Go.RowKit

theorem info_u8 : (Try.prog.info? 5).map (fun i => (i.zero, i.size, i.bytes)) = some (some (.int .u8 0), 1, 1) := by kernel_rfl

/-- append of bytes onto bytes that the call owns -/
theorem append_B {w : World} {ops : Array Oper} {rest : List Oper} {o : Oper} {a : Act} {Q : Exit → Act → World → Prop} (hgd : o.guard = none) (s x : Operand)
    (ho : o.op = .call { callee := .builtin .append, args := #[s, x], argTypes := #[26, 26] })
    {base : Nat} {v : Value} {l : List UInt8} (hown : OwnB w base v l) (hv : a.eval s = v)
    {y : Value} {F : Nat → Prop} {m : List UInt8} (hr : RdB w F y m) (hy : a.eval x = y)
    (hb : l.length + m.length ≤ 140737488355328) (hbase : base ≤ w.heap.size)
    (h : ∀ v' w', OwnB w' base v' (l ++ m) → w.grownBy w' v.ownBlock → (v'.ownBlock = v.ownBlock ∨ v'.ownBlock = some w.heap.size) → wpList Try.prog ops Q rest (a.put o.dst v') w') : wpList Try.prog ops Q (o :: rest) a w := by
  obtain ⟨i, hi, hz, h1, h2⟩ := info_parts info_u8
  refine wpList_append_rd w hgd s x _ ho base 5 i _ 1 1 Try.underlying26 hi hz h1 h2 rfl (by omega) v hv _ _ hown F y hy _ _ hr (bvs_one m) (by simp only [maxLen]; omega) (by omega) hbase ?_
  intro v' w' hown' hg _ hat
  refine h v' w' ?_ hg hat
  unfold OwnB
  rw [List.length_append, bvs_append]
  exact hown'

/-- the same in a region that draws its order -/
theorem step_B {w : World} {ops : Array Oper} {o : Oper} {a : Act} {K : Act → World → Prop} {Q : Exit → Act → World → Prop} {E : Prop} (hgd : o.guard = none) (s x : Operand)
    (ho : o.op = .call { callee := .builtin .append, args := #[s, x], argTypes := #[26, 26] })
    {base : Nat} {v : Value} {l : List UInt8} (hown : OwnB w base v l) (hv : a.eval s = v)
    {y : Value} {F : Nat → Prop} {m : List UInt8} (hr : RdB w F y m) (hy : a.eval x = y)
    (hb : l.length + m.length ≤ 140737488355328) (hbase : base ≤ w.heap.size)
    (h : ∀ v' w', OwnB w' base v' (l ++ m) → w.grownBy w' v.ownBlock → (v'.ownBlock = v.ownBlock ∨ v'.ownBlock = some w.heap.size) → K (a.put o.dst v') w') :
    if Region.wanted o (yielded ops a.tmps) = true then Oper.wp Try.prog o a w K Q else E := by
  have hw : Region.wanted o (yielded ops a.tmps) = true := by simp [Region.wanted, hgd]
  rw [if_pos hw]
  subst hv; subst hy
  obtain ⟨i, hi, hz, h1, h2⟩ := info_parts info_u8
  refine wp_append_rd w s x _ ho base 5 i _ 1 1 Try.underlying26 hi hz h1 h2 rfl (by omega) _ _ hown F _ _ hr (bvs_one m) (by simp only [maxLen]; omega) (by omega) hbase ?_
  intro v' w' hown' hg _ hat
  refine h v' w' ?_ hg hat
  unfold OwnB
  rw [List.length_append, bvs_append]
  exact hown'

/-- one new byte, as a slice literal -/
theorem own_one (w : World) (b : UInt8) (n : Int) (hn : n = (b.toNat : Int)) : OwnB (w.alloc (.cells #[.int .u8 n] 5)) w.heap.size (.slice (some ⟨w.heap.size, 0, none⟩) 1 1) [b] := by
  subst hn
  exact World.ownsRow_lit (size := 1) w #[bv b] 1 (Nat.le_refl _) (by simp [maxLen]) rfl
/-- the empty literal '[]byte{}' -/
theorem own_zero (w : World) : OwnB (w.alloc (.cells #[] 5)) w.heap.size (.slice (some ⟨w.heap.size, 0, none⟩) 0 0) [] :=
  World.ownsRow_lit (size := 1) w #[] 0 (Nat.le_refl _) (by simp [maxLen]) rfl
/-- bytes as a string -/
theorem run_str {w : World} {F : Nat → Prop} {v : Value} {l : List UInt8} (h : RdB w F v l) : (convert 26 9 v).run Try.prog w = .ok (.string ⟨l.toArray⟩) w := by
  obtain ⟨A, c, rfl, hc, hm⟩ := h.shape
  rcases A with _ | ad
  · obtain rfl := h.is_nil
    rw [run_convert_bytes_string w _ _ _ none _ c Try.underlying26 Try.underlying5 Try.underlying9]
    rfl
  · refine run_convert_bytes_back w _ _ _ ad c l Try.underlying26 Try.underlying5 Try.underlying9 fun j hj => ?_
    obtain ⟨ad', e, _, hc⟩ := h.at_ hj
    injection e with e; subst e
    exact hc
theorem toList_mk (l : List UInt8) : (⟨l.toArray⟩ : ByteArray).toList = l := by rw [ByteArray.toList_eq]
theorem Chg.own {S : Nat → Prop} {a w w' : World} {v : Value} (h : Chg S a w) (hg : w.grownBy w' v.ownBlock) (hb : ∀ k, v.ownBlock = some k → a.heap.size ≤ k) : Chg S a w' :=
  h.grown hg fun k hk hlt => absurd (hb k hk) (by omega)
end Go.Proofs.Ytncchbcoldgpbaa

namespace Go.Proofs.Ytncchbcoldgpbaa

abbrev cmpB := Lib.compareBytes

theorem cmpB_cons (a b : UInt8) (s t : List UInt8) : cmpB (a :: s) (b :: t) = if a < b then -1 else if b < a then 1 else cmpB s t := rfl

theorem cmpB_drop (xs ys : List UInt8) (k : Nat) (h1 : k < xs.length) (h2 : k < ys.length) :
    cmpB (xs.drop k) (ys.drop k) = if xs[k] < ys[k] then -1 else if ys[k] < xs[k] then 1 else cmpB (xs.drop (k+1)) (ys.drop (k+1)) := by
  rw [List.drop_eq_getElem_cons h1, List.drop_eq_getElem_cons h2, cmpB_cons]

theorem cmpB_end (xs ys : List UInt8) (k : Nat) (hk : k ≤ xs.length) (hk' : k ≤ ys.length) (h : ¬ (k < xs.length ∧ k < ys.length)) :
    cmpB (xs.drop k) (ys.drop k) = if xs.length < ys.length then -1 else if ys.length < xs.length then 1 else 0 := by
  rcases Nat.lt_or_ge k xs.length with h1 | h1
  · have h2 : k = ys.length := by omega
    subst h2
    rw [List.drop_eq_getElem_cons h1, List.drop_length, if_neg (by omega), if_pos h1]
    rfl
  · have h2 : k = xs.length := by omega
    subst h2
    rw [List.drop_length]
    rcases Nat.lt_or_ge xs.length ys.length with h3 | h3
    · rw [List.drop_eq_getElem_cons h3, if_pos h3]; rfl
    · have : xs.length = ys.length := by omega
      rw [List.drop_of_length_le (by omega)]; simp [Lib.compareBytes, this]

theorem cmpB_refl : ∀ s : List UInt8, cmpB s s = 0
  | [] => rfl
  | a :: s => by rw [cmpB_cons, if_neg (UInt8.lt_irrefl a), if_neg (UInt8.lt_irrefl a)]; exact cmpB_refl s

theorem cmpB_eq_zero : ∀ s t : List UInt8, cmpB s t = 0 ↔ s = t
  | [], [] => by simp [Lib.compareBytes]
  | [], _ :: _ => by simp [Lib.compareBytes]
  | _ :: _, [] => by simp [Lib.compareBytes]
  | a :: s, b :: t => by
    rw [cmpB_cons]
    by_cases h : a < b
    · rw [if_pos h]; constructor
      · intro h'; omega
      · intro h'; injection h' with h1 h2; subst h1; exact absurd h (UInt8.lt_irrefl a)
    · rw [if_neg h]
      by_cases h2 : b < a
      · rw [if_pos h2]; constructor
        · intro h'; omega
        · intro h'; injection h' with h1 h3; subst h1; exact absurd h2 (UInt8.lt_irrefl _)
      · rw [if_neg h2, cmpB_eq_zero s t]
        have : a = b := by
          apply UInt8.toNat_inj.1
          simp only [UInt8.lt_iff_toNat_lt] at h h2
          omega
        subst this
        simp

theorem cmpB_neg : ∀ s t : List UInt8, cmpB t s = - cmpB s t
  | [], [] => rfl
  | [], _ :: _ => rfl
  | _ :: _, [] => rfl
  | a :: s, b :: t => by
    rw [cmpB_cons, cmpB_cons]
    by_cases h : a < b
    · have h2 : ¬ b < a := fun h2 => by simp only [UInt8.lt_iff_toNat_lt] at h h2; omega
      rw [if_neg h2, if_pos h, if_pos h]; rfl
    · rw [if_neg h]
      by_cases h2 : b < a
      · rw [if_pos h2, if_pos h2, if_neg h]
      · rw [if_neg h2, if_neg h, if_neg h2]; exact cmpB_neg s t

theorem cmpB_range : ∀ s t : List UInt8, cmpB s t = -1 ∨ cmpB s t = 0 ∨ cmpB s t = 1
  | [], [] => by simp [Lib.compareBytes]
  | [], _ :: _ => by simp [Lib.compareBytes]
  | _ :: _, [] => by simp [Lib.compareBytes]
  | a :: s, b :: t => by
    rw [cmpB_cons]
    split
    · simp
    · split
      · simp
      · exact cmpB_range s t

theorem cmpB_after (s : List UInt8) : cmpB s (s ++ [0]) = -1 := by
  induction s with
  | nil => rfl
  | cons a s ih => rw [List.cons_append, cmpB_cons, if_neg (UInt8.lt_irrefl a), if_neg (UInt8.lt_irrefl a)]; exact ih

/-- the key behind one is the least above it -/
theorem cmpB_after_le : ∀ s t : List UInt8, cmpB s t < 0 → cmpB (s ++ [0]) t ≤ 0
  | [], [], h => by simp [Lib.compareBytes] at h
  | [], b :: t, _ => by
    rw [List.nil_append, cmpB_cons]
    have h0 : ¬ b < 0 := fun h => by simp only [UInt8.lt_iff_toNat_lt] at h; exact absurd h (Nat.not_lt_zero _)
    rw [if_neg h0]
    split
    · omega
    · cases t with
      | nil => simp [Lib.compareBytes]
      | cons => simp [Lib.compareBytes]
  | _ :: _, [], h => by simp [Lib.compareBytes] at h
  | a :: s, b :: t, h => by
    rw [cmpB_cons] at h
    rw [List.cons_append, cmpB_cons]
    by_cases h1 : a < b
    · rw [if_pos h1]; omega
    · rw [if_neg h1] at h ⊢
      by_cases h2 : b < a
      · rw [if_pos h2] at h; omega
      · rw [if_neg h2] at h ⊢; exact cmpB_after_le s t h
end Go.Proofs.Ytncchbcoldgpbaa

namespace Go.Proofs.Ytncchbcoldgpbaa
open Go.RowKit

set_option maxHeartbeats 400000 in
theorem refCopy {v : Value} {l : List UInt8} {F : Nat → Prop} {w : World} (hr : RdB w F v l) (hl : l.length ≤ 140737488355328) :
    Calls Try.prog 12 #[v] w fun e w' => ∃ u, e = .returned u ∧ OwnB w' w.heap.size u l ∧ Chg Non w w' := by
  obtain ⟨A, c, rfl, hc, hm⟩ := hr.shape
  go_enter Try.func12, Try.ntmps12
  go_wp2_with (at_builtin; refine append_B rfl _ _ rfl (own_zero w) rfl (hr.chg ((Chg.refl Non w).alloc _) (fun _ _ h => h)) rfl (by simpa using hl) (by simp) ?_; intro v1 w1 hown1 hg1 hat1)
  go_ret
  refine ⟨v1, rfl, hown1, ((Chg.refl Non w).alloc _).own hg1 (by simp [Value.ownBlock])⟩

set_option maxHeartbeats 400000 in
theorem refCmp {v u : Value} {xs ys : List UInt8} {F G : Nat → Prop} {w : World} (ha : RdB w F v xs) (hb : RdB w G u ys) :
    Calls Try.prog 37 #[v, u] w fun e w' => e = .returned (.int .i64 (cmpB xs ys)) ∧ ∃ k, w' = w.drewN k := by
  obtain ⟨A, c, rfl, hc, hm⟩ := ha.shape
  obtain ⟨B, d, rfl, hd, hn⟩ := hb.shape
  unfold maxLen at hm hn
  go_enter Try.func37, Try.ntmps37
  go_wp2
  go_loopw [5] (fun i wr => ∃ k q : Nat, k ≤ xs.length ∧ k ≤ ys.length ∧ i = .int .i64 k ∧ Hid (cmpB xs ys = cmpB (xs.drop k) (ys.drop k)) ∧ wr = w.drewN q) (fun i _ => xs.length - (intOf i).toNat)
  case atStart => exact ⟨0, 0, Nat.zero_le _, Nat.zero_le _, rfl, hide rfl, rfl⟩
  case round =>
    obtain ⟨k, q, hk, hk', rfl, hcm, rfl⟩ := hrel
    by_cases h1 : k < xs.length ∧ k < ys.length
    · have HS := hide (cmpB_drop xs ys k h1.1 h1.2)
      obtain ⟨h1, h2⟩ := h1
      obtain ⟨ad, rfl, _, hca⟩ := ha.at_ h1
      obtain ⟨bd, rfl, _, hcb⟩ := hb.at_ h2
      go_wp2
      go_quiet (fail)
      go_wp2
      · go_ret
        refine ⟨ret_int ?_, _, dn2 _ _ _⟩
        rw [hcm.out, HS.out, if_pos (by rw [UInt8.lt_iff_toNat_lt]; omega)]
      · go_quiet (fail)
        go_wp2
        · go_ret
          refine ⟨ret_int ?_, _, dn3 _ _ _ _⟩
          rw [hcm.out, HS.out, if_neg (by rw [UInt8.lt_iff_toNat_lt]; omega), if_pos (by rw [UInt8.lt_iff_toNat_lt]; omega)]
        · go_roundw
          case rel =>
            refine ⟨k + 1, _, by omega, by omega, by go_num, hide ?_, rfl⟩
            rw [hcm.out, HS.out, if_neg (by rw [UInt8.lt_iff_toNat_lt]; omega), if_neg (by rw [UInt8.lt_iff_toNat_lt]; omega)]
          case measure => simp [intOf]; omega
    · have HS := hide (cmpB_end xs ys k hk hk' h1)
      by_cases h3 : k < xs.length
      all_goals
        go_wp2
        all_goals
          go_ret
          refine ⟨ret_int ?_, _, rfl⟩
          rw [hcm.out, HS.out]
          first | rw [if_pos (by omega)] | rw [if_neg (by omega), if_pos (by omega)] | rw [if_neg (by omega), if_neg (by omega)]
set_option maxHeartbeats 400000 in
theorem refEqual {v u : Value} {xs ys : List UInt8} {F G : Nat → Prop} {w : World} (ha : RdB w F v xs) (hb : RdB w G u ys) :
    Calls Try.prog 13 #[v, u] w fun e w' => e = .returned (.bool (decide (xs = ys))) ∧ ∃ k, w' = w.drewN k := by
  go_enter Try.func13, Try.ntmps13
  go_wp2_with (go_at_call 37; refine (refCmp ha hb).mono ?_; rintro e w' ⟨rfl, k, rfl⟩)
  go_ret
  refine ⟨ret_bool ?_, _, rfl⟩
  rw [Bool.eq_iff_iff]; simp [cmpB_eq_zero]
theorem refEqual_true {v u : Value} {xs : List UInt8} {F G : Nat → Prop} {w : World} (ha : RdB w F v xs) (hb : RdB w G u xs) :
    Calls Try.prog 13 #[v, u] w fun e w' => e = .returned (.bool true) ∧ ∃ k, w' = w.drewN k :=
  (refEqual ha hb).mono fun _ _ ⟨h1, h2⟩ => ⟨by simpa using h1, h2⟩
end Go.Proofs.Ytncchbcoldgpbaa

namespace Go.Proofs.Ytncchbcoldgpbaa
open Go.RowKit

theorem run_loadBytes {P : Program} {w : World} (ad : Addr) (l : List UInt8) : ∀ (n k : Nat) (acc : ByteArray), k + n = l.length →
    (∀ j, j < l.length → w.cell? (ad.add j) = some (bv (l.getD j 0))) →
    (Extern.Bytes.loadBytes (ad.add k) n acc).run P w = .ok ⟨acc.data ++ (l.drop k).toArray⟩ w
  | 0, k, acc, h, _ => by
    have : l.drop k = [] := List.drop_of_length_le (by omega)
    simp [Extern.Bytes.loadBytes, this]
  | n + 1, k, acc, h, hc => by
    have hk : k < l.length := by omega
    have hcell := hc k hk
    have ih := run_loadBytes (P := P) ad l n (k + 1) (acc.push l[k]) (by omega) hc
    rw [List.getD_eq_getElem?_getD, List.getElem?_eq_getElem hk] at hcell
    have e : l.drop k = l[k] :: l.drop (k + 1) := List.drop_eq_getElem_cons hk
    simp only [Option.getD_some, bv] at hcell
    have hl : (load (ad.add k)).run P w = .ok (.int .u8 (l[k].toNat : Int)) w := by simp [go_sem, hcell]
    unfold Extern.Bytes.loadBytes
    simp only [Sem.run_bind, hl, Result.andThen_ok, add_of_add, Int.toNat_natCast, Nat.toUInt8_eq, UInt8.ofNat_toNat, ih, e]
    congr 1
    simp [ByteArray.push]

theorem run_bytesOf {P : Program} {w : World} {v : Value} {l : List UInt8} {F : Nat → Prop} (h : RdB w F v l) :
    (Extern.Bytes.bytesOf v).run P w = .ok ⟨l.toArray⟩ w := by
  obtain ⟨A, c, rfl, hc, hm⟩ := h.shape
  rcases A with _ | ad
  · obtain rfl := h.is_nil
    rfl
  · have := run_loadBytes (P := P) (w := w) ad l l.length 0 .empty (by omega) (fun j hj => by
      obtain ⟨ad', h1, _, h2⟩ := h.at_ hj
      injection h1 with h1; subst h1
      rw [h2, List.getD_eq_getElem?_getD, List.getElem?_eq_getElem hj]; rfl)
    have e0 : ad.add 0 = ad := by simp [Addr.add]
    rw [e0] at this
    show (Extern.Bytes.loadBytes ad l.length .empty).run P w = _
    rw [this]
    simp

theorem run_compareBytes {P : Program} {w : World} {v u : Value} {xs ys : List UInt8} {F G : Nat → Prop} (ha : RdB w F v xs) (hb : RdB w G u ys) :
    (Extern.BytealgCompare.compare #[v, u]).run P w = .ok (.int .i64 (cmpB xs ys)) w := by
  change Sem.run P (do pure (goInt (Extern.BytealgCompare.cmp (← Extern.Bytes.bytesOf v) (← Extern.Bytes.bytesOf u)))) w = _
  simp only [Sem.run_bind, run_bytesOf ha, run_bytesOf hb, Sem.run_pure, Result.andThen]
  rw [Lib.cmp_eq]
  rfl

/-- nil comes to nil -/
def isNilS (v : Value) : Prop := ∃ n c, v = .slice none n c

set_option maxHeartbeats 400000 in
theorem bytesClone {v : Value} {l : List UInt8} {F : Nat → Prop} {w : World} (hr : RdB w F v l) (hl : l.length ≤ 140737488355328) :
    Calls Try.prog 63 #[v] w fun e w' => ∃ u, e = .returned u ∧ OwnB w' w.heap.size u l ∧ Chg Non w w' := by
  obtain ⟨A, c, rfl, hc, hm⟩ := hr.shape
  rcases A with _ | ad
  · obtain rfl := hr.is_nil
    have h0 := Lib.run_eql_slice_nil (P := Try.prog)
    go_enter Try.func63, Try.ntmps63
    go_wp2
    go_ret
    exact ⟨_, rfl, OwnB.nil_ _ _, Chg.refl _ _⟩
  · have h0 := fun w => Lib.run_eql_slice_nil (P := Try.prog) w 26 5 (some ad) l.length c 0 0 Try.underlying26
    go_enter Try.func63, Try.ntmps63
    go_wp2_with (at_builtin; refine append_B rfl _ _ rfl (own_zero w) rfl (hr.al _) rfl (by simpa using hl) (by simp) ?_; intro v1 w1 hown1 hg1 hat1)
    go_ret
    exact ⟨v1, rfl, hown1, ((Chg.refl Non w).alloc _).own hg1 (by simp [Value.ownBlock])⟩
end Go.Proofs.Ytncchbcoldgpbaa

namespace Go.Proofs.Ytncchbcoldgpbaa

/-- the bytes of a number, the greatest first, none for 0; with fuel -/
def beF : Nat → Nat → List UInt8
  | 0, _ => []
  | f + 1, n => if n = 0 then [] else beF f (n / 256) ++ [UInt8.ofNat (n % 256)]
def be (n : Nat) : List UInt8 := beF 8 n

theorem beF_zero (f : Nat) : beF f 0 = [] := by cases f <;> simp [beF]
theorem beF_succ (f n : Nat) (h : 0 < n) : beF (f + 1) n = beF f (n / 256) ++ [UInt8.ofNat (n % 256)] := by rw [beF, if_neg (by omega)]
theorem beF_length (f n : Nat) : (beF f n).length ≤ f := by
  induction f generalizing n with
  | zero => simp [beF]
  | succ f ih => rw [beF]; split <;> simp [ih]

/-- a number as bytes -/
def numB (n : Nat) : List UInt8 := if n < 248 then [UInt8.ofNat n] else UInt8.ofNat (247 + (be n).length) :: be n
def numsB (l : List Nat) : List UInt8 := l.flatMap numB

theorem be_length (n : Nat) : (be n).length ≤ 8 := beF_length 8 n
theorem numB_length (n : Nat) : (numB n).length ≤ 9 := by
  unfold numB; split
  · simp
  · have := be_length n; simp; omega
theorem numsB_length (l : List Nat) : (numsB l).length ≤ 9 * l.length := by
  induction l with
  | nil => simp [numsB]
  | cons n l ih => have := numB_length n; simp only [numsB, List.flatMap_cons, List.length_append, List.length_cons] at ih ⊢; omega
theorem numsB_take (l : List Nat) (k : Nat) (h : k < l.length) : numsB (l.take (k + 1)) = numsB (l.take k) ++ numB l[k] := by
  rw [List.take_succ_eq_append_getElem h, numsB, List.flatMap_append]; simp [numsB]

theorem numB_small (n : Nat) (h : n ≤ 247) : numB n = [UInt8.ofNat n] := by rw [numB, if_pos (by omega)]
theorem numB_large (n : Nat) (h : ¬ n ≤ 247) : numB n = UInt8.ofNat (247 + (be n).length) :: be n := by rw [numB, if_neg (by omega)]
/-- one step of taking bytes off a number: f more are left room for -/
theorem beF_step {n f m : Nat} {rest : List UInt8} (h : beF (f + 1) m ++ rest = be n) (h0 : 0 < m) : beF f (m / 256) ++ (UInt8.ofNat (m % 256) :: rest) = be n := by
  rw [beF_succ f m h0, List.append_assoc] at h; exact h
theorem beF_stop {n f : Nat} {rest : List UInt8} (h : beF f 0 ++ rest = be n) : rest = be n := by rw [beF_zero] at h; exact h

/-- the number that bytes are, the greatest first -/
def valF (a : Nat) (l : List UInt8) : Nat := l.foldl (fun v b => v * 256 + b.toNat) a
def val (l : List UInt8) : Nat := valF 0 l

theorem valF_snoc (a : Nat) (l : List UInt8) (b : UInt8) : valF a (l ++ [b]) = valF a l * 256 + b.toNat := by simp [valF]
theorem val_snoc (l : List UInt8) (b : UInt8) : val (l ++ [b]) = val l * 256 + b.toNat := valF_snoc 0 l b
theorem val_lt (l : List UInt8) : val l < 256 ^ l.length := by
  suffices h : ∀ (n : Nat) (l : List UInt8), l.length = n → val l < 256 ^ n from h _ _ rfl
  intro n
  induction n with
  | zero => intro l h; rw [List.eq_nil_of_length_eq_zero h]; simp [val, valF]
  | succ n ih =>
    intro l h
    obtain ⟨s, b, rfl⟩ : ∃ s b, l = s ++ [b] := ⟨l.dropLast, l.getLast (by intro e; rw [e] at h; simp at h), (List.dropLast_concat_getLast _).symm⟩
    rw [List.length_append, List.length_singleton] at h
    have := ih s (by omega)
    have hb := b.toNat_lt
    rw [val_snoc, Nat.pow_succ]
    omega
theorem val_take_succ (l : List UInt8) (i : Nat) (h : i < l.length) : val (l.take (i + 1)) = val (l.take i) * 256 + l[i].toNat := by
  rw [List.take_succ_eq_append_getElem h, val_snoc]
theorem val_take_lt (l : List UInt8) (i : Nat) : val (l.take i) < 256 ^ i := by
  refine Nat.lt_of_lt_of_le (val_lt _) (Nat.pow_le_pow_right (by omega) ?_)
  rw [List.length_take]; omega

theorem valF_eq (l : List UInt8) : ∀ a, valF a l = a * 256 ^ l.length + val l := by
  induction l with
  | nil => intro a; simp [valF, val]
  | cons c l ih =>
    intro a
    have h1 : valF a (c :: l) = valF (a * 256 + c.toNat) l := rfl
    have h2 : val (c :: l) = valF (0 * 256 + c.toNat) l := rfl
    rw [h1, h2, ih, ih (0 * 256 + c.toNat), List.length_cons, Nat.pow_succ, Nat.add_mul, Nat.zero_mul, Nat.zero_add, Nat.mul_assoc, Nat.mul_comm 256, Nat.add_assoc]
theorem val_cons (c : UInt8) (l : List UInt8) : val (c :: l) = c.toNat * 256 ^ l.length + val l := by
  have h : val (c :: l) = valF (0 * 256 + c.toNat) l := rfl
  rw [h, valF_eq]; simp

theorem beF_len_le : ∀ (f n j : Nat), n < 256 ^ j → (beF f n).length ≤ j
  | 0, _, _, _ => by simp [beF]
  | f + 1, n, j, h => by
    rw [beF]
    split
    · simp
    · rename_i h0
      cases j with
      | zero => simp at h; omega
      | succ j =>
        have := beF_len_le f (n / 256) j (Nat.div_lt_of_lt_mul (by rw [Nat.mul_comm, ← Nat.pow_succ]; exact h))
        simp; omega
theorem beF_len_ge : ∀ (f n j : Nat), 256 ^ j ≤ n → j < f → j < (beF f n).length
  | 0, _, _, _, h => by omega
  | f + 1, n, j, h, hj => by
    have hp : 0 < 256 ^ j := Nat.pow_pos (by omega)
    rw [beF, if_neg (by omega)]
    cases j with
    | zero => simp
    | succ j =>
      have := beF_len_ge f (n / 256) j ((Nat.le_div_iff_mul_le (by omega)).2 (by rw [← Nat.pow_succ]; exact h)) (by omega)
      simp; omega
/-- the shortest form is just that of the right length -/
theorem numB_len_iff (p : List UInt8) (h0 : 0 < p.length) (h8 : p.length ≤ 8) : (numB (val p)).length = p.length + 1 ↔ ¬ (val p ≤ 247 ∨ p.head? = some 0) := by
  obtain ⟨c, t, rfl⟩ : ∃ c t, p = c :: t := by cases p with
    | nil => simp at h0
    | cons c t => exact ⟨c, t, rfl⟩
  simp only [List.length_cons] at h0 h8 ⊢
  simp only [List.head?_cons, Option.some.injEq, not_or]
  have hv := val_cons c t
  have ht := val_lt t
  by_cases hs : val (c :: t) ≤ 247
  · rw [numB_small _ hs]; simp; omega
  · rw [numB_large _ hs]
    by_cases hc : c = 0
    · subst hc
      have : val (0 :: t) < 256 ^ t.length := by rw [hv]; simpa using ht
      have h1 := beF_len_le 8 _ _ this
      have h2 : (be (val (0 :: t))).length ≤ t.length := h1
      simp; omega
    · have hcpos : 0 < c.toNat := Nat.pos_of_ne_zero fun h => hc (UInt8.toNat_inj.1 h)
      have hge : 256 ^ t.length ≤ val (c :: t) := by
        rw [hv]
        exact Nat.le_trans (Nat.le_mul_of_pos_left _ hcpos) (Nat.le_add_right _ _)
      have hlt : val (c :: t) < 256 ^ (t.length + 1) := val_lt (c :: t)
      have h1 : t.length < (be (val (c :: t))).length := beF_len_ge 8 _ _ hge (by omega)
      have h2 : (be (val (c :: t))).length ≤ t.length + 1 := beF_len_le 8 _ _ hlt
      simp only [List.length_cons]
      exact ⟨fun _ => ⟨hs, hc⟩, fun _ => by omega⟩

theorem val_beF : ∀ (f n : Nat), n < 256 ^ f → val (beF f n) = n
  | 0, n, h => by simp at h; subst h; rfl
  | f + 1, n, h => by
    rw [beF]
    split
    · rename_i h0; subst h0; rfl
    · rw [val_snoc, val_beF f (n / 256) (Nat.div_lt_of_lt_mul (by rw [Nat.mul_comm, ← Nat.pow_succ]; exact h)), UInt8.toNat_ofNat']
      omega
theorem val_be {n : Nat} (h : n < 18446744073709551616) : val (be n) = n := val_beF 8 n (Nat.lt_of_lt_of_le h (Nat.le_of_eq (by decide)))

/-- the number at a place: itself, the place behind it, the error's number -/
def takeB (b : List UInt8) (at_ : Int) : Nat × Int × Int :=
  if at_ < 0 ∨ (b.length : Int) < at_ then (0, 0, 1) else
  match b.drop at_.toNat with
  | [] => (0, 0, 5)
  | f :: r =>
    if f.toNat ≤ 247 then (f.toNat, at_ + 1, 0)
    else if r.length < f.toNat - 247 then (0, 0, 5)
    else if val (r.take (f.toNat - 247)) ≤ 247 ∨ r.head? = some 0 then (0, 0, 3)
    else (val (r.take (f.toNat - 247)), at_ + 1 + ((f.toNat - 247 : Nat) : Int), 0)

theorem takeB_arg (b : List UInt8) (at_ : Int) (h : at_ < 0 ∨ (b.length : Int) < at_) : takeB b at_ = (0, 0, 1) := by rw [takeB, if_pos h]
theorem takeB_end (b : List UInt8) : takeB b b.length = (0, 0, 5) := by
  rw [takeB, if_neg (by omega), Int.toNat_natCast, List.drop_length]
theorem takeB_at (b : List UInt8) (a : Nat) (h : a < b.length) : takeB b a =
    if b[a].toNat ≤ 247 then (b[a].toNat, (a : Int) + 1, 0)
    else if (b.drop (a + 1)).length < b[a].toNat - 247 then (0, 0, 5)
    else if val ((b.drop (a + 1)).take (b[a].toNat - 247)) ≤ 247 ∨ (b.drop (a + 1)).head? = some 0 then (0, 0, 3)
    else (val ((b.drop (a + 1)).take (b[a].toNat - 247)), (a : Int) + 1 + ((b[a].toNat - 247 : Nat) : Int), 0) := by
  rw [takeB, if_neg (by omega), Int.toNat_natCast, List.drop_eq_getElem_cons h]
/-- what Number has written, Take takes -/
theorem takeB_numB {n : Nat} (h : n < 18446744073709551616) (pre post : List UInt8) : takeB (pre ++ numB n ++ post) (pre.length : Int) = (n, ((pre ++ numB n).length : Int), 0) := by
  by_cases h1 : n ≤ 247
  · have e : numB n = [UInt8.ofNat n] := numB_small n h1
    have hx : (UInt8.ofNat n).toNat = n := by rw [UInt8.toNat_ofNat']; omega
    rw [e, takeB_at _ _ (by simp)]
    have hb : (pre ++ [UInt8.ofNat n] ++ post)[pre.length]'(by simp) = UInt8.ofNat n := by simp
    rw [hb, hx, if_pos h1]
    simp
  · have e : numB n = UInt8.ofNat (247 + (be n).length) :: be n := numB_large n h1
    have hk := be_length n
    have hv := val_be h
    have hk0 : 0 < (be n).length := by
      rcases Nat.eq_zero_or_pos (be n).length with h0 | h0
      · rw [List.eq_nil_of_length_eq_zero h0] at hv
        have : val [] = 0 := rfl
        omega
      · exact h0
    have hx : (UInt8.ofNat (247 + (be n).length)).toNat = 247 + (be n).length := by rw [UInt8.toNat_ofNat']; omega
    have hf := (numB_len_iff (be n) hk0 hk).1 (by rw [hv, e]; simp)
    rw [hv] at hf
    rw [e, takeB_at _ _ (by simp)]
    have hb : (pre ++ (UInt8.ofNat (247 + (be n).length) :: be n) ++ post)[pre.length]'(by simp) = UInt8.ofNat (247 + (be n).length) := by simp
    have hd : (pre ++ (UInt8.ofNat (247 + (be n).length) :: be n) ++ post).drop (pre.length + 1) = be n ++ post := by
      rw [List.append_assoc, ← List.drop_drop, List.drop_left]; rfl
    have hkk : 247 + (be n).length - 247 = (be n).length := by omega
    have hh : (be n ++ post).head? = (be n).head? := by
      cases hbe : be n with
      | nil => rw [hbe] at hk0; simp at hk0
      | cons => rfl
    rw [hb, hx, hd, if_neg (by omega), hkk, if_neg (by simp), List.take_left, hv, hh, if_neg hf]
    simp only [List.length_append, List.length_cons, Prod.mk.injEq, true_and, and_true]
    omega
theorem takeB_numsB {l : List Nat} (hl : ∀ n ∈ l, n < 18446744073709551616) (k : Nat) (h : k < l.length) :
    takeB (numsB l) ((numsB (l.take k)).length : Int) = (l[k], ((numsB (l.take (k + 1))).length : Int), 0) := by
  have e : numsB l = numsB (l.take k) ++ numB l[k] ++ numsB (l.drop (k + 1)) := by
    rw [← numsB_take l k h]
    unfold numsB
    rw [← List.flatMap_append, List.take_append_drop]
  rw [numsB_take l k h, ← takeB_numB (hl _ (List.getElem_mem h)) (numsB (l.take k)) (numsB (l.drop (k + 1))), ← e]
end Go.Proofs.Ytncchbcoldgpbaa

namespace Go.Proofs.Ytncchbcoldgpbaa
open Go.RowKit

theorem len8 : Try.prog.arrayLen 165 = 8 := by kernel_rfl
theorem slice_arr8 (w : World) (g a r : Nat) (ha : a + r = 8) (hr : 0 < r) : (Instr.sliceAt 165 (.pointer (some ⟨g, 0, none⟩)) (some (.int .i64 (a : Int))) none none).run Try.prog w = .ok (.slice (some ⟨g, a, none⟩) r r) w := by
  rw [run_sliceAt_array_l (P := Try.prog) w 165 ⟨g, 0, none⟩ (by kernel_rfl) .i64 (a : Int) (by omega) (by rw [len8]; omega)]
  rw [len8]
  have h1 : (sizeOf (Try.prog.elem 165)).run Try.prog w = .ok 1 w := by kernel_rfl
  rw [h1]
  have e : 8 - a = r := by omega
  simp only [Result.andThen, slicedAt, Int.toNat_natCast, Nat.mul_one, add_none, Nat.zero_add, e]
  rw [if_neg (by omega)]

set_option maxHeartbeats 400000 in
theorem packNumber {v : Value} {l : List Nat} {F : Nat → Prop} {w : World} (hr : RdU w F v l) (hl : 9 * l.length ≤ 140737488355328) :
    Calls Try.prog 48 #[v] w fun e w' => ∃ u, e = .returned u ∧ OwnB w' w.heap.size u (numsB l) ∧ Chg Non w w' := by
  obtain ⟨A, c, rfl, hc, hm⟩ := hr.shape
  unfold maxLen at hm
  go_enter Try.func48, Try.ntmps48
  go_wp2
  go_loopw [3, 11] (fun out i wr => ∃ k : Nat, k ≤ l.length ∧ i = .int .i64 k ∧ OwnB wr w.heap.size out (numsB (l.take k)) ∧ Chg Non w wr) (fun _ i _ => l.length - (intOf i).toNat)
  case atStart => exact ⟨0, Nat.zero_le _, rfl, OwnB.nil_ _ _, Chg.refl _ _⟩
  case round =>
    obtain ⟨k, hk, rfl, hown, hchg⟩ := hrel
    by_cases h1 : k < l.length
    · obtain ⟨ad, rfl, _, hu, hca⟩ := (hr.c0 hchg).at_ h1
      have HU := hide hu
      clear hu
      have HT := hide (numsB_take l k h1)
      have hnn := numsB_length (l.take k)
      rw [List.length_take, Nat.min_eq_left hk] at hnn
      obtain ⟨n, hn⟩ : ∃ n, n = l[k] := ⟨_, rfl⟩
      rw [← hn] at HT HU hca
      clear hn
      by_cases h2 : n ≤ 247
      · have HN := hide (numB_small n h2)
        go_wp2_with (at_builtin; refine append_B rfl _ _ rfl (hown.al _) rfl (own_one wr (UInt8.ofNat n) _ ?_).rd rfl ?_ ?_ ?_; rotate_left 3; intro v1 w1 hown1 hg1 hat1)
        · go_roundw
          case rel =>
            refine ⟨k + 1, by omega, by go_num, ?_, (hchg.alloc _).own hg1 fun q hq => (hown.lt q hq).1⟩
            rw [HT.out, HN.out]; exact hown1
          case measure => simp [intOf]; omega
        · rw [UInt8.toNat_ofNat']; omega
        · simp; omega
        · have := hchg.size; simp; omega
      · go_wp2
        obtain ⟨g, hg⟩ : ∃ g, g = wr.heap.size := ⟨_, rfl⟩
        have hb0 := Blk.new wr 165 #[.int .u8 0, .int .u8 0, .int .u8 0, .int .u8 0, .int .u8 0, .int .u8 0, .int .u8 0, .int .u8 0]
        have hc0 := hchg.alloc (.cells #[.int .u8 0, .int .u8 0, .int .u8 0, .int .u8 0, .int .u8 0, .int .u8 0, .int .u8 0, .int .u8 0] 165)
        have ho0 := hown.al (.cells #[.int .u8 0, .int .u8 0, .int .u8 0, .int .u8 0, .int .u8 0, .int .u8 0, .int .u8 0, .int .u8 0] 165)
        have hlt := fun k hk => (hown.lt k hk).2
        rw [← hg] at hb0
        obtain ⟨wo, hwo⟩ : ∃ wo, wo = wr.alloc (.cells #[.int .u8 0, .int .u8 0, .int .u8 0, .int .u8 0, .int .u8 0, .int .u8 0, .int .u8 0, .int .u8 0] 165) := ⟨_, rfl⟩
        rw [← hwo] at hb0 hc0 ho0 ⊢
        rw [← hg] at hlt ⊢
        have hge : w.heap.size ≤ g := by rw [hg]; exact hchg.size
        clear hg hwo
        go_loopw [5, 7] (fun mv av w2 => ∃ (m a : Nat) (rest : List UInt8) (arr : Array Value), a + rest.length = 8 ∧ mv = .int .u64 m ∧ av = .int .i64 a ∧ Hid (beF a m ++ rest = be n) ∧ Hid (m < 256 ^ a) ∧
            Blk w2 g 165 arr ∧ Hid (arr.size = 8 ∧ arr.toList.drop a = bvs rest) ∧ Chg (fun k => k = g) wo w2) (fun _ a _ => (intOf a).toNat)
        case atStart => exact ⟨n, 8, [], _, rfl, rfl, rfl, hide (by rw [List.append_nil]; rfl), hide (by have := HU.out; unfold U64 at this; omega), hb0, hide ⟨rfl, rfl⟩, Chg.refl _ _⟩
        case round =>
          obtain ⟨m, a, rest, arr, ha, rfl, rfl, hbe, hm2, hblk, harr, hc2⟩ := hrel
          by_cases h3 : 0 < m
          · cases a with
            | zero => have := hm2.out; simp at this; omega
            | succ b =>
            have HS := hide (beF_step hbe.out h3)
            have hcell := hblk.cell b
            rw [Array.getElem?_eq_getElem (by have := harr.out.1; omega)] at hcell
            have hfr := hblk.frozen b
            go_wp2
            go_roundw
            case rel =>
              have h8 := harr.out.1
              have hbl : b < arr.size := by omega
              refine ⟨m / 256, b, UInt8.ofNat (m % 256) :: rest, arr.setIfInBounds b (.int .u8 ((m % 256 : Nat) : Int)), by simp; omega, by go_num, rfl, hide HS.out, hide ?_, hblk.set_ b _, hide ⟨by simpa using h8, ?_⟩, hc2.setCell (fun _ => rfl) _⟩
              · have := hm2.out
                rw [Nat.pow_succ] at this
                exact Nat.div_lt_of_lt_mul (by rw [Nat.mul_comm]; exact this)
              · rw [Array.toList_setIfInBounds, List.drop_eq_getElem_cons (by simpa using hbl), List.drop_set_of_lt (by omega), harr.out.2]
                simp [bvs, bv]
            case measure => simp [intOf]
          · have h4 : m = 0 := by omega
            subst h4
            have HB := hide (beF_stop hbe.out)
            have hr0 : 0 < rest.length := by
              rw [HB.out]
              unfold be; rw [beF_succ 7 n (by omega)]; simp
            have hsl := fun w => slice_arr8 w g a rest.length ha hr0
            have hrest : RdB wr (fun q => q = g) (.slice (some ⟨g, a, none⟩) rest.length rest.length) rest :=
              RdB.of_blk hblk (by rw [harr.out.2, List.take_of_length_le]; rw [bvs_length]; exact Nat.le_refl _) (Nat.le_refl _) (by simp only [maxLen]; omega)
            have ho2 := ho0.chg hc2 (fun q hq e => by have := hlt q hq; omega)
            have hc3 := hc0.trans hc2 (fun q hq e => by omega)
            have hr8 : rest.length ≤ 8 := by omega
            have HN := hide (numB_large n h2)
            go_wp2_with (first
              | (at_builtin; refine append_B rfl _ _ rfl (ho2.al _) rfl (own_one wr (UInt8.ofNat (247 + rest.length)) _ ?_).rd rfl ?_ ?_ ?_; rotate_left 3; intro v1 w1 hown1 hg1 hat1)
              | (at_builtin; refine append_B rfl _ _ rfl hown1 rfl ((hrest.al _).chg (Chg.of_grown hg1) ?_) rfl ?_ ?_ ?_; rotate_left 3; intro v2 w2 hown2 hg2 hat2))
            · go_roundw
              case rel =>
                refine ⟨k + 1, by omega, by go_num, ?_, ((hc3.alloc _).own hg1 fun q hq => (ho2.lt q hq).1).own hg2 fun q hq => (hown1.lt q hq).1⟩
                rw [HT.out, HN.out, ← HB.out, List.append_cons]; exact hown2
              case measure => simp [intOf]; omega
            · intro q e he; subst e; have := hlt q he.symm; omega
            · simp; omega
            · have h1 := hc3.size; have h2 := hg1.size; simp at h2; omega
            · rw [UInt8.toNat_ofNat']; omega
            · simp; omega
            · have h1 := hc3.size; simp; omega
    · have hk2 : k = l.length := by omega
      go_wp2
      go_ret
      refine ⟨_, rfl, ?_, hchg⟩
      rw [hk2, List.take_length] at hown
      exact hown
end Go.Proofs.Ytncchbcoldgpbaa

namespace Go.Proofs.Ytncchbcoldgpbaa

/-! ### the number at the head -/
def hd (r : List UInt8) : Nat × Nat × Int :=
  match r with
  | [] => (0, 0, 5)
  | f :: r =>
    if f.toNat ≤ 247 then (f.toNat, 1, 0)
    else if r.length < f.toNat - 247 then (0, 0, 5)
    else if val (r.take (f.toNat - 247)) ≤ 247 ∨ r.head? = some 0 then (0, 0, 3)
    else (val (r.take (f.toNat - 247)), 1 + (f.toNat - 247), 0)
theorem takeB_hd (b : List UInt8) (a : Nat) (h : a ≤ b.length) : takeB b (a : Int) = ((hd (b.drop a)).1, if (hd (b.drop a)).2.2 = 0 then ((a + (hd (b.drop a)).2.1 : Nat) : Int) else 0, (hd (b.drop a)).2.2) := by
  rw [takeB, if_neg (by omega), Int.toNat_natCast]
  cases hb : b.drop a with
  | nil => rfl
  | cons f r =>
    by_cases h1 : f.toNat ≤ 247
    · simp only [hd, if_pos h1, if_true]
      refine Prod.ext rfl (Prod.ext ?_ rfl)
      show (a : Int) + 1 = ((a + 1 : Nat) : Int)
      omega
    · by_cases h2 : r.length < f.toNat - 247
      · simp only [hd, if_neg h1, if_pos h2]
        rfl
      · by_cases h3 : val (r.take (f.toNat - 247)) ≤ 247 ∨ r.head? = some 0
        · simp only [hd, if_neg h1, if_neg h2, if_pos h3]
          rfl
        · simp only [hd, if_neg h1, if_neg h2, if_neg h3, if_true]
          generalize val (r.take (f.toNat - 247)) = x
          refine Prod.ext rfl (Prod.ext ?_ rfl)
          show (a : Int) + 1 + ((f.toNat - 247 : Nat) : Int) = ((a + (1 + (f.toNat - 247)) : Nat) : Int)
          omega
theorem hd_numB {n : Nat} (h : n < 18446744073709551616) (post : List UInt8) : hd (numB n ++ post) = (n, (numB n).length, 0) := by
  have h1 := takeB_numB h [] post
  have h2 := takeB_hd (numB n ++ post) 0 (Nat.zero_le _)
  simp only [List.nil_append, List.length_nil, List.drop_zero] at h1 h2
  rw [h1] at h2
  simp only [Prod.mk.injEq] at h2
  obtain ⟨e1, e2, e3⟩ := h2
  rw [← e3, if_pos rfl] at e2
  refine Prod.ext e1.symm (Prod.ext ?_ e3.symm)
  show (hd (numB n ++ post)).2.1 = (numB n).length
  omega
theorem hd_used (r : List UInt8) (h : (hd r).2.2 = 0) : 0 < (hd r).2.1 ∧ (hd r).2.1 ≤ r.length ∧ (hd r).2.1 ≤ 9 := by
  cases r with
  | nil => simp [hd] at h
  | cons f r =>
    have hf := f.toNat_lt
    simp only [hd] at h ⊢
    split at h
    · rename_i h1; simp [h1]
    · rename_i h1
      split at h
      · simp at h
      · rename_i h2
        split at h
        · simp at h
        · rename_i h3
          rw [if_neg h1, if_neg h2, if_neg h3]
          simp only [List.length_cons]
          omega
theorem hd_err (r : List UInt8) (h : (hd r).2.2 ≠ 0) : hd r = (0, 0, 3) ∨ hd r = (0, 0, 5) := by
  cases r with
  | nil => exact .inr rfl
  | cons f r =>
    simp only [hd] at h ⊢
    split at h
    · simp at h
    · rename_i h1
      split at h
      · rename_i h2; rw [if_neg h1, if_pos h2]; exact .inr rfl
      · rename_i h2
        split at h
        · rename_i h3; rw [if_neg h1, if_neg h2, if_pos h3]; exact .inl rfl
        · simp at h
theorem pow8_lt {n k : Nat} (hk : k ≤ 8) (h : n < 256 ^ k) : n < 18446744073709551616 :=
  Nat.lt_of_lt_of_le h (Nat.le_trans (Nat.pow_le_pow_right (by omega) hk) (Nat.le_of_eq (by decide)))
theorem hd_lt (r : List UInt8) : (hd r).1 < 18446744073709551616 := by
  cases r with
  | nil => simp [hd]
  | cons f r =>
    have hf := f.toNat_lt
    by_cases h1 : f.toNat ≤ 247
    · simp only [hd, if_pos h1]; omega
    · by_cases h2 : r.length < f.toNat - 247
      · simp only [hd, if_neg h1, if_pos h2]; omega
      · by_cases h3 : val (r.take (f.toNat - 247)) ≤ 247 ∨ r.head? = some 0
        · simp only [hd, if_neg h1, if_neg h2, if_pos h3]; omega
        · simp only [hd, if_neg h1, if_neg h2, if_neg h3]
          have h := val_lt (r.take (f.toNat - 247))
          have hl : (r.take (f.toNat - 247)).length ≤ 8 := by rw [List.length_take]; omega
          generalize val (r.take (f.toNat - 247)) = x at h ⊢
          exact pow8_lt hl h
theorem be_val : ∀ (k : Nat) (p : List UInt8), p.length ≤ k → p.head? ≠ some 0 → beF k (val p) = p
  | 0, p, h, _ => by rw [List.eq_nil_of_length_eq_zero (show p.length = 0 by omega)]; rfl
  | k + 1, p, h, h0 => by
    rcases List.eq_nil_or_concat p with rfl | ⟨q, c, rfl⟩
    · exact beF_zero _
    · simp only [List.concat_eq_append] at h h0 ⊢
      have hc := c.toNat_lt
      rw [val_snoc]
      have hq : q.head? ≠ some 0 := by
        cases q with
        | nil => simp
        | cons x q => simpa using h0
      have hpos : 0 < val q * 256 + c.toNat := by
        cases q with
        | nil =>
          have : c ≠ 0 := by simpa using h0
          have h1 : c.toNat ≠ 0 := fun e => this (UInt8.toNat_inj.1 e)
          omega
        | cons x q =>
          have : x ≠ 0 := by simpa using h0
          have h1 : x.toNat ≠ 0 := fun e => this (UInt8.toNat_inj.1 e)
          have h2 : 0 < x.toNat * 256 ^ q.length := Nat.mul_pos (by omega) (Nat.pow_pos (by omega))
          rw [val_cons]
          omega
      rw [beF_succ _ _ hpos, show (val q * 256 + c.toNat) / 256 = val q by omega, show (val q * 256 + c.toNat) % 256 = c.toNat by omega, be_val k q (by simpa using h) hq]
      simp
/-- what is taken is what Number writes -/
theorem hd_inv (r : List UInt8) (h : (hd r).2.2 = 0) : r.take (hd r).2.1 = numB (hd r).1 := by
  cases r with
  | nil => simp [hd] at h
  | cons f r =>
    have hf := f.toNat_lt
    simp only [hd] at h ⊢
    split at h
    · rename_i h1
      rw [if_pos h1]
      simp only [List.take_succ_cons, List.take_zero]
      rw [numB_small _ h1]
      simp
    · rename_i h1
      split at h
      · simp at h
      · rename_i h2
        split at h
        · simp at h
        · rename_i h3
          rw [if_neg h1, if_neg h2, if_neg h3]
          have hl : (r.take (f.toNat - 247)).length = f.toNat - 247 := by rw [List.length_take]; omega
          simp only [not_or] at h3
          have hh : (r.take (f.toNat - 247)).head? ≠ some 0 := by
            rw [List.head?_take, if_neg (by omega)]; exact h3.2
          have hb : be (val (r.take (f.toNat - 247))) = r.take (f.toNat - 247) := be_val 8 _ (by omega) hh
          rw [numB_large _ h3.1, hb, hl, show 247 + (f.toNat - 247) = f.toNat by omega, show 1 + (f.toNat - 247) = f.toNat - 247 + 1 by omega, List.take_succ_cons]
          simp
theorem hd_short (n i : Nat) (h : i < (numB n).length) : hd ((numB n).take i) = (0, 0, 5) := by
  by_cases h1 : n ≤ 247
  · rw [numB_small n h1] at h ⊢
    simp at h
    subst h
    rfl
  · rw [numB_large n h1] at h ⊢
    have hk := be_length n
    cases i with
    | zero => rfl
    | succ i =>
      have hx : (UInt8.ofNat (247 + (be n).length)).toNat = 247 + (be n).length := by rw [UInt8.toNat_ofNat']; omega
      simp only [List.length_cons] at h
      simp only [List.take_succ_cons, hd, hx]
      rw [if_neg (by omega), if_pos (by rw [List.length_take]; omega)]

/-! ### parts -/
def partB (l : List UInt8) : List UInt8 := numB l.length ++ l
def flatB (ll : List (List UInt8)) : List UInt8 := ll.flatMap partB
def joinB (ll : List (List UInt8)) : List UInt8 := numB ll.length ++ flatB ll
theorem flatB_cons (l : List UInt8) (ll : List (List UInt8)) : flatB (l :: ll) = partB l ++ flatB ll := rfl
theorem flatB_take (ll : List (List UInt8)) (k : Nat) (h : k < ll.length) : flatB (ll.take (k + 1)) = flatB (ll.take k) ++ partB ll[k] := by
  rw [List.take_succ_eq_append_getElem h, flatB, List.flatMap_append]; simp [flatB]
theorem flatB_length (ll : List (List UInt8)) : (flatB ll).length ≤ 9 * (ll.map fun l => l.length + 1).sum := by
  induction ll with
  | nil => simp [flatB]
  | cons l ll ih =>
    have := numB_length l.length
    rw [flatB_cons]
    simp only [partB, List.length_append, List.map_cons, List.sum_cons]
    omega
/-- m more parts -/
def resF : Nat → List (List UInt8) → List UInt8 → List (List UInt8) × Int
  | 0, done, r => if 0 < r.length then ([], 3) else (done, 0)
  | m + 1, done, r =>
    if (hd r).2.2 ≠ 0 then ([], (hd r).2.2)
    else if (r.drop (hd r).2.1).length < (hd r).1 then ([], 5)
    else resF m (done ++ [(r.drop (hd r).2.1).take (hd r).1]) (r.drop ((hd r).2.1 + (hd r).1))
def splitB (b : List UInt8) : List (List UInt8) × Int := if (hd b).2.2 ≠ 0 then ([], (hd b).2.2) else resF (hd b).1 [] (b.drop (hd b).2.1)

def Fits (ll : List (List UInt8)) : Prop := ll.length < 18446744073709551616 ∧ ∀ l ∈ ll, l.length < 18446744073709551616
theorem hd_part {l : List UInt8} (h : l.length < 18446744073709551616) (post : List UInt8) : hd (partB l ++ post) = (l.length, (numB l.length).length, 0) := by
  rw [partB, List.append_assoc, hd_numB h]
theorem resF_join : ∀ (ll : List (List UInt8)) (done : List (List UInt8)) (post : List UInt8), (∀ l ∈ ll, l.length < 18446744073709551616) →
    resF ll.length done (flatB ll ++ post) = if 0 < post.length then ([], 3) else (done ++ ll, 0)
  | [], done, post, _ => by simp [resF, flatB]
  | l :: ll, done, post, h => by
    have hl := h l (by simp)
    rw [flatB_cons, List.append_assoc, List.length_cons, resF, hd_part hl]
    simp only [ne_eq, not_true, if_false]
    have e1 : (partB l ++ (flatB ll ++ post)).drop (numB l.length).length = l ++ (flatB ll ++ post) := by
      rw [partB, List.append_assoc, List.drop_left]
    rw [e1, if_neg (by simp), List.take_left, ← List.drop_drop, e1, List.drop_left, resF_join ll _ post fun x hx => h x (by simp [hx])]
    simp
theorem splitB_joinB (ll : List (List UInt8)) (h : Fits ll) (post : List UInt8) : splitB (joinB ll ++ post) = if 0 < post.length then ([], 3) else (ll, 0) := by
  rw [splitB, joinB, List.append_assoc, hd_numB h.1]
  simp only [ne_eq, not_true, if_false]
  rw [List.drop_left, resF_join ll [] post h.2]
  simp
theorem splitB_join (ll : List (List UInt8)) (h : Fits ll) : splitB (joinB ll) = (ll, 0) := by
  have := splitB_joinB ll h []
  simpa using this
theorem resF_short : ∀ (ll : List (List UInt8)) (done : List (List UInt8)) (i : Nat), (∀ l ∈ ll, l.length < 18446744073709551616) → i < (flatB ll).length →
    resF ll.length done ((flatB ll).take i) = ([], 5)
  | [], done, i, _, hi => by simp [flatB] at hi
  | l :: ll, done, i, h, hi => by
    have hl := h l (by simp)
    rw [flatB_cons] at hi ⊢
    rw [List.length_cons, resF]
    by_cases h1 : i < (numB l.length).length
    · have e : (partB l ++ flatB ll).take i = (numB l.length).take i := by
        rw [partB, List.append_assoc, List.take_append_of_le_length (by omega)]
      rw [e, hd_short _ _ h1]
      simp
    · have e : (partB l ++ flatB ll).take i = numB l.length ++ (l ++ flatB ll).take (i - (numB l.length).length) := by
        rw [partB, List.append_assoc, List.take_append, List.take_of_length_le (by omega)]
      rw [e, hd_numB hl]
      simp only [ne_eq, not_true, if_false]
      rw [List.drop_left]
      by_cases h2 : i - (numB l.length).length < l.length
      · rw [if_pos (by rw [List.length_take]; omega)]
      · rw [if_neg (by rw [List.length_take, List.length_append]; omega), ← List.drop_drop, List.drop_left, List.drop_take, List.drop_left]
        refine resF_short ll _ _ (fun x hx => h x (by simp [hx])) ?_
        simp only [partB, List.length_append] at hi
        omega
theorem splitB_short (ll : List (List UInt8)) (h : Fits ll) (i : Nat) (hi : i < (joinB ll).length) : splitB ((joinB ll).take i) = ([], 5) := by
  rw [splitB]
  by_cases h1 : i < (numB ll.length).length
  · have e : (joinB ll).take i = (numB ll.length).take i := by
      rw [joinB, List.take_append_of_le_length (by omega)]
    rw [e, hd_short _ _ h1]
    simp
  · have e : (joinB ll).take i = numB ll.length ++ (flatB ll).take (i - (numB ll.length).length) := by
      rw [joinB, List.take_append, List.take_of_length_le (by omega)]
    rw [e, hd_numB h.1]
    simp only [ne_eq, not_true, if_false]
    rw [List.drop_left]
    refine resF_short ll _ _ h.2 ?_
    simp only [joinB, List.length_append] at hi
    omega
theorem resF_inv : ∀ (m : Nat) (done : List (List UInt8)) (r : List UInt8) (out : List (List UInt8)), resF m done r = (out, 0) → ∃ ll, ll.length = m ∧ out = done ++ ll ∧ r = flatB ll
  | 0, done, r, out, h => by
    rw [resF] at h
    split at h
    · simp at h
    · rename_i h0
      injection h with h _
      exact ⟨[], rfl, by simp [h], List.eq_nil_of_length_eq_zero (by omega)⟩
  | m + 1, done, r, out, h => by
    rw [resF] at h
    split at h
    · rename_i h0
      injection h with _ h
      exact absurd h h0
    · rename_i h0
      have h0 := Decidable.not_not.1 h0
      split at h
      · simp at h
      · rename_i h1
        obtain ⟨ll, e1, e2, e3⟩ := resF_inv m _ _ _ h
        obtain ⟨_, hu, _⟩ := hd_used r h0
        refine ⟨(r.drop (hd r).2.1).take (hd r).1 :: ll, by simp [e1], by simp [e2], ?_⟩
        have hl : ((r.drop (hd r).2.1).take (hd r).1).length = (hd r).1 := by rw [List.length_take]; omega
        rw [flatB_cons, ← e3, partB, hl, ← hd_inv r h0, List.append_assoc, ← List.drop_drop, List.take_append_drop, List.take_append_drop]
theorem splitB_inv (b : List UInt8) (out : List (List UInt8)) (h : splitB b = (out, 0)) : joinB out = b := by
  rw [splitB] at h
  split at h
  · rename_i h0
    injection h with _ h
    exact absurd h h0
  · rename_i h0
    have h0 := Decidable.not_not.1 h0
    obtain ⟨ll, e1, e2, e3⟩ := resF_inv _ _ _ _ h
    rw [List.nil_append] at e2
    subst e2
    rw [joinB, e1, ← hd_inv b h0, ← e3, List.take_append_drop]
end Go.Proofs.Ytncchbcoldgpbaa

namespace Go.Proofs.Ytncchbcoldgpbaa
open Go.RowKit

theorem size_u8 (w : World) : (sizeOf (Try.prog.elem 26)).run Try.prog w = .ok 1 w := by kernel_rfl
theorem under_elem8 : Try.prog.underlying 26 = some (.slice (Try.prog.elem 26)) := by kernel_rfl

/-- 's[i:j]' of a slice whose value is kept closed -/
theorem run_cut {w : World} {F : Nat → Prop} {v : Value} {l : List UInt8} (h : RdB w F v l) {i j : Nat} {x y : Int} (hx : x = (i : Int)) (hy : y = (j : Int)) (hi : i ≤ j) (hj : j ≤ l.length) :
    ∃ sv, RdB w F sv ((l.drop i).take (j - i)) ∧ ∀ w' : World, (Instr.slice 26 v (some (.int .i64 x)) (some (.int .i64 y)) none).run Try.prog w' = .ok sv w' := by
  obtain ⟨A, c, rfl, hc, hm⟩ := h.shape
  subst hx; subst hy
  refine ⟨_, h.piece hi hj, fun w' => ?_⟩
  rw [run_slice_lh (P := Try.prog) w' 26 A l.length c under_elem8 .i64 .i64 (i : Int) (j : Int) (by omega) (by omega) (by omega), size_u8]
  simp only [Result.andThen, sliced, Int.toNat_natCast, Nat.mul_one]
/-- 's[i:]' -/
theorem run_cut_l {w : World} {F : Nat → Prop} {v : Value} {l : List UInt8} (h : RdB w F v l) {i : Nat} {x : Int} (hx : x = (i : Int)) (hi : i ≤ l.length) :
    ∃ sv, RdB w F sv (l.drop i) ∧ ∀ w' : World, (Instr.slice 26 v (some (.int .i64 x)) none none).run Try.prog w' = .ok sv w' := by
  obtain ⟨A, c, rfl, hc, hm⟩ := h.shape
  subst hx
  have hp := h.piece hi (Nat.le_refl _)
  rw [List.take_of_length_le (by simp)] at hp
  refine ⟨_, hp, fun w' => ?_⟩
  rw [run_slice_l (P := Try.prog) w' 26 A l.length c under_elem8 .i64 (i : Int) (by omega) (by omega), size_u8]
  simp only [Result.andThen, sliced, Int.toNat_natCast, Nat.mul_one]
/-- 's[:j]' -/
theorem run_cut_h {w : World} {F : Nat → Prop} {v : Value} {l : List UInt8} (h : RdB w F v l) {j : Nat} {y : Int} (hy : y = (j : Int)) (hj : j ≤ l.length) :
    ∃ sv, RdB w F sv (l.take j) ∧ ∀ w' : World, (Instr.slice 26 v none (some (.int .i64 y)) none).run Try.prog w' = .ok sv w' := by
  obtain ⟨A, c, rfl, hc, hm⟩ := h.shape
  subst hy
  have hp := h.piece (Nat.zero_le j) hj
  rw [List.drop_zero, Nat.sub_zero] at hp
  refine ⟨_, hp, fun w' => ?_⟩
  rw [run_slice_h (P := Try.prog) w' 26 A l.length c under_elem8 .i64 (j : Int) (by omega) (by omega), size_u8]
  simp only [Result.andThen, sliced, Int.toNat_natCast, Nat.zero_mul, Nat.sub_zero]
/-- 'len(s)' -/
theorem run_len8 {w : World} {F : Nat → Prop} {v : Value} {l : List UInt8} (h : RdB w F v l) (w' : World) (ty : TypeId) : (Builtin.len_ #[26] ty #[v]).run Try.prog w' = .ok (.int .i64 (l.length : Int)) w' := by
  obtain ⟨A, c, rfl, hc, hm⟩ := h.shape
  simp [Builtin.len_, run_underlying under_elem8, goInt]

/-! ### worlds that differ by draws alone -/
def Quiet (w w' : World) : Prop := ∃ k, w' = w.drewN k
theorem Quiet.dn {w w' : World} (h : Quiet w w') (q : Nat) : Quiet w (w'.drewN q) := by
  obtain ⟨k, rfl⟩ := h
  exact ⟨k + q, World.drewN_drewN w k q⟩
theorem Quiet.rdbb {w w' : World} (h : Quiet w w') {F : Nat → Prop} {v : Value} {ll : List (List UInt8)} (hr : RdBB w F v ll) : RdBB w' F v ll := by
  obtain ⟨k, rfl⟩ := h
  exact hr.dn k
theorem Quiet.rdb {w w' : World} (h : Quiet w w') {F : Nat → Prop} {v : Value} {l : List UInt8} (hr : RdB w F v l) : RdB w' F v l := by
  obtain ⟨k, rfl⟩ := h
  exact hr.dn k
theorem Quiet.refl (w : World) : Quiet w w := ⟨0, rfl⟩
theorem Quiet.trans {w w' w'' : World} (h : Quiet w w') (h' : Quiet w' w'') : Quiet w w'' := by
  obtain ⟨k, rfl⟩ := h'
  exact h.dn k
end Go.Proofs.Ytncchbcoldgpbaa
