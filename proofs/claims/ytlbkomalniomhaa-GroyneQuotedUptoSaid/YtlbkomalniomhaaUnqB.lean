/- The walk of label.Unquote, at what Quote writes. -/
import Derived.Test.YtlbkomalniomhaaUnq
namespace Go.Proofs.Ytlbkomalniomhaa
open Go.RowKit

/-- the string s has the bytes l -/
structure Str (s : ByteArray) (l : List UInt8) : Prop where
  sz : s.size = l.length
  get : ∀ (i : Nat) (h : i < s.size) (h' : i < l.length), s[i] = l[i]
  emp : s.toList.isEmpty = l.isEmpty
  ext : ∀ i, s.extract i s.size = ⟨(l.drop i).toArray⟩
theorem Str.of (l : List UInt8) : Str ⟨l.toArray⟩ l where
  sz := by show l.toArray.size = _; simp
  get := fun i h h' => by show l.toArray[i] = _; simp
  emp := by rw [toList_mk]
  ext := fun i => by
    apply ByteArray.ext
    show (ByteArray.extract ⟨l.toArray⟩ i l.toArray.size).data = (l.drop i).toArray
    rw [ByteArray.data_extract]
    simp
    exact List.take_of_length_le (by rw [List.length_drop]; omega)
theorem Str.tail {s : ByteArray} {a t : List UInt8} {n : Nat} (h : Str s (a ++ t)) (hn : a.length = n) : ∃ s2, s.extract n s.size = s2 ∧ Str s2 t := by
  refine ⟨_, h.ext n, ?_⟩
  rw [← hn, List.drop_left]
  exact Str.of t
def tlB (r : List UInt8) : List UInt8 := r.flatMap qB ++ [34]
theorem tlB_cons (c : UInt8) (r : List UInt8) : tlB (c :: r) = qB c ++ tlB r := by simp [tlB]
theorem tlB_len (r : List UInt8) : (tlB r).length ≤ 4 * r.length + 1 := by
  have h1 : ([34] : List UInt8).length = 1 := rfl
  have h2 := flat_len r
  rw [tlB, List.length_append, h1]; omega
theorem tlB_pos (r : List UInt8) : 0 < (tlB r).length := by simp [tlB]
theorem tlB_ne (r : List UInt8) : (tlB r).isEmpty = false := by simp [tlB]
def strLen : Value → Nat
  | .string s => s.size
  | _ => 0

set_option maxRecDepth 100000 in
set_option maxHeartbeats 4000000 in
theorem labelUnquote {b : List UInt8} {w : World} (hbl : b.length ≤ 1000000000) :
    Calls Try.prog 5 #[.string ⟨(quoB b).toArray⟩] w fun e w' => ∃ u, e = .returned (.tuple #[u, .int .i64 0]) ∧ OwnB w' w.heap.size u b ∧ Chg Non w w' := by
  have hS := Str.of (quoB b)
  obtain ⟨s, hs⟩ : ∃ s : ByteArray, s = ⟨(quoB b).toArray⟩ := ⟨_, rfl⟩
  rw [← hs] at hS ⊢
  have hqb : quoB b = [34] ++ tlB b := by rw [quoB, tlB, List.append_assoc]
  rw [hqb] at hS
  obtain ⟨s1, hx, hS1⟩ := hS.tail (n := 1) rfl
  have hsz := hS.sz
  have hl1 := tlB_len b
  have hE : s.toList.isEmpty = false := by rw [hS.emp]; rfl
  have h0 : ∀ h, s[0]'h = 34 := fun h => by rw [hS.get 0 h (by simp)]; rfl
  rw [List.length_append, show ([34] : List UInt8).length = 1 from rfl] at hsz
  have t0 : 0 < s.size := by omega
  have t0i : (0 : Int) < (s.size : Int) := by omega
  have t1i : (1 : Int) ≤ (s.size : Int) := by omega
  have t1 : 1 ≤ s.size := by omega
  have HS1 := hide hS1
  clear hS hs hS1 hsz hqb hl1
  go_enter Try.func5, Try.ntmps5
  go_wp2_with fail
  clear hx hE h0 t0 t0i t1i t1
  go_loopw [0, 4] (fun sv ov wr => ∃ (S : ByteArray) (rest done : List UInt8), sv = .string S ∧ Hid (Str S (tlB rest)) ∧ Hid (done ++ rest = b) ∧ OwnB wr w.heap.size ov done ∧ Chg Non w wr) (fun sv _ _ => strLen sv)
  case atStart => exact ⟨s1, b, [], rfl, HS1, hide rfl, OwnB.nil_ _ _, Chg.refl _ _⟩
  case round =>
    clear HS1
    obtain ⟨S, rest, done, rfl, hS, hdr, hO, hcw⟩ := hrel
    have hdl := congrArg List.length hdr.out
    rw [List.length_append] at hdl
    have hrl := tlB_len rest
    have hpos := tlB_pos rest
    have hE : S.toList.isEmpty = false := by rw [hS.out.emp]; exact tlB_ne rest
    have hsz := hS.out.sz
    have t0 : 0 < S.size := by omega
    have t0i : (0 : Int) < (S.size : Int) := by omega
    have t1i : (1 : Int) ≤ (S.size : Int) := by omega
    have t1 : 1 ≤ S.size := by omega
    obtain ⟨oA, on_, oc, rfl⟩ := OwnB.slc hO
    cases rest with
    | nil =>
      have h0 : ∀ h, S[0]'h = 34 := fun h => by rw [hS.out.get 0 h (by simp [tlB])]; rfl
      have hs1 : S.size = 1 := by rw [hsz]; rfl
      have hdb := hdr.out
      rw [List.append_nil] at hdb
      rw [hdb] at hO
      have e1 : ((S.size : Int) == 1) = true := by rw [hs1]; rfl
      clear hdl hrl hpos hsz hS hdr hdb hs1
      go_wp2_with fail
      go_ret2
      exact ⟨_, rfl, hO, hcw⟩
    | cons c r =>
      rw [List.length_cons] at hdl hrl
      have hS2 := hS.out
      rw [tlB_cons] at hS2 hsz
      have hcl := c.toNat_lt
      have htr := tlB_pos r
      have htl := tlB_len r
      have HD := hide (show (done ++ [c]) ++ r = b by rw [List.append_assoc]; exact hdr.out)
      have hlen : done.length + ([c] : List UInt8).length ≤ 140737488355328 := by simp; omega
      rw [List.length_append] at hsz
      by_cases h2 : c = 34 ∨ c = 92
      · rw [qB_esc h2] at hS2 hsz
        obtain ⟨S1, hx1, hT1⟩ := Str.tail (a := [92]) (t := [c] ++ tlB r) (n := 1) hS2 rfl
        obtain ⟨S2, hx2, hT2⟩ := Str.tail (a := [92, c]) (t := tlB r) (n := 2) hS2 rfl
        have h0 : ∀ h, S[0]'h = 92 := fun h => by rw [hS2.get 0 h (by simp)]; rfl
        have hsz2 : ([92, c] : List UInt8).length = 2 := rfl
        rw [hsz2] at hsz
        have hS2s := hT2.sz
        have hE1 : S1.toList.isEmpty = false := by rw [hT1.emp]; rfl
        have hS1s : 0 < S1.size := by rw [hT1.sz]; simp
        have h10 : ∀ h, S1[0]'h = c := fun h => by rw [hT1.get 0 h (by simp)]; rfl
        have hesc := fun (w' : World) => labelEsc1 (w := w') h2 hS1s h10 hE1
        have hpl := fun (w' : World) => plain92 (w := w')
        have HT2 := hide hT2
        have t2i : (2 : Int) ≤ (S.size : Int) := by omega
        have t2 : 2 ≤ S.size := by omega
        have hm : S2.size < S.size := by omega
        have w2 : IntKind.i64.wrap 2 = 2 := rfl
        have hlit := RdB.lit wr 5 (0, 0) #[.int .u8 (c.toNat : Int)] [c] 1 rfl rfl (by simp [maxLen])
        have hlitd := hlit.dr
        have hOA : OwnB (wr.alloc (.cells #[.int .u8 (c.toNat : Int)] 5)).drew w.heap.size (.slice oA on_ oc) done := (hO.al (.cells #[.int .u8 (c.toNat : Int)] 5)).dr
        have cA := (hcw.alloc (.cells #[.int .u8 (c.toNat : Int)] 5)).drew
        have hsz3 := cA.size
        clear hS hS2 hT1 hT2 hsz hsz2 hS2s h10 hE1 hS1s hdl hrl hpos htr htl hdr hO hcw hlit hcl
        go_wp2_with fail
        refine (hpl _).mono ?_
        rintro e w2 ⟨rfl, rfl⟩
        go_wp2_with fail
        refine (hesc _).mono ?_
        rintro e w2 ⟨rfl, rfl⟩
        go_wp2_with fail
        go_region_law (first
          | (refine step_B rfl _ _ rfl hOA rfl hlitd rfl hlen hsz3 ?_; intro v5 w5 hO5 hg5 hat5))
        all_goals
          have c5 := cA.own hg5 fun j hj => (hOA.lt j hj).1
          go_wp2_with fail
          go_round
          case rel => first | exact ⟨S2, r, _, rfl, HT2, HD, hO5, c5⟩ | ((repeat apply Exists.intro); exact ⟨⟨S2, r, _, rfl, HT2, HD, hO5, c5⟩, rfl⟩)
          case measure => exact hm
      · have n34 : ¬ c.toNat = 34 := fun h => h2 (.inl ((u8_nat (n := 34) (by omega)).2 h))
        have n92 : ¬ c.toNat = 92 := fun h => h2 (.inr ((u8_nat (n := 92) (by omega)).2 h))
        by_cases h3 : 32 ≤ c.toNat ∧ c.toNat ≤ 126
        · rw [qB_plain h2 h3] at hS2 hsz
          obtain ⟨S2, hx2, hT2⟩ := Str.tail (a := [c]) (t := tlB r) (n := 1) hS2 rfl
          have h0 : ∀ h, S[0]'h = c := fun h => by rw [hS2.get 0 h (by simp)]; rfl
          have hsz2 : ([c] : List UInt8).length = 1 := rfl
          rw [hsz2] at hsz
          have hS2s := hT2.sz
          have hpl := fun (w' : World) => plainT (w := w') h3.1 h3.2 n34 n92
          have HT2 := hide hT2
          have b34 : ((c.toNat : Int) == 34) = false := beq_eq_false_iff_ne.2 (by omega)
          have hm : S2.size < S.size := by omega
          have hlit := RdB.lit wr 5 (0, 0) #[.int .u8 (c.toNat : Int)] [c] 1 rfl rfl (by simp [maxLen])
          have hlitd := hlit.dr
          have hOA : OwnB (wr.alloc (.cells #[.int .u8 (c.toNat : Int)] 5)).drew w.heap.size (.slice oA on_ oc) done := (hO.al (.cells #[.int .u8 (c.toNat : Int)] 5)).dr
          have cA := (hcw.alloc (.cells #[.int .u8 (c.toNat : Int)] 5)).drew
          have hsz3 := cA.size
          clear hS hS2 hT2 hsz hsz2 hS2s hdl hrl hpos htr htl hdr hO hcw hlit hcl h2 h3
          go_wp2_with fail
          refine (hpl _).mono ?_
          rintro e w2 ⟨rfl, rfl⟩
          go_wp2_with fail
          go_region_law (first
            | (refine step_B rfl _ _ rfl hOA rfl hlitd rfl hlen hsz3 ?_; intro v5 w5 hO5 hg5 hat5))
          all_goals
            have c5 := cA.own hg5 fun j hj => (hOA.lt j hj).1
            go_wp2_with fail
            go_round
            case rel => first | exact ⟨S2, r, _, rfl, HT2, HD, hO5, c5⟩ | ((repeat apply Exists.intro); exact ⟨⟨S2, r, _, rfl, HT2, HD, hO5, c5⟩, rfl⟩)
            case measure => exact hm
        · rw [qB_hex h2 h3] at hS2 hsz
          obtain ⟨S1, hx1, hT1⟩ := Str.tail (a := [92]) (t := [120, hexD (c.toNat / 16), hexD (c.toNat % 16)] ++ tlB r) (n := 1) hS2 rfl
          obtain ⟨S2, hx2, hT2⟩ := Str.tail (a := [92, 120, hexD (c.toNat / 16), hexD (c.toNat % 16)]) (t := tlB r) (n := 4) hS2 rfl
          have h0 : ∀ h, S[0]'h = 92 := fun h => by rw [hS2.get 0 h (by simp)]; rfl
          have hsz2 : ([92, 120, hexD (c.toNat / 16), hexD (c.toNat % 16)] : List UInt8).length = 4 := rfl
          rw [hsz2] at hsz
          have hS2s := hT2.sz
          have hE1 : S1.toList.isEmpty = false := by rw [hT1.emp]; rfl
          have hS1s : S1.size = 3 + (tlB r).length := by rw [hT1.sz]; simp; omega
          have h10 : ∀ h, S1[0]'h = 120 := fun h => by rw [hT1.get 0 h (by simp)]; rfl
          have h11 : ∀ h, S1[1]'h = hexD (c.toNat / 16) := fun h => by rw [hT1.get 1 h (by simp)]; rfl
          have h12 : ∀ h, S1[2]'h = hexD (c.toNat % 16) := fun h => by rw [hT1.get 2 h (by simp)]; rfl
          have hesc := fun (w' : World) => labelEsc3 (c := c) (w := w') (by omega) h10 h11 h12 (by omega) hE1 h2 h3
          have hpl := fun (w' : World) => plain92 (w := w')
          have HT2 := hide hT2
          have t4i : (4 : Int) ≤ (S.size : Int) := by omega
          have t4 : 4 ≤ S.size := by omega
          have hm : S2.size < S.size := by omega
          have w4 : IntKind.i64.wrap 4 = 4 := rfl
          have hlit := RdB.lit wr 5 (0, 0) #[.int .u8 (c.toNat : Int)] [c] 1 rfl rfl (by simp [maxLen])
          have hlitd := hlit.dr
          have hOA : OwnB (wr.alloc (.cells #[.int .u8 (c.toNat : Int)] 5)).drew w.heap.size (.slice oA on_ oc) done := (hO.al (.cells #[.int .u8 (c.toNat : Int)] 5)).dr
          have cA := (hcw.alloc (.cells #[.int .u8 (c.toNat : Int)] 5)).drew
          have hsz3 := cA.size
          clear hS hS2 hT1 hT2 hsz hsz2 hS2s h10 h11 h12 hE1 hS1s hdl hrl hpos htr htl hdr hO hcw hlit hcl h2 h3 n34 n92
          go_wp2_with fail
          refine (hpl _).mono ?_
          rintro e w2 ⟨rfl, rfl⟩
          go_wp2_with fail
          refine (hesc _).mono ?_
          rintro e w2 ⟨rfl, rfl⟩
          go_wp2_with fail
          go_region_law (first
            | (refine step_B rfl _ _ rfl hOA rfl hlitd rfl hlen hsz3 ?_; intro v5 w5 hO5 hg5 hat5))
          all_goals
            have c5 := cA.own hg5 fun j hj => (hOA.lt j hj).1
            go_wp2_with fail
            go_round
            case rel => first | exact ⟨S2, r, _, rfl, HT2, HD, hO5, c5⟩ | ((repeat apply Exists.intro); exact ⟨⟨S2, r, _, rfl, HT2, HD, hO5, c5⟩, rfl⟩)
            case measure => exact hm
end Go.Proofs.Ytlbkomalniomhaa
