/- The walk of pack.Number. -/
import Derived.Test.YtfgecgmgbngeaaaGreatPackA
import Derived.Test.YtfgecgmgbngeaaaGreatPkM
set_option linter.unusedVariables false
set_option linter.unusedSimpArgs false
set_option maxRecDepth 100000
namespace Go.Proofs.YtfgecgmgbngeaaaGreat
open Go.RowKit

theorem len8 : Tryz.prog.arrayLen 159 = 8 := by kernel_rfl
theorem slice_arr8 (w : World) (g a r : Nat) (ha : a + r = 8) (hr : 0 < r) : (Instr.sliceAt 159 (.pointer (some ⟨g, 0, none⟩)) (some (.int .i64 (a : Int))) none none).run Tryz.prog w = .ok (.slice (some ⟨g, a, none⟩) r r) w := by
  rw [run_sliceAt_array_l (P := Tryz.prog) w 159 ⟨g, 0, none⟩ (by kernel_rfl) .i64 (a : Int) (by omega) (by rw [len8]; omega)]
  rw [len8]
  have h1 : (sizeOf (Tryz.prog.elem 159)).run Tryz.prog w = .ok 1 w := by kernel_rfl
  rw [h1]
  have e : 8 - a = r := by omega
  simp only [Result.andThen, slicedAt, Int.toNat_natCast, Nat.mul_one, add_none, Nat.zero_add, e]
  rw [if_neg (by omega)]

set_option maxHeartbeats 400000 in
theorem packNumber {v : Value} {l : List Nat} {F : Nat → Prop} {w : World} (hr : RdU w F v l) (hl : 9 * l.length ≤ 140737488355328) :
    Calls Tryz.prog 60 #[v] w fun e w' => ∃ u, e = .returned u ∧ OwnB w' w.heap.size u (numsB l) ∧ Chg Non w w' := by
  obtain ⟨A, c, rfl, hc, hm⟩ := hr.shape
  unfold maxLen at hm
  go_enter Tryz.func60, Tryz.ntmps60
  go_wp2
  go_loopw [3, 11] (fun out i wr => ∃ k : Nat, k ≤ l.length ∧ i = .int .i64 k ∧ OwnB wr w.heap.size out (numsB (l.take k)) ∧ Chg Non w wr) (fun _ i _ => l.length - (intOf i).toNat)
  case atStart => exact ⟨0, Nat.zero_le _, rfl, OwnB.nil_ _ _, Chg.refl _ _⟩
  case round =>
    obtain ⟨k, hk, rfl, hown, hchg⟩ := hrel
    by_cases h1 : k < l.length
    · obtain ⟨ad, rfl, _, hu, hca⟩ := (hr.c0 hchg).at_ h1
      have HU := hide hu
      clear hu
      have HT := hide (numsB_take l k h1)
      have hnn := numsB_length (l.take k)
      rw [List.length_take, Nat.min_eq_left hk] at hnn
      obtain ⟨n, hn⟩ : ∃ n, n = l[k] := ⟨_, rfl⟩
      rw [← hn] at HT HU hca
      clear hn
      by_cases h2 : n ≤ 247
      · have HN := hide (numB_small n h2)
        go_wp2_with (at_builtin; refine append_B rfl _ _ rfl (hown.al _) rfl (own_one wr (UInt8.ofNat n) _ ?_).rd rfl ?_ ?_ ?_; rotate_left 3; intro v1 w1 hown1 hg1 hat1)
        · go_roundw
          case rel =>
            refine ⟨k + 1, by omega, by go_num, ?_, (hchg.alloc _).own hg1 fun q hq => (hown.lt q hq).1⟩
            rw [HT.out, HN.out]; exact hown1
          case measure => simp [intOf]; omega
        · rw [UInt8.toNat_ofNat']; omega
        · simp; omega
        · have := hchg.size; simp; omega
      · go_wp2
        obtain ⟨g, hg⟩ : ∃ g, g = wr.heap.size := ⟨_, rfl⟩
        have hb0 := Blk.new wr 159 #[.int .u8 0, .int .u8 0, .int .u8 0, .int .u8 0, .int .u8 0, .int .u8 0, .int .u8 0, .int .u8 0]
        have hc0 := hchg.alloc (.cells #[.int .u8 0, .int .u8 0, .int .u8 0, .int .u8 0, .int .u8 0, .int .u8 0, .int .u8 0, .int .u8 0] 159)
        have ho0 := hown.al (.cells #[.int .u8 0, .int .u8 0, .int .u8 0, .int .u8 0, .int .u8 0, .int .u8 0, .int .u8 0, .int .u8 0] 159)
        have hlt := fun k hk => (hown.lt k hk).2
        rw [← hg] at hb0
        obtain ⟨wo, hwo⟩ : ∃ wo, wo = wr.alloc (.cells #[.int .u8 0, .int .u8 0, .int .u8 0, .int .u8 0, .int .u8 0, .int .u8 0, .int .u8 0, .int .u8 0] 159) := ⟨_, rfl⟩
        rw [← hwo] at hb0 hc0 ho0 ⊢
        rw [← hg] at hlt ⊢
        have hge : w.heap.size ≤ g := by rw [hg]; exact hchg.size
        clear hg hwo
        go_loopw [5, 7] (fun mv av w2 => ∃ (m a : Nat) (rest : List UInt8) (arr : Array Value), a + rest.length = 8 ∧ mv = .int .u64 m ∧ av = .int .i64 a ∧ Hid (beF a m ++ rest = be n) ∧ Hid (m < 256 ^ a) ∧
            Blk w2 g 159 arr ∧ Hid (arr.size = 8 ∧ arr.toList.drop a = bvs rest) ∧ Chg (fun k => k = g) wo w2) (fun _ a _ => (intOf a).toNat)
        case atStart => exact ⟨n, 8, [], _, rfl, rfl, rfl, hide (by rw [List.append_nil]; rfl), hide (by have := HU.out; unfold U64 at this; omega), hb0, hide ⟨rfl, rfl⟩, Chg.refl _ _⟩
        case round =>
          obtain ⟨m, a, rest, arr, ha, rfl, rfl, hbe, hm2, hblk, harr, hc2⟩ := hrel
          by_cases h3 : 0 < m
          · cases a with
            | zero => have := hm2.out; simp at this; omega
            | succ b =>
            have HS := hide (beF_step hbe.out h3)
            have hcell := hblk.cell b
            rw [Array.getElem?_eq_getElem (by have := harr.out.1; omega)] at hcell
            have hfr := hblk.frozen b
            go_wp2
            go_roundw
            case rel =>
              have h8 := harr.out.1
              have hbl : b < arr.size := by omega
              refine ⟨m / 256, b, UInt8.ofNat (m % 256) :: rest, arr.setIfInBounds b (.int .u8 ((m % 256 : Nat) : Int)), by simp; omega, by go_num, rfl, hide HS.out, hide ?_, hblk.set_ b _, hide ⟨by simpa using h8, ?_⟩, hc2.setCell (fun _ => rfl) _⟩
              · have := hm2.out
                rw [Nat.pow_succ] at this
                exact Nat.div_lt_of_lt_mul (by rw [Nat.mul_comm]; exact this)
              · rw [Array.toList_setIfInBounds, List.drop_eq_getElem_cons (by simpa using hbl), List.drop_set_of_lt (by omega), harr.out.2]
                simp [bvs, bv]
            case measure => simp [intOf]
          · have h4 : m = 0 := by omega
            subst h4
            have HB := hide (beF_stop hbe.out)
            have hr0 : 0 < rest.length := by
              rw [HB.out]
              unfold be; rw [beF_succ 7 n (by omega)]; simp
            have hsl := fun w => slice_arr8 w g a rest.length ha hr0
            have hrest : RdB wr (fun q => q = g) (.slice (some ⟨g, a, none⟩) rest.length rest.length) rest :=
              RdB.of_blk hblk (by rw [harr.out.2, List.take_of_length_le]; rw [bvs_length]; exact Nat.le_refl _) (Nat.le_refl _) (by simp only [maxLen]; omega)
            have ho2 := ho0.chg hc2 (fun q hq e => by have := hlt q hq; omega)
            have hc3 := hc0.trans hc2 (fun q hq e => by omega)
            have hr8 : rest.length ≤ 8 := by omega
            have HN := hide (numB_large n h2)
            go_wp2_with (first
              | (at_builtin; refine append_B rfl _ _ rfl (ho2.al _) rfl (own_one wr (UInt8.ofNat (247 + rest.length)) _ ?_).rd rfl ?_ ?_ ?_; rotate_left 3; intro v1 w1 hown1 hg1 hat1)
              | (at_builtin; refine append_B rfl _ _ rfl hown1 rfl ((hrest.al _).chg (Chg.of_grown hg1) ?_) rfl ?_ ?_ ?_; rotate_left 3; intro v2 w2 hown2 hg2 hat2))
            · go_roundw
              case rel =>
                refine ⟨k + 1, by omega, by go_num, ?_, ((hc3.alloc _).own hg1 fun q hq => (ho2.lt q hq).1).own hg2 fun q hq => (hown1.lt q hq).1⟩
                rw [HT.out, HN.out, ← HB.out, List.append_cons]; exact hown2
              case measure => simp [intOf]; omega
            · intro q e he; subst e; have := hlt q he.symm; omega
            · simp; omega
            · have h1 := hc3.size; have h2 := hg1.size; simp at h2; omega
            · rw [UInt8.toNat_ofNat']; omega
            · simp; omega
            · have h1 := hc3.size; simp; omega
    · have hk2 : k = l.length := by omega
      go_wp2
      go_ret
      refine ⟨_, rfl, ?_, hchg⟩
      rw [hk2, List.take_length] at hown
      exact hown
end Go.Proofs.YtfgecgmgbngeaaaGreat

set_option maxRecDepth 100000
namespace Go.Proofs.YtfgecgmgbngeaaaGreat
open Go.RowKit

/-- three results: a number, a place, an error's number -/
def tk (x : Nat × Int × Int) : Ending := .returned (.tuple #[.int .u64 (x.1 : Int), .int .i64 x.2.1, .int .i64 x.2.2])

theorem or_byte (x : Nat) (y : UInt8) (hx : x < 72057594037927936) : bits .or .u64 (IntKind.u64.wrap ((x : Int) * 256)) (IntKind.u64.wrap (y.toNat : Int)) = ((x * 256 + y.toNat : Nat) : Int) := by
  have hy := y.toNat_lt
  have e1 : IntKind.u64.wrap ((x : Int) * 256) = ((x * 256 : Nat) : Int) := by simp [IntKind.wrap_u64]; omega
  have e2 : IntKind.u64.wrap (y.toNat : Int) = ((y.toNat : Nat) : Int) := by simp [IntKind.wrap_u64]; omega
  rw [e1, e2, u64_or_nat _ _ (by omega) (by omega)]
  congr 1
  have h := Nat.shiftLeft_add_eq_or_of_lt (i := 8) (b := y.toNat) (by omega) x
  rw [Nat.shiftLeft_eq] at h
  exact h.symm

theorem pow_lt56 {i x : Nat} (h : x < 256 ^ i) (hi : i < 8) : x < 72057594037927936 :=
  Nat.lt_of_lt_of_le h (Nat.le_trans (Nat.pow_le_pow_right (by omega) (by omega : i ≤ 7)) (by omega))

set_option maxRecDepth 100000 in
set_option maxHeartbeats 400000 in
theorem packTake {v : Value} {b : List UInt8} {F : Nat → Prop} {w : World} {at_ : Int} (hr : RdB w F v b) :
    Calls Tryz.prog 46 #[v, .int .i64 at_] w fun e w' => e = tk (takeB b at_) ∧ w' = w := by
  obtain ⟨A, c, rfl, hc, hm⟩ := hr.shape
  unfold maxLen at hm
  by_cases h1 : at_ < 0 ∨ (b.length : Int) < at_
  · have HE := hide (takeB_arg b at_ h1)
    by_cases h2 : at_ < 0
    · clear h1
      go_enter Tryz.func46, Tryz.ntmps46
      go_wp2
      go_ret3
      exact ⟨by rw [HE.out]; rfl, rfl⟩
    · have h3 : (b.length : Int) < at_ := by omega
      clear h1
      go_enter Tryz.func46, Tryz.ntmps46
      go_wp2
      go_ret3
      exact ⟨by rw [HE.out]; rfl, rfl⟩
  · obtain ⟨a, rfl⟩ := Int.eq_ofNat_of_zero_le (a := at_) (by omega)
    by_cases h2 : a = b.length
    · subst h2
      have HE := hide (takeB_end b)
      clear h1
      go_enter Tryz.func46, Tryz.ntmps46
      go_wp2
      go_ret3
      exact ⟨by rw [HE.out]; rfl, rfl⟩
    · have h3 : a < b.length := by omega
      have h4 : ((a : Int) == (b.length : Int)) = false := beq_eq_false_iff_ne.2 (by omega)
      clear h1
      have HE := hide (takeB_at b a h3)
      obtain ⟨ad, rfl, _, hca⟩ := hr.at_ h3
      obtain ⟨f, hf⟩ : ∃ f, f = b[a] := ⟨_, rfl⟩
      rw [← hf] at HE hca
      clear hf
      have hf8 := f.toNat_lt
      by_cases h5 : f.toNat ≤ 247
      · go_enter Tryz.func46, Tryz.ntmps46
        go_wp2
        go_ret3
        exact ⟨by rw [HE.out, if_pos h5]; rfl, rfl⟩
      · have hd : (b.drop (a + 1)).length = b.length - (a + 1) := List.length_drop
        by_cases h6 : b.length - (a + 1) < f.toNat - 247
        · have HE' := hide ((HE.out.trans (if_neg h5)).trans (if_pos (by rw [hd]; exact h6)))
          clear hd HE
          have h7 : (b.length : Int) - a - 1 < f.toNat - 247 := by omega
          clear h6
          go_enter Tryz.func46, Tryz.ntmps46
          go_wp2
          go_ret3
          exact ⟨by rw [HE'.out]; rfl, rfl⟩
        · have HE' := hide ((HE.out.trans (if_neg h5)).trans (if_neg (by rw [hd]; exact h6)))
          clear hd HE
          go_enter Tryz.func46, Tryz.ntmps46
          go_wp2
          obtain ⟨k, hk⟩ : ∃ k, k = f.toNat - 247 := ⟨_, rfl⟩
          have hp := hr.piece1 (i := a + 1) (m := f.toNat - 247) (by omega) (by omega) (by omega)
          obtain ⟨p, hpd⟩ : ∃ p, p = (b.drop (a + 1)).take (f.toNat - 247) := ⟨_, rfl⟩
          have hpl : p.length = f.toNat - 247 := by rw [hpd, List.length_take, List.length_drop]; omega
          rw [← hpd] at hp HE'
          have HP := hide hpd
          have HPL := hide hpl
          clear hpd
          go_loopw [9, 53] (fun nv iv wr => ∃ i : Nat, i ≤ f.toNat - 247 ∧ nv = .int .u64 (val (p.take i) : Int) ∧ iv = .int .i64 i ∧ wr = w) (fun _ i _ => f.toNat - 247 - (intOf i).toNat)
          case atStart => exact ⟨0, by omega, rfl, rfl, rfl⟩
          case round =>
            obtain ⟨i, hi, rfl, rfl, rfl⟩ := hrel
            by_cases h8 : i < f.toNat - 247
            · rw [← hpl] at hp
              obtain ⟨ad', e, _, hcell⟩ := hp.at_ (k := i) (by omega)
              injection e with e; subst e
              rw [add_none] at hcell
              have hlt := val_take_lt p i
              have HV := hide (val_take_succ p i (by omega))
              obtain ⟨x, hx⟩ : ∃ x, x = val (p.take i) := ⟨_, rfl⟩
              obtain ⟨y, hy⟩ : ∃ y, y = p[i]'(by omega) := ⟨_, rfl⟩
              rw [← hx] at HV hlt ⊢
              rw [← hy] at HV hcell
              have HX := hide hlt
              clear hx hy hpl hlt
              go_wp2
              go_roundw
              case rel =>
                refine ⟨i + 1, by omega, ?_, by go_num, trivial⟩
                rw [or_byte x y (pow_lt56 HX.out (by omega)), HV.out]
              case measure => simp [intOf]; omega
            · have hi2 : i = f.toNat - 247 := by omega
              have hpi : p.take i = p := List.take_of_length_le (by rw [HPL.out]; omega)
              rw [hpi]
              have h9 : a + 1 < b.length := by omega
              obtain ⟨ad', e, _, hcell⟩ := hr.at_ h9
              injection e with e; subst e
              have hhead : (b.drop (a + 1)).head? = some b[a + 1] := by rw [List.drop_eq_getElem_cons h9]; rfl
              rw [hhead] at HE'
              rw [show ad.add (a + 1) = ⟨ad.block, ad.off + (a + 1), none⟩ from by unfold Addr.add; rw [if_neg (by omega)]] at hcell
              obtain ⟨y, hy⟩ : ∃ y, y = b[a + 1] := ⟨_, rfl⟩
              rw [← hy] at HE' hcell
              obtain ⟨x, hx⟩ : ∃ x, x = val p := ⟨_, rfl⟩
              rw [← hx] at HE' ⊢
              clear hx hy hhead hpi hpl hi2 hp
              by_cases h10 : x ≤ 247
              · go_wp2
                go_ret3
                exact ⟨by rw [HE'.out, if_pos (.inl h10)]; rfl, rfl⟩
              · by_cases h11 : y = 0
                · have h12 : ((y.toNat : Int) == 0) = true := by rw [h11]; rfl
                  have H11 := hide h11
                  clear h11
                  go_wp2
                  go_ret3
                  exact ⟨by rw [HE'.out, if_pos (.inr (by rw [H11.out]))]; rfl, rfl⟩
                · have h12 : ((y.toNat : Int) == 0) = false := beq_eq_false_iff_ne.2 fun e => h11 (UInt8.toNat_inj.1 (show y.toNat = 0 by omega))
                  go_wp2
                  go_ret3
                  refine ⟨?_, rfl⟩
                  rw [HE'.out, if_neg (by rintro (h | h); exact h10 h; injection h with h; exact h11 h)]
                  unfold tk
                  congr 3
                  simp; omega
end Go.Proofs.YtfgecgmgbngeaaaGreat
