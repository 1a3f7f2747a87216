/- The walk of pack.Number. -/
import Derived.Test.YtpbgjldjipgfeaaPackA
import Derived.Test.YtpbgjldjipgfeaaPkNum
namespace Go.Proofs.Ytpbgjldjipgfeaa
open Go.RowKit

theorem len8 : Try.prog.arrayLen 109 = 8 := by kernel_rfl
theorem slice_arr8 (w : World) (g a r : Nat) (ha : a + r = 8) (hr : 0 < r) : (Instr.sliceAt 109 (.pointer (some ⟨g, 0, none⟩)) (some (.int .i64 (a : Int))) none none).run Try.prog w = .ok (.slice (some ⟨g, a, none⟩) r r) w := by
  rw [run_sliceAt_array_l (P := Try.prog) w 109 ⟨g, 0, none⟩ (by kernel_rfl) .i64 (a : Int) (by omega) (by rw [len8]; omega)]
  rw [len8]
  have h1 : (sizeOf (Try.prog.elem 109)).run Try.prog w = .ok 1 w := by kernel_rfl
  rw [h1]
  have e : 8 - a = r := by omega
  simp only [Result.andThen, slicedAt, Int.toNat_natCast, Nat.mul_one, add_none, Nat.zero_add, e]
  rw [if_neg (by omega)]

set_option maxHeartbeats 400000 in
theorem packNumber {v : Value} {l : List Nat} {F : Nat → Prop} {w : World} (hr : RdU w F v l) (hl : 9 * l.length ≤ 140737488355328) :
    Calls Try.prog 45 #[v] w fun e w' => ∃ u, e = .returned u ∧ OwnB w' w.heap.size u (numsB l) ∧ Chg Non w w' := by
  obtain ⟨A, c, rfl, hc, hm⟩ := hr.shape
  unfold maxLen at hm
  go_enter Try.func45, Try.ntmps45
  go_wp2
  go_loopw [3, 11] (fun out i wr => ∃ k : Nat, k ≤ l.length ∧ i = .int .i64 k ∧ OwnB wr w.heap.size out (numsB (l.take k)) ∧ Chg Non w wr) (fun _ i _ => l.length - (intOf i).toNat)
  case atStart => exact ⟨0, Nat.zero_le _, rfl, OwnB.nil_ _ _, Chg.refl _ _⟩
  case round =>
    obtain ⟨k, hk, rfl, hown, hchg⟩ := hrel
    by_cases h1 : k < l.length
    · obtain ⟨ad, rfl, _, hu, hca⟩ := (hr.c0 hchg).at_ h1
      have HU := hide hu
      clear hu
      have HT := hide (numsB_take l k h1)
      have hnn := numsB_length (l.take k)
      rw [List.length_take, Nat.min_eq_left hk] at hnn
      obtain ⟨n, hn⟩ : ∃ n, n = l[k] := ⟨_, rfl⟩
      rw [← hn] at HT HU hca
      clear hn
      by_cases h2 : n ≤ 247
      · have HN := hide (numB_small n h2)
        go_wp2_with (at_builtin; refine append_B rfl _ _ rfl (hown.al _) rfl (own_one wr (UInt8.ofNat n) _ ?_).rd rfl ?_ ?_ ?_; rotate_left 3; intro v1 w1 hown1 hg1 hat1)
        · go_roundw
          case rel =>
            refine ⟨k + 1, by omega, by go_num, ?_, (hchg.alloc _).own hg1 fun q hq => (hown.lt q hq).1⟩
            rw [HT.out, HN.out]; exact hown1
          case measure => simp [intOf]; omega
        · rw [UInt8.toNat_ofNat']; omega
        · simp; omega
        · have := hchg.size; simp; omega
      · go_wp2
        obtain ⟨g, hg⟩ : ∃ g, g = wr.heap.size := ⟨_, rfl⟩
        have hb0 := Blk.new wr 109 #[.int .u8 0, .int .u8 0, .int .u8 0, .int .u8 0, .int .u8 0, .int .u8 0, .int .u8 0, .int .u8 0]
        have hc0 := hchg.alloc (.cells #[.int .u8 0, .int .u8 0, .int .u8 0, .int .u8 0, .int .u8 0, .int .u8 0, .int .u8 0, .int .u8 0] 109)
        have ho0 := hown.al (.cells #[.int .u8 0, .int .u8 0, .int .u8 0, .int .u8 0, .int .u8 0, .int .u8 0, .int .u8 0, .int .u8 0] 109)
        have hlt := fun k hk => (hown.lt k hk).2
        rw [← hg] at hb0
        obtain ⟨wo, hwo⟩ : ∃ wo, wo = wr.alloc (.cells #[.int .u8 0, .int .u8 0, .int .u8 0, .int .u8 0, .int .u8 0, .int .u8 0, .int .u8 0, .int .u8 0] 109) := ⟨_, rfl⟩
        rw [← hwo] at hb0 hc0 ho0 ⊢
        rw [← hg] at hlt ⊢
        have hge : w.heap.size ≤ g := by rw [hg]; exact hchg.size
        clear hg hwo
        go_loopw [5, 7] (fun mv av w2 => ∃ (m a : Nat) (rest : List UInt8) (arr : Array Value), a + rest.length = 8 ∧ mv = .int .u64 m ∧ av = .int .i64 a ∧ Hid (beF a m ++ rest = be n) ∧ Hid (m < 256 ^ a) ∧
            Blk w2 g 109 arr ∧ Hid (arr.size = 8 ∧ arr.toList.drop a = bvs rest) ∧ Chg (fun k => k = g) wo w2) (fun _ a _ => (intOf a).toNat)
        case atStart => exact ⟨n, 8, [], _, rfl, rfl, rfl, hide (by rw [List.append_nil]; rfl), hide (by have := HU.out; unfold U64 at this; omega), hb0, hide ⟨rfl, rfl⟩, Chg.refl _ _⟩
        case round =>
          obtain ⟨m, a, rest, arr, ha, rfl, rfl, hbe, hm2, hblk, harr, hc2⟩ := hrel
          by_cases h3 : 0 < m
          · cases a with
            | zero => have := hm2.out; simp at this; omega
            | succ b =>
            have HS := hide (beF_step hbe.out h3)
            have hcell := hblk.cell b
            rw [Array.getElem?_eq_getElem (by have := harr.out.1; omega)] at hcell
            have hfr := hblk.frozen b
            go_wp2
            go_roundw
            case rel =>
              have h8 := harr.out.1
              have hbl : b < arr.size := by omega
              refine ⟨m / 256, b, UInt8.ofNat (m % 256) :: rest, arr.setIfInBounds b (.int .u8 ((m % 256 : Nat) : Int)), by simp; omega, by go_num, rfl, hide HS.out, hide ?_, hblk.set_ b _, hide ⟨by simpa using h8, ?_⟩, hc2.setCell (fun _ => rfl) _⟩
              · have := hm2.out
                rw [Nat.pow_succ] at this
                exact Nat.div_lt_of_lt_mul (by rw [Nat.mul_comm]; exact this)
              · rw [Array.toList_setIfInBounds, List.drop_eq_getElem_cons (by simpa using hbl), List.drop_set_of_lt (by omega), harr.out.2]
                simp [bvs, bv]
            case measure => simp [intOf]
          · have h4 : m = 0 := by omega
            subst h4
            have HB := hide (beF_stop hbe.out)
            have hr0 : 0 < rest.length := by
              rw [HB.out]
              unfold be; rw [beF_succ 7 n (by omega)]; simp
            have hsl := fun w => slice_arr8 w g a rest.length ha hr0
            have hrest : RdB wr (fun q => q = g) (.slice (some ⟨g, a, none⟩) rest.length rest.length) rest :=
              RdB.of_blk hblk (by rw [harr.out.2, List.take_of_length_le]; rw [bvs_length]; exact Nat.le_refl _) (Nat.le_refl _) (by simp only [maxLen]; omega)
            have ho2 := ho0.chg hc2 (fun q hq e => by have := hlt q hq; omega)
            have hc3 := hc0.trans hc2 (fun q hq e => by omega)
            have hr8 : rest.length ≤ 8 := by omega
            have HN := hide (numB_large n h2)
            go_wp2_with (first
              | (at_builtin; refine append_B rfl _ _ rfl (ho2.al _) rfl (own_one wr (UInt8.ofNat (247 + rest.length)) _ ?_).rd rfl ?_ ?_ ?_; rotate_left 3; intro v1 w1 hown1 hg1 hat1)
              | (at_builtin; refine append_B rfl _ _ rfl hown1 rfl ((hrest.al _).chg (Chg.of_grown hg1) ?_) rfl ?_ ?_ ?_; rotate_left 3; intro v2 w2 hown2 hg2 hat2))
            · go_roundw
              case rel =>
                refine ⟨k + 1, by omega, by go_num, ?_, ((hc3.alloc _).own hg1 fun q hq => (ho2.lt q hq).1).own hg2 fun q hq => (hown1.lt q hq).1⟩
                rw [HT.out, HN.out, ← HB.out, List.append_cons]; exact hown2
              case measure => simp [intOf]; omega
            · intro q e he; subst e; have := hlt q he.symm; omega
            · simp; omega
            · have h1 := hc3.size; have h2 := hg1.size; simp at h2; omega
            · rw [UInt8.toNat_ofNat']; omega
            · simp; omega
            · have h1 := hc3.size; simp; omega
    · have hk2 : k = l.length := by omega
      go_wp2
      go_ret
      refine ⟨_, rfl, ?_, hchg⟩
      rw [hk2, List.take_length] at hown
      exact hown
end Go.Proofs.Ytpbgjldjipgfeaa
