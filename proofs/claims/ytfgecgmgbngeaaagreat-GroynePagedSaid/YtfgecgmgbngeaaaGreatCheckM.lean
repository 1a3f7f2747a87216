/- The walk of parity.Mul. -/
import Derived.Test.YtfgecgmgbngeaaaGreatBase
import Derived.Test.YtfgecgmgbngeaaaGreatGfM
import Derived.Deep.RegionHeld3
set_option linter.unusedVariables false
set_option linter.unusedSimpArgs false
set_option maxRecDepth 100000
namespace Go.Proofs.YtfgecgmgbngeaaaGreat
open Go.RowKit

theorem and1_odd {y : Nat} (h : y < 256) (h2 : y % 2 = 1) : bits .and .u8 (y : Int) 1 = 1 := by
  have := u8_and_nat y 1 h (by omega)
  rw [Nat.and_one_is_mod, h2] at this
  exact this
theorem and1_even {y : Nat} (h : y < 256) (h2 : ¬ y % 2 = 1) : bits .and .u8 (y : Int) 1 = 0 := by
  have := u8_and_nat y 1 h (by omega)
  rw [Nat.and_one_is_mod, show y % 2 = 0 by omega] at this
  exact this
theorem ofInt_i64n (a : Nat) (ha : a < 9223372036854775808) : (BitVec.ofInt 64 (a : Int)).toNat = a := by
  rw [BitVec.ofInt_natCast, BitVec.toNat_ofNat]; exact Nat.mod_eq_of_lt (by omega)
theorem i64_xor_nat (a b : Nat) (ha : a < 9223372036854775808) (hb : b < 9223372036854775808) : bits .xor .i64 (a : Int) (b : Int) = ((a ^^^ b : Nat) : Int) := by
  have hx : a ^^^ b < 2 ^ 63 := Nat.xor_lt_two_pow (by omega) (by omega)
  show IntKind.i64.wrap ((BitVec.ofInt 64 (a : Int) ^^^ BitVec.ofInt 64 (b : Int)).toNat : Int) = _
  rw [BitVec.toNat_xor, ofInt_i64n a ha, ofInt_i64n b hb, IntKind.wrap_i64]
  omega

theorem xorV (a b : UInt8) : bits .xor .u8 (a.toNat : Int) (b.toNat : Int) = ((a ^^^ b).toNat : Int) := by
  rw [u8_xor_nat _ _ a.toNat_lt b.toNat_lt, UInt8.toNat_xor]

end Go.Proofs.YtfgecgmgbngeaaaGreat

set_option maxRecDepth 100000
namespace Go.Proofs.YtfgecgmgbngeaaaGreat
open Go.RowKit

/-- four bytes as a value -/
def qv (q : Quad) : Value := .agg #[bv q.1, bv q.2.1, bv q.2.2.1, bv q.2.2.2]

def genv : Array Value := #[.int .u32 0x0f367840, .int .u32 0x1e6cf080, .int .u32 0x3cd8fd1d, .int .u32 0x78ade73a, .int .u32 0xf047d374, .int .u32 0xfd8ebbe8, .int .u32 0xe7016bcd, .int .u32 0xd302d687]

set_option maxHeartbeats 400000 in
theorem parityGenerator {w : World} : Calls Tryz.prog 142 #[] w fun e w' => e = .returned (.agg genv) ∧ Chg Non w w' := by
  go_enter Tryz.func142, Tryz.ntmps142
  go_wp2
  exact bodyPost_ret (v := .agg genv) (by simp [results, Tryz.results142, go_sem, genv]) rfl ⟨rfl, (Chg.refl _ _).alloc _⟩

theorem word_chk_nil (ll : List (List UInt8)) : word (chk (ll.take 0).flatten) = 0 := by
  rw [List.take_zero]
  decide
theorem u32_xor_i {a b : Nat} (ha : a < 4294967296) (hb : b < 4294967296) : bits .xor .u32 (a : Int) (b : Int) = ((a ^^^ b : Nat) : Int) := u32_xor_nat a b ha hb
theorem gens_lt (i : Nat) : gens.getD i 0 < 4294967296 := by
  rcases Nat.lt_or_ge i 8 with h | h
  · have : ∀ i, i < 8 → gens.getD i 0 < 4294967296 := by decide
    exact this i h
  · have : gens.getD i 0 = 0 := by
      rw [List.getD_eq_getElem?_getD, List.getElem?_eq_none (by simpa [gens] using h)]; rfl
    rw [this]; decide
/-- one bit more of the byte that is taken off -/
theorem gw_step {i n R T : Nat} (hi : i ≤ 8) (hn : n < 2 ^ (8 - i)) (h0 : 0 < n) (h : R ^^^ gwF (8 - i) i n = T) :
    i < 8 ∧ n / 2 < 2 ^ (8 - (i + 1)) ∧ (R ^^^ sel (n.testBit 0) (gens.getD i 0)) ^^^ gwF (8 - (i + 1)) (i + 1) (n / 2) = T := by
  have hi8 : i < 8 := by
    rcases Nat.lt_or_ge i 8 with h1 | h1
    · exact h1
    · rw [show 8 - i = 0 by omega] at hn; simp at hn; omega
  obtain ⟨f, hf⟩ : ∃ f, 8 - i = f + 1 := ⟨7 - i, by omega⟩
  rw [hf] at hn h
  rw [show 8 - (i + 1) = f by omega]
  refine ⟨hi8, by rw [Nat.pow_succ] at hn; omega, ?_⟩
  rw [← h, Nat.xor_assoc]
  rfl

set_option maxRecDepth 100000 in
set_option maxHeartbeats 1000000 in
theorem parityCheck {v : Value} {ll : List (List UInt8)} {F : Nat → Prop} {w : World} (hr : RdBB w F v ll) :
    Calls Tryz.prog 125 #[v] w fun e w' => e = .returned (qv (chk ll.flatten)) ∧ Chg Non w w' := by
  obtain ⟨A, c, rfl, hc, hm⟩ := hr.shape
  unfold maxLen at hm
  go_enter Tryz.func125, Tryz.ntmps125
  go_wp2_with fail
  refine parityGenerator.mono ?_
  rintro e w1 ⟨rfl, hg⟩
  simp only [genv]
  go_wp2_with fail
  have hb0 := (Blk.new w 196 #[.int .u8 0, .int .u8 0, .int .u8 0, .int .u8 0]).c0 hg
  have hb1 := hb0.al (.cells genv 207)
  have hb2 := Blk.new w1 207 genv
  have hg1 := (((Chg.refl Non w).alloc _).trans0 hg).alloc (.cells genv 207)
  have hne : w.heap.size ≠ w1.heap.size := by have := hb0.lt; omega
  simp only [genv] at hb1 hb2 hg1
  generalize w1.alloc (.cells #[.int .u32 255227968, .int .u32 510455936, .int .u32 1020853533, .int .u32 2024662842, .int .u32 4031239028, .int .u32 4253989864, .int .u32 3875630029, .int .u32 3540178567] 207) = w2 at hb1 hb2 hg1 ⊢
  have hG : ∀ i, i < 8 → w2.cell? ⟨w1.heap.size, i, none⟩ = some (.int .u32 ((gens.getD i 0 : Nat) : Int)) := by
    intro i hi
    rw [hb2.cell]
    match i, hi with
    | 0, _ => rfl
    | 1, _ => rfl
    | 2, _ => rfl
    | 3, _ => rfl
    | 4, _ => rfl
    | 5, _ => rfl
    | 6, _ => rfl
    | 7, _ => rfl
  generalize w1.heap.size = g at hne hb2 hG ⊢
  obtain ⟨rb, hh⟩ : ∃ rb, rb = w.heap.size := ⟨_, rfl⟩
  rw [← hh] at hb1 hne ⊢
  have hr2 := hr.c0 hg1
  have HH := hide hh
  have HG := fun (i : Nat) (hi : i < 8) => hide (hG i hi)
  clear hh hG hb0 hg
  go_loop [3, 14] (fun rv iv => ∃ (k : Nat), k ≤ ll.length ∧ iv = .int .i64 k ∧ rv = .int .u32 (word (chk (ll.take k).flatten))) (fun _ iv => ll.length - (intOf iv).toNat)
  case atStart => exact ⟨0, Nat.zero_le _, rfl, by rw [word_chk_nil]; rfl⟩
  case round =>
    obtain ⟨k, hk, rfl, rfl⟩ := hrel
    by_cases h1 : k < ll.length
    · obtain ⟨ad, x, rfl, _, hx, hrx⟩ := hr2.at_ h1
      obtain ⟨X, cx, rfl, hcx, hmx⟩ := hrx.shape
      unfold maxLen at hmx
      obtain ⟨l, hl⟩ : ∃ l, l = ll[k] := ⟨_, rfl⟩
      obtain ⟨q, hq⟩ : ∃ q, q = chk (ll.take k).flatten := ⟨_, rfl⟩
      have HT := hide (show chk (ll.take (k + 1)).flatten = l.foldl cstep q by rw [List.take_succ_eq_append_getElem h1, List.flatten_append, chk_append, ← hl, ← hq]; simp)
      rw [← hl] at hx hrx hcx
      rw [← hq]
      clear hl hq
      go_wp2_with fail
      go_loop [3, 20] (fun rv iv => ∃ (j : Nat), j ≤ l.length ∧ iv = .int .i64 j ∧ rv = .int .u32 (word ((l.take j).foldl cstep q))) (fun _ iv => l.length - (intOf iv).toNat)
      case atStart => exact ⟨0, Nat.zero_le _, rfl, rfl⟩
      case round =>
        obtain ⟨j, hj, rfl, rfl⟩ := hrel
        by_cases h2 : j < l.length
        · obtain ⟨bd, rfl, _, hbc⟩ := hrx.at_ h2
          obtain ⟨b, hb⟩ : ∃ b, b = l[j] := ⟨_, rfl⟩
          obtain ⟨p, hp⟩ : ∃ p, p = (l.take j).foldl cstep q := ⟨_, rfl⟩
          have HS := hide (show (l.take (j + 1)).foldl cstep q = cstep p b by rw [List.take_succ_eq_append_getElem h2, List.foldl_append, ← hb, ← hp]; rfl)
          rw [← hb] at hbc
          rw [← hp]
          clear hb hp
          have hwl := word_lt p
          have hbl := b.toNat_lt
          have hdl : word p / 16777216 < 256 := by omega
          have hfl : b.toNat ^^^ (word p >>> 24) < 256 := Nat.xor_lt_two_pow (n := 8) hbl (by rw [Nat.shiftRight_eq_div_pow]; exact hdl)
          have e9 : bits .xor .u8 (b.toNat : Int) ((word p : Int) / 16777216) = ((b.toNat ^^^ (word p >>> 24) : Nat) : Int) := by
            rw [Nat.shiftRight_eq_div_pow]
            exact u8_xor_nat b.toNat (word p / 16777216) hbl hdl
          have e3 : ((word p : Int) * 256 % 4294967296) = ((word p * 256 % 4294967296 : Nat) : Int) := by omega
          have HW := hide (word_cstep p b)
          have E9 := hide e9
          have E3 := hide e3
          clear e9 e3 hdl
          go_wp2_with fail
          rw [E9.out, E3.out]
          obtain ⟨n0, hn0⟩ : ∃ n0, n0 = b.toNat ^^^ (word p >>> 24) := ⟨_, rfl⟩
          obtain ⟨R0, hR0⟩ : ∃ R0, R0 = word p * 256 % 4294967296 := ⟨_, rfl⟩
          rw [← hn0, ← hR0] at HW ⊢
          rw [← hn0] at hfl
          have hRl : R0 < 4294967296 := by omega
          clear hn0 hR0 E9 E3 hwl hbl
          go_loop [3, 9, 10] (fun rv fv iv => ∃ (R n i : Nat), rv = .int .u32 R ∧ fv = .int .u8 n ∧ iv = .int .i64 i ∧ i ≤ 8 ∧ R < 4294967296 ∧ n < 256 ∧ Hid (n < 2 ^ (8 - i)) ∧ Hid (R ^^^ gwF (8 - i) i n = R0 ^^^ gwF 8 0 n0)) (fun _ fv _ => (intOf fv).toNat)
          case atStart => exact ⟨R0, n0, 0, rfl, rfl, rfl, by omega, hRl, hfl, hide hfl, hide rfl⟩
          case round =>
            obtain ⟨R, n, i, rfl, rfl, rfl, hi, hR, hn, hnp, hrel⟩ := hrel
            by_cases h3 : 0 < n
            · obtain ⟨hi8, hn2, hs⟩ := gw_step hi hnp.out h3 hrel.out
              have hgc := (HG i hi8).out
              have hgl := gens_lt i
              have HN2 := hide hn2
              obtain ⟨G, hGi⟩ : ∃ G, G = gens.getD i 0 := ⟨_, rfl⟩
              rw [← hGi] at hs hgc hgl
              have HSS := hide hs
              clear hn2 hs hGi
              by_cases h4 : n % 2 = 1
              · have e1 := and1_odd hn h4
                have e2 := u32_xor_i hR hgl
                have hx : R ^^^ G < 4294967296 := Nat.xor_lt_two_pow (n := 32) hR hgl
                have HX := hide hx
                have H4 := hide h4
                clear hx h4
                go_wp2_with fail
                go_round
                case rel => exact ⟨R ^^^ G, n / 2, i + 1, rfl, rfl, rfl, by omega, HX.out, by omega, HN2, hide (by rw [← HSS.out, sel_odd _ H4.out])⟩
                case measure => simp [intOf]; omega
              · have e1 := and1_even hn h4
                have H4 := hide h4
                clear h4
                go_wp2_with fail
                go_round
                case rel => exact ⟨R, n / 2, i + 1, rfl, rfl, rfl, by omega, hR, by omega, HN2, hide (by rw [← HSS.out, sel_even _ H4.out, Nat.xor_zero])⟩
                case measure => simp [intOf]; omega
            · have hn0 : n = 0 := by omega
              have hRw : R = word (cstep p b) := by
                have := hrel.out
                rw [hn0, gwF_zero, Nat.xor_zero] at this
                rw [this, HW.out]
              have HR := hide hRw
              clear hRw hn0
              go_wp2_with fail
              go_round
              case rel => exact ⟨j + 1, by omega, by go_num, by rw [HR.out, HS.out]⟩
              case measure => simp [intOf]; omega
        · have HJ := hide (show l.take j = l from List.take_of_length_le (by omega))
          go_wp2_with fail
          go_round
          case rel => exact ⟨k + 1, by omega, by go_num, by rw [HJ.out, HT.out]⟩
          case measure => simp [intOf]; omega
    · have HK := hide (show ll.take k = ll from List.take_of_length_le (by omega))
      obtain ⟨q, hq⟩ : ∃ q, q = chk (ll.take k).flatten := ⟨_, rfl⟩
      have HQ := hide hq
      rw [← hq]
      clear hq
      have hwl := word_lt q
      have k0 := hb1.cell 0
      have k1 := hb1.cell 1
      have k2 := hb1.cell 2
      have k3 := hb1.cell 3
      have f0 := hb1.frozen 0
      have f1 := hb1.frozen 1
      have f2 := hb1.frozen 2
      have f3 := hb1.frozen 3
      simp at k0 k1 k2 k3
      go_wp2_with fail
      have e1 : (word q : Int) / 16777216 = (q.1.toNat : Int) := by have := word_hi q; rw [Nat.shiftRight_eq_div_pow] at this; omega
      have e2 : (word q : Int) / 65536 % 256 = (q.2.1.toNat : Int) := by have := word_b1 q; rw [Nat.shiftRight_eq_div_pow] at this; omega
      have e3 : (word q : Int) / 256 % 256 = (q.2.2.1.toNat : Int) := by have := word_b2 q; rw [Nat.shiftRight_eq_div_pow] at this; omega
      have e4 : (word q : Int) % 256 = (q.2.2.2.toNat : Int) := by have := word_lo q; omega
      rw [e1, e2, e3, e4]
      have hb3 := (((hb1.set_ 0 (bv q.1)).set_ 1 (bv q.2.1)).set_ 2 (bv q.2.2.1)).set_ 3 (bv q.2.2.2)
      have hg3 := (((hg1.setCell (p := ⟨rb, 0, none⟩) (fun hlt => absurd hlt (by rw [HH.out]; exact Nat.lt_irrefl _)) (bv q.1)).setCell (p := ⟨rb, 1, none⟩) (fun hlt => absurd hlt (by rw [HH.out]; exact Nat.lt_irrefl _)) (bv q.2.1)).setCell (p := ⟨rb, 2, none⟩) (fun hlt => absurd hlt (by rw [HH.out]; exact Nat.lt_irrefl _)) (bv q.2.2.1)).setCell (p := ⟨rb, 3, none⟩) (fun hlt => absurd hlt (by rw [HH.out]; exact Nat.lt_irrefl _)) (bv q.2.2.2)
      simp only [bv] at hb3 hg3
      generalize (((w2.setCell ⟨rb, 0, none⟩ (.int .u8 (q.1.toNat : Int))).setCell ⟨rb, 1, none⟩ (.int .u8 (q.2.1.toNat : Int))).setCell ⟨rb, 2, none⟩ (.int .u8 (q.2.2.1.toNat : Int))).setCell ⟨rb, 3, none⟩ (.int .u8 (q.2.2.2.toNat : Int)) = w3 at hb3 hg3 ⊢
      clear k0 k1 k2 k3 e1 e2 e3 e4
      have k0 := hb3.cell 0
      have k1 := hb3.cell 1
      have k2 := hb3.cell 2
      have k3 := hb3.cell 3
      simp at k0 k1 k2 k3
      refine bodyPost_ret (v := qv q) (by simp [results, Tryz.results125, go_sem, k0, k1, k2, k3, qv, bv]) rfl ⟨?_, hg3⟩
      rw [HQ.out, HK.out]
end Go.Proofs.YtfgecgmgbngeaaaGreat

set_option maxRecDepth 100000
namespace Go.Proofs.YtfgecgmgbngeaaaGreat
open Go.RowKit

set_option maxHeartbeats 400000 in
theorem bytesEqual {v u : Value} {xs ys : List UInt8} {F G : Nat → Prop} {w : World} (ha : RdB w F v xs) (hb : RdB w G u ys) :
    Calls Tryz.prog 147 #[v, u] w fun e w' => e = .returned (.bool (decide (xs = ys))) ∧ ∃ k, w' = w.drewN k := by
  have h1 := run_str ha
  have h2 := run_str hb
  go_enter Tryz.func147, Tryz.ntmps147
  go_wp2
  go_ret
  refine ⟨ret_bool ?_, 0, rfl⟩
  rw [Bool.eq_iff_iff]; simp

abbrev qlist := ql
theorem len4 : Tryz.prog.arrayLen 196 = 4 := by kernel_rfl
theorem slice_arr4 (w : World) (g : Nat) : (Instr.sliceAt 196 (.pointer (some ⟨g, 0, none⟩)) none none none).run Tryz.prog w = .ok (.slice (some ⟨g, 0, none⟩) 4 4) w := by
  rw [run_sliceAt_array_all (P := Tryz.prog) w 196 ⟨g, 0, none⟩ (by kernel_rfl)]
  rw [len4]
  have h1 : (sizeOf (Tryz.prog.elem 196)).run Tryz.prog w = .ok 1 w := by kernel_rfl
  rw [h1]
  simp only [Result.andThen, slicedAt, Nat.zero_mul]
  rfl

set_option maxHeartbeats 1000000 in
theorem parityGood {v : Value} {l : List UInt8} {F : Nat → Prop} {w : World} (hr : RdB w F v l) :
    Calls Tryz.prog 133 #[v] w fun e w' => e = .returned (.bool (goodB l)) ∧ Chg Non w w' := by
  obtain ⟨A, c, rfl, hc, hm⟩ := hr.shape
  unfold maxLen at hm
  by_cases h1 : 4 ≤ l.length
  · have hp := RdBB.one (hr.front (j := l.length - 4) (by omega)) 30
    go_enter Tryz.func133, Tryz.ntmps133
    go_wp2_with fail
    refine (parityCheck hp).mono ?_
    rintro e w1 ⟨rfl, hg⟩
    simp only [List.flatten_cons, List.flatten_nil, List.append_nil]
    obtain ⟨q, hq⟩ : ∃ q, q = chk (l.take (l.length - 4)) := ⟨_, rfl⟩
    rw [← hq]
    have HQ := hide hq
    clear hq hp
    simp only [qv, bv]
    go_wp2_with fail
    have hs4 := fun w => slice_arr4 w w1.heap.size
    have hA4 : RdB (w1.alloc (.cells #[bv q.1, bv q.2.1, bv q.2.2.1, bv q.2.2.2] 196)) (fun k => k = w1.heap.size) (.slice (some ⟨w1.heap.size, 0, none⟩) 4 4) (qlist q) :=
      RdB.lit w1 196 (0, 0) _ (qlist q) 4 rfl rfl (by simp [maxLen])
    simp only [bv] at hA4
    have hg2 := (((Chg.refl Non w).alloc (.cells #[.slice A (l.length - 4) c] 30)).trans0 hg).alloc (.cells #[.int .u8 (q.1.toNat : Int), .int .u8 (q.2.1.toNat : Int), .int .u8 (q.2.2.1.toNat : Int), .int .u8 (q.2.2.2.toNat : Int)] 196)
    generalize w1.alloc (.cells #[.int .u8 (q.1.toNat : Int), .int .u8 (q.2.1.toNat : Int), .int .u8 (q.2.2.1.toNat : Int), .int .u8 (q.2.2.2.toNat : Int)] 196) = w2 at hA4 hg2 ⊢
    generalize w1.heap.size = g at hs4 hA4 ⊢
    have hr2 := (hr.c0 hg2).piece (i := l.length - 4) (j := l.length) (by omega) (Nat.le_refl _)
    rw [if_neg (by omega), List.take_of_length_le (by simp)] at hr2
    clear hg
    go_quiet ((go_at_call 147; exact Calls.quiet_of (bytesEqual (hA4.dn _) (hr2.dn _))))
    go_wp2_with fail
    go_ret
    refine ⟨ret_bool ?_, hg2.drewN _⟩
    rw [goodB, decide_eq_true h1, HQ.out]; rfl
  · go_enter Tryz.func133, Tryz.ntmps133
    go_wp2_with fail
    go_ret
    exact ⟨by rw [goodB, decide_eq_false h1]; rfl, Chg.refl _ _⟩
end Go.Proofs.YtfgecgmgbngeaaaGreat
