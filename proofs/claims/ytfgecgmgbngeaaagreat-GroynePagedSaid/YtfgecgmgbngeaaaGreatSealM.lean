/- The walks of parity.put, Sealed and Seal. -/
import Derived.Test.YtfgecgmgbngeaaaGreatCheckM
import Derived.Test.YtfgecgmgbngeaaaGreatGfM
import Derived.Test.YtfgecgmgbngeaaaGreatSlc
import Derived.Deep.RegionLaw
import Derived.Deep.RegionHeld3
import Derived.Test.YtfgecgmgbngeaaaGreatBBM
set_option linter.unusedVariables false
set_option linter.unusedSimpArgs false
set_option maxRecDepth 100000
namespace Go.Proofs.YtfgecgmgbngeaaaGreat
open Go.RowKit

/-- the new slice lies where the old one lay, or in new memory -/
def GrewP (w : World) (v v' : Value) : Prop := v'.ownBlock = v.ownBlock ∨ ∃ k, v'.ownBlock = some k ∧ w.heap.size ≤ k
theorem GrewP.refl (w : World) (v : Value) : GrewP w v v := .inl rfl
theorem GrewP.trans {w w1 : World} {v v1 v2 : Value} (h : GrewP w v v1) (hs : w.heap.size ≤ w1.heap.size) (h' : GrewP w1 v1 v2) : GrewP w v v2 := by
  rcases h' with e | ⟨k, e, hk⟩
  · rcases h with e' | ⟨k, e', hk⟩
    · exact .inl (e.trans e')
    · exact .inr ⟨k, e.trans e', hk⟩
  · exact .inr ⟨k, e, Nat.le_trans hs hk⟩
theorem GrewP.of_at {w w0 : World} {v v2 : Value} (h : v2.ownBlock = v.ownBlock ∨ v2.ownBlock = some w.heap.size) (hs : w0.heap.size ≤ w.heap.size) : GrewP w0 v v2 := by
  rcases h with e | e
  · exact .inl e
  · exact .inr ⟨_, e, hs⟩
theorem GrewP.old {w : World} {v v2 : Value} {k : Nat} (h : GrewP w v v2) (hk : k < w.heap.size) (hb : v2.ownBlock = some k) : v.ownBlock = some k := by
  rcases h with e | ⟨j, e, hj⟩
  · exact e ▸ hb
  · rw [e] at hb; injection hb with hb; omega

set_option maxHeartbeats 1000000 in
theorem parityPut {v u : Value} {l b : List UInt8} {F : Nat → Prop} {base : Nat} {w : World} (hown : OwnB w base v l) (hr : RdB w F u b) (hl : l.length + b.length + 4 ≤ 140737488355328) (hbase : base ≤ w.heap.size) :
    Calls Tryz.prog 95 #[v, u] w fun e w' => ∃ v', e = .returned v' ∧ OwnB w' base v' (l ++ cellB b) ∧ Chg (fun k => v.ownBlock = some k) w w' ∧ GrewP w v v' := by
  have hvlt := hown.lt
  obtain ⟨A, n, c, rfl⟩ : ∃ A n c, u = .slice A n c := by obtain ⟨A, c, e, _⟩ := hr.shape; exact ⟨A, _, c, e⟩
  go_enter Tryz.func95, Tryz.ntmps95
  go_wp2_with fail
  refine (parityCheck (RdBB.one hr 30)).mono ?_
  rintro e w2 ⟨rfl, g2⟩
  simp only [List.flatten_cons, List.flatten_nil, List.append_nil]
  obtain ⟨q, hq⟩ : ∃ q, q = chk b := ⟨_, rfl⟩
  have HQ := hide hq
  rw [← hq]
  clear hq
  simp only [qv, bv]
  go_wp2_with fail
  have hs4 := fun w => slice_arr4 w w2.heap.size
  have hA4 : RdB (w2.alloc (.cells #[bv q.1, bv q.2.1, bv q.2.2.1, bv q.2.2.2] 196)) (fun k => k = w2.heap.size) (.slice (some ⟨w2.heap.size, 0, none⟩) 4 4) (qlist q) :=
    RdB.lit w2 196 (0, 0) _ (qlist q) 4 rfl rfl (by simp [maxLen])
  have c2 := ((Chg.refl Non w).alloc (.cells #[.slice A n c] 30)).trans0 g2
  have c3 := c2.alloc (.cells #[bv q.1, bv q.2.1, bv q.2.2.1, bv q.2.2.2] 196)
  have hgg : w.heap.size ≤ w2.heap.size := c2.size
  have hown3 := hown.chg c3 fun _ _ h => h
  have hr3 := hr.c0 c3
  simp only [bv] at hA4 c3 hown3 hr3
  generalize w2.alloc (.cells #[.int .u8 (q.1.toNat : Int), .int .u8 (q.2.1.toNat : Int), .int .u8 (q.2.2.1.toNat : Int), .int .u8 (q.2.2.2.toNat : Int)] 196) = w3 at hA4 c3 hown3 hr3 ⊢
  generalize w2.heap.size = g at hs4 hA4 hgg ⊢
  clear g2 c2 hown hr
  have hne : ∀ k, k = g → ¬ (some k = v.ownBlock) := fun k hk e => by have := (hvlt k e.symm).2; omega
  have hlen1 : l.length + b.length ≤ 140737488355328 := by omega
  have hlen2 : (l ++ b).length + (qlist q).length ≤ 140737488355328 := by rw [List.length_append]; simp [qlist, ql]; omega
  have hb3 : base ≤ w3.drew.heap.size := Nat.le_trans hbase c3.size
  have hown3d : OwnB w3.drew base v l := hown3
  have hr3d := hr3.dr
  have hA4d := hA4.dr
  go_region_law (first
    | (refine step_B rfl _ _ rfl hown3d rfl hr3d rfl hlen1 hb3 ?_; intro v1 wx hown4 hgr1 hat1)
    | (refine step_B rfl _ _ rfl hown4 rfl (hA4d.chg (Chg.of_grown hgr1) hne) rfl hlen2 (Nat.le_trans hb3 hgr1.size) ?_; intro v2 wy hown5 hgr2 hat2))
  go_wp2_with fail
  go_ret
  have k1 : Chg (fun k => v.ownBlock = some k) w wx := ((c3.drew).mono (S' := fun k => v.ownBlock = some k) fun _ _ h => h.elim).grown hgr1 fun k hk _ => hk
  have G1 : GrewP w v v1 := GrewP.of_at hat1 c3.size
  have k2 := k1.grown hgr2 fun k hk hlt => G1.old hlt hk
  have G2 : GrewP w v v2 := G1.trans k1.size (GrewP.of_at hat2 (Nat.le_refl _))
  refine ⟨v2, rfl, ?_, k2, G2⟩
  rw [cellB, ← HQ.out, ← List.append_assoc]
  exact hown5

def sealedN (n : Int) : Int := if n < 0 ∨ 1048576 < n then 0 else 8 + n + (n + 250) / 251 * 4
set_option maxHeartbeats 400000 in
theorem paritySealed {n : Int} {w : World} (hn : (Lit.int .i64 n).wf = true) :
    Calls Tryz.prog 96 #[.int .i64 n] w fun e w' => e = .returned (.int .i64 (sealedN n)) ∧ w' = w := by
  have hmin : IntKind.i64.min = -9223372036854775808 := rfl
  have hmax : IntKind.i64.max = 9223372036854775807 := rfl
  have hx : -9223372036854775808 ≤ n ∧ n ≤ 9223372036854775807 := by simpa [Lit.wf, hmin, hmax] using hn
  clear hn hmin hmax
  by_cases h1 : n < 0
  · have HS := hide (show sealedN n = 0 by rw [sealedN, if_pos (.inl h1)])
    go_enter Tryz.func96, Tryz.ntmps96
    go_wp2_with fail
    go_ret
    exact ⟨ret_int HS.out.symm, rfl⟩
  · by_cases h2 : 1048576 < n
    · have HS := hide (show sealedN n = 0 by rw [sealedN, if_pos (.inr h2)])
      go_enter Tryz.func96, Tryz.ntmps96
      go_wp2_with fail
      go_ret
      exact ⟨ret_int HS.out.symm, rfl⟩
    · have HS := hide (show sealedN n = 8 + n + (n + 250) / 251 * 4 by rw [sealedN, if_neg (by omega)])
      have hw1 : IntKind.i64.wrap (8 + n) = 8 + n := IntWalk.i64_in _ (by omega)
      have hw2 : IntKind.i64.wrap (n + 251) = n + 251 := IntWalk.i64_in _ (by omega)
      have hw3 : IntKind.i64.wrap (n + 251 - 1) = n + 251 - 1 := IntWalk.i64_in _ (by omega)
      go_enter Tryz.func96, Tryz.ntmps96
      go_wp2_with fail
      go_ret
      exact ⟨ret_int (by rw [HS.out]; omega), rfl⟩

theorem run_mkcap (w : World) (n : Nat) (h : n ≤ 2000000) : (Instr.makeSlice 30 (.int .i64 0) (.int .i64 (n : Int))).run Tryz.prog w = .ok (.slice (some ⟨w.heap.size, 0, none⟩) 0 n) (w.alloc (.cells (madeCells #[.int .u8 0] n) 5)) := by
  obtain ⟨i, hi, hz, h1, h2⟩ := info_parts info_u8
  have h := run_make (P := Tryz.prog) w 30 5 i _ Tryz.underlying30 hi hz .i64 .i64 0 n (Int.le_refl _) (by omega) (by rw [h2]; omega) (by omega)
  rw [h1, Int.toNat_natCast, Nat.mul_one] at h
  exact h
theorem own_mkcap (w : World) (n : Nat) (h : n ≤ 2000000) : OwnB (w.alloc (.cells (madeCells #[.int .u8 0] n) 5)) w.heap.size (.slice (some ⟨w.heap.size, 0, none⟩) 0 n) [] :=
  World.ownsRow_made (size := 1) w (madeCells #[.int .u8 0] n) n (Nat.le_refl _) (by simp only [maxLen]; omega) (by rw [size_madeCells]; simp)

theorem litlen (n : Nat) (h : n ≤ 1048576) : (#[Value.int .u8 ((n : Int) / 16777216), .int .u8 ((n : Int) / 65536), .int .u8 ((n : Int) / 256 % 256), .int .u8 ((n : Int) % 256)] : Array Value).toList = bvs (lenB n) := by
  have a1 : (n : Int) / 16777216 = ((UInt8.ofNat (n / 16777216)).toNat : Int) := by rw [UInt8.toNat_ofNat']; omega
  have a2 : (n : Int) / 65536 = ((UInt8.ofNat (n / 65536)).toNat : Int) := by rw [UInt8.toNat_ofNat']; omega
  have a3 : (n : Int) / 256 % 256 = ((UInt8.ofNat (n / 256)).toNat : Int) := by rw [UInt8.toNat_ofNat']; omega
  have a4 : (n : Int) % 256 = ((UInt8.ofNat n).toNat : Int) := by rw [UInt8.toNat_ofNat']; omega
  rw [a1, a2, a3, a4]
  rfl
def sliceLen : Value → Nat
  | .slice _ n _ => n
  | _ => 0
theorem RdB.slen {w : World} {F : Nat → Prop} {v : Value} {l : List UInt8} (h : RdB w F v l) : sliceLen v = l.length := by
  obtain ⟨A, c, rfl, _, _⟩ := h.shape
  rfl

set_option maxRecDepth 100000 in
set_option maxHeartbeats 1000000 in
theorem paritySeal {u : Value} {b : List UInt8} {F : Nat → Prop} {w : World} (hr : RdB w F u b) :
    Calls Tryz.prog 57 #[u] w fun e w' => ∃ v', e = .returned (.tuple #[v', .int .i64 (if 1048576 < b.length then 2 else 0)]) ∧ OwnB w' w.heap.size v' (if 1048576 < b.length then [] else sealB b) ∧ Chg Non w w' := by
  have hlen8 := fun (w' : World) (ty : TypeId) => run_len8 hr w' ty
  have hml : b.length ≤ 9223372036854775807 := by obtain ⟨A, c, _, h1, h2⟩ := hr.shape; unfold maxLen at h2; omega
  by_cases h1 : 1048576 < b.length
  · rw [if_pos h1, if_pos h1]
    have hd : decide ((1048576 : Int) < (b.length : Int)) = true := decide_eq_true (by omega)
    go_enter Tryz.func57, Tryz.ntmps57
    go_wp2_with fail
    go_ret2
    exact ⟨_, rfl, OwnB.nil_ _ _, Chg.refl _ _⟩
  · rw [if_neg h1, if_neg h1]
    have hd : decide ((1048576 : Int) < (b.length : Int)) = false := decide_eq_false (by omega)
    obtain ⟨S, hS, hSl⟩ : ∃ S : Nat, sealedN (b.length : Int) = (S : Int) ∧ S ≤ 2000000 := ⟨8 + b.length + (b.length + 250) / 251 * 4, by rw [sealedN, if_neg (by omega)]; omega, by omega⟩
    have hsd := fun (w' : World) => paritySealed (n := (b.length : Int)) (w := w') (by
      have hmin : IntKind.i64.min = -9223372036854775808 := rfl
      have hmax : IntKind.i64.max = 9223372036854775807 := rfl
      simp [Lit.wf, hmin, hmax]; omega)
    rw [hS] at hsd
    have hmk := fun (w' : World) => run_mkcap w' S hSl
    go_enter Tryz.func57, Tryz.ntmps57
    go_wp2_with fail
    refine (hsd w).mono ?_
    rintro e w1 ⟨rfl, rfl⟩
    have hmk1 := own_mkcap w1 S hSl
    have hlit := RdB.lit (w1.alloc (.cells (madeCells #[.int .u8 0] S) 5)) 5 (0, 0) #[.int .u8 ((b.length : Int) / 16777216), .int .u8 ((b.length : Int) / 65536), .int .u8 ((b.length : Int) / 256 % 256), .int .u8 ((b.length : Int) % 256)] (lenB b.length) 4 (litlen _ (by omega)) rfl (by simp [maxLen])
    rw [show (w1.alloc (.cells (madeCells #[.int .u8 0] S) 5)).heap.size = w1.heap.size + 1 by simp] at hlit
    have hput := parityPut (hmk1.al _) hlit (by simp [lenB]) (by simp; omega)
    rw [List.nil_append] at hput
    have c1 := ((Chg.refl Non w1).alloc (.cells (madeCells #[.int .u8 0] S) 5)).alloc (.cells #[.int .u8 ((b.length : Int) / 16777216), .int .u8 ((b.length : Int) / 65536), .int .u8 ((b.length : Int) / 256 % 256), .int .u8 ((b.length : Int) % 256)] 5)
    have hr0 := hr.lt
    have hsl := sealB_length b
    clear hmk1 hlit hsd hS
    go_wp2_with fail
    refine hput.mono ?_
    rintro e w2 ⟨v2, rfl, hown2, k2, G2⟩
    have c2 := c1.trans k2 fun k hk e => by simp [Value.ownBlock] at e; omega
    have hr2 := hr0.c0 c2
    clear hput c1 k2 G2 hr0 hr hmk
    go_wp2_with fail
    go_loopw [0, 5] (fun uv ov wr => ∃ (rest out : List UInt8), RdB wr (fun k => F k ∧ k < w1.heap.size) uv rest ∧ OwnB wr w1.heap.size ov out ∧ rest.length ≤ 1048576 ∧ Hid (out ++ cellsB rest = sealB b) ∧ Chg Non w1 wr) (fun uv _ _ => sliceLen uv)
    case atStart => exact ⟨b, _, hr2, hown2, by omega, hide rfl, c2⟩
    case round =>
      clear hr2 hown2 c2
      obtain ⟨rest, out, hr, hown, hrl, hsp, hcw⟩ := hrel
      have hlen8 := fun (w' : World) (ty : TypeId) => run_len8 hr w' ty
      by_cases h2 : 0 < rest.length
      · have hd2 : decide ((0 : Int) < (rest.length : Int)) = true := decide_eq_true (by omega)
        have hol := congrArg List.length hsp.out
        rw [List.length_append, cellsB_length _ rest (Nat.le_refl _)] at hol
        have HSP := hide (hsp.out.symm.trans (by rw [cellsB_step h2, ← List.append_assoc]))
        obtain ⟨n, hn, hcase⟩ : ∃ n, n = min 251 rest.length ∧ ((251 ≤ rest.length ∧ n = 251) ∨ (¬ 251 ≤ rest.length ∧ n = rest.length)) := ⟨_, rfl, by omega⟩
        obtain ⟨s1, hs1, hc1⟩ := run_cut_h hr (j := n) (y := (n : Int)) rfl (by omega)
        obtain ⟨s2, hs2, hc2⟩ := run_cut_l hr (i := n) (x := (n : Int)) rfl (by omega)
        have hsl2 := hs2.slen
        rw [List.length_drop] at hsl2
        have hsl0 := hr.slen
        have hns : rest.take n = rest.take 251 := by
          rcases hcase with ⟨_, rfl⟩ | ⟨h, rfl⟩
          · rfl
          · rw [List.take_of_length_le (Nat.le_refl _), List.take_of_length_le (by omega)]
        have hnd : rest.drop n = rest.drop 251 := by
          rcases hcase with ⟨_, rfl⟩ | ⟨h, rfl⟩
          · rfl
          · rw [List.drop_of_length_le (Nat.le_refl _), List.drop_of_length_le (by omega)]
        rw [hns] at hs1
        rw [hnd] at hs2
        have hput := parityPut (w := wr.drew) hown hs1.dr (by rw [List.length_take]; omega) hcw.drew.size
        have hvlt := hown.lt
        have hmeas : 0 < n ∧ n ≤ rest.length := by omega
        have hdl : (rest.drop 251).length ≤ 1048576 := by rw [List.length_drop]; omega
        clear hn hol hns hnd
        rcases hcase with ⟨h3, rfl⟩ | ⟨h3, rfl⟩
        case' inl =>
          have h3' : (251 : Int) ≤ (rest.length : Int) := by omega
          simp only [show ((251 : Nat) : Int) = 251 from rfl] at hc1 hc2
        case' inr => have h3' : ¬ (251 : Int) ≤ (rest.length : Int) := by omega
        all_goals
          go_wp2_with fail
          go_region_held3 (fun _ => True) (first | exact trivial) (first
            | (go_at_call 95; refine hput.mono ?_; rintro e w5 ⟨v5, rfl, hown5, k5, G5⟩))
          have hs5 := hs2.dr.chg k5 fun k hk e => by have := (hvlt k e).1; have := hk.2; omega
          have hcw5 := (hcw.drew).trans k5 fun k hk e => by have := (hvlt k e).1; omega
          clear hput hr hown hcw hs1 hs2 hc1 hc2 hlen8 k5 G5
          go_wp2_with fail
          go_round
          case rel => exact ⟨_, _, hs5, hown5, hdl, HSP.out.symm |> hide, hcw5⟩
          case measure => rw [hsl2, hsl0]; omega
      · have hnil := cellsB_nil (b := rest) (by omega)
        have hsp2 := hsp.out
        rw [hnil, List.append_nil] at hsp2
        rw [hsp2] at hown
        have h0 : rest.length = 0 := by omega
        have hd2 : decide ((0 : Int) < (rest.length : Int)) = false := decide_eq_false (by omega)
        clear hnil hsp2 hsp
        go_wp2_with fail
        go_ret2
        exact ⟨_, rfl, hown, hcw⟩
end Go.Proofs.YtfgecgmgbngeaaaGreat

set_option maxRecDepth 100000
namespace Go.Proofs.YtfgecgmgbngeaaaGreat
open Go.RowKit

set_option maxRecDepth 100000 in
set_option maxHeartbeats 1000000 in
theorem parityTake {u : Value} {b : List UInt8} {F : Nat → Prop} {w : World} {a n : Nat} (hr : RdB w F u b) (ha : a ≤ b.length) (hn : n ≤ 1000000) :
    Calls Tryz.prog 108 #[u, .int .i64 (a : Int), .int .i64 (n : Int)] w fun e w' => ∃ x, e = .returned (.tuple #[x, .int .i64 (tkE (b.drop a) n)]) ∧
      (tkE (b.drop a) n = 0 → RdB w' F x ((b.drop a).take n)) ∧ Chg Non w w' := by
  have hlen8 := fun (w' : World) (ty : TypeId) => run_len8 hr w' ty
  have hml : b.length ≤ 9223372036854775807 := by obtain ⟨A, c, _, h1, h2⟩ := hr.shape; unfold maxLen at h2; omega
  have hw1 : IntKind.i64.wrap ((b.length : Int) - (a : Int)) = (b.length : Int) - (a : Int) := IntWalk.i64_in _ (by omega)
  have hw2 : IntKind.i64.wrap ((n : Int) + 4) = (n : Int) + 4 := IntWalk.i64_in _ (by omega)
  by_cases h1 : (b.drop a).length < n + 4
  · have HE := hide (show tkE (b.drop a) n = 5 by rw [tkE, if_pos h1])
    rw [List.length_drop] at h1
    have hd : decide ((b.length : Int) - (a : Int) < (n : Int) + 4) = true := decide_eq_true (by omega)
    go_enter Tryz.func108, Tryz.ntmps108
    go_wp2_with fail
    go_ret2
    rw [HE.out]
    exact ⟨_, rfl, fun h => absurd h (by decide), Chg.refl _ _⟩
  · have hEE : tkE (b.drop a) n = if goodB ((b.drop a).take (n + 4)) then 0 else 4 := by rw [tkE, if_neg h1]
    rw [List.length_drop] at h1
    have hd : decide ((b.length : Int) - (a : Int) < (n : Int) + 4) = false := decide_eq_false (by omega)
    have hw3 : IntKind.i64.wrap ((a : Int) + (n : Int)) = (a : Int) + (n : Int) := IntWalk.i64_in _ (by omega)
    have hw4 : IntKind.i64.wrap ((a : Int) + (n : Int) + 4) = (a : Int) + (n : Int) + 4 := IntWalk.i64_in _ (by omega)
    obtain ⟨s1, hs1, hc1⟩ := run_cut hr (i := a) (j := a + n + 4) (x := (a : Int)) (y := (a : Int) + (n : Int) + 4) rfl (by omega) (by omega) (by omega)
    obtain ⟨s2, hs2, hc2⟩ := run_cut hr (i := a) (j := a + n) (x := (a : Int)) (y := (a : Int) + (n : Int)) rfl (by omega) (by omega) (by omega)
    rw [show a + n + 4 - a = n + 4 by omega] at hs1
    rw [show a + n - a = n by omega] at hs2
    have hgood := parityGood hs1
    obtain ⟨gb, hgb⟩ : ∃ gb, gb = goodB ((b.drop a).take (n + 4)) := ⟨_, rfl⟩
    rw [← hgb] at hgood hEE
    clear hgb hs1
    cases gb
    all_goals
      have HE := hide hEE
      clear hEE
      go_enter Tryz.func108, Tryz.ntmps108
      go_wp2_with fail
      refine hgood.mono ?_
      rintro e w1 ⟨rfl, g1⟩
      go_wp2_with fail
      go_ret2
      rw [HE.out]
      refine ⟨_, rfl, fun h => ?_, g1⟩
      first
        | exact hs2.c0 g1
        | (simp at h)

theorem i64_or_nat (a b : Nat) (ha : a < 9223372036854775808) (hb : b < 9223372036854775808) : bits .or .i64 (a : Int) (b : Int) = ((a ||| b : Nat) : Int) := by
  have hx : a ||| b < 2 ^ 63 := Nat.or_lt_two_pow (by omega) (by omega)
  show IntKind.i64.wrap ((BitVec.ofInt 64 (a : Int) ||| BitVec.ofInt 64 (b : Int)).toNat : Int) = _
  rw [BitVec.toNat_or, ofInt_i64n a ha, ofInt_i64n b hb, IntKind.wrap_i64]
  omega
theorem or_byte64 (x : Nat) (y : UInt8) (hx : x < 16777216) : bits .or .i64 ((x : Int) * 256) (y.toNat : Int) = ((x * 256 + y.toNat : Nat) : Int) := by
  have hy := y.toNat_lt
  rw [show ((x : Int) * 256) = ((x * 256 : Nat) : Int) by omega, i64_or_nat _ _ (by omega) (by omega)]
  congr 1
  have h := Nat.shiftLeft_add_eq_or_of_lt (i := 8) (b := y.toNat) (by omega) x
  rw [Nat.shiftLeft_eq] at h
  exact h.symm
theorem be4_snoc (l : List UInt8) (c : UInt8) : be4 (l ++ [c]) = be4 l * 256 + c.toNat := by simp [be4]
theorem be4_lt : ∀ (n : Nat) (l : List UInt8), l.length = n → be4 l < 256 ^ n
  | 0, l, h => by rw [List.eq_nil_of_length_eq_zero h]; simp [be4]
  | n + 1, l, h => by
    rcases List.eq_nil_or_concat l with rfl | ⟨q, c, rfl⟩
    · simp at h
    · simp only [List.concat_eq_append] at h ⊢
      rw [be4_snoc, Nat.pow_succ]
      have h1 := be4_lt n q (by simpa using h)
      have := c.toNat_lt
      omega

theorem tkE_len {r : List UInt8} {n : Nat} (h : tkE r n = 0) : n + 4 ≤ r.length := by
  rw [tkE] at h
  split at h
  · exact absurd h (by decide)
  · omega
theorem be4_take (l : List UInt8) (i : Nat) (h : i < l.length) : be4 (l.take (i + 1)) = be4 (l.take i) * 256 + l[i].toNat := by
  rw [List.take_succ_eq_append_getElem h, be4_snoc]
theorem be4_small (l : List UInt8) (i : Nat) (h : i < 4) : be4 (l.take i) < 16777216 := by
  have h1 := be4_lt _ (l.take i) rfl
  have h2 : (l.take i).length ≤ 3 := by rw [List.length_take]; omega
  exact Nat.lt_of_lt_of_le h1 (Nat.le_trans (Nat.pow_le_pow_right (by omega) h2) (Nat.le_of_eq (by decide)))
/-- what Open answers -/
def openA (b : List UInt8) (at_ : Int) : List UInt8 × Int × Int :=
  if at_ < 0 ∨ (b.length : Int) < at_ then ([], 0, 1)
  else if (openR (b.drop at_.toNat)).2.2 ≠ 0 then ([], 0, (openR (b.drop at_.toNat)).2.2)
  else ((openR (b.drop at_.toNat)).1, (b.length : Int) - (openR (b.drop at_.toNat)).2.1.length, 0)
theorem openA_bad {b : List UInt8} {a : Nat} {x r : List UInt8} {er : Int} (ha : a ≤ b.length) (h : openR (b.drop a) = (x, r, er)) (he : er ≠ 0) : openA b (a : Int) = ([], 0, er) := by
  rw [openA, if_neg (by omega), Int.toNat_natCast, h, if_pos he]
theorem openA_ok {b : List UInt8} {a : Nat} {x r : List UInt8} (ha : a ≤ b.length) (h : openR (b.drop a) = (x, r, 0)) : openA b (a : Int) = (x, (b.length : Int) - r.length, 0) := by
  rw [openA, if_neg (by omega), Int.toNat_natCast, h, if_neg (by simp)]
def opA (x : List UInt8 × Int × Int) (v : Value) : Ending := .returned (.tuple #[v, .int .i64 x.2.1, .int .i64 x.2.2])

set_option maxRecDepth 100000 in
set_option maxHeartbeats 2000000 in
theorem parityOpen {u : Value} {b : List UInt8} {F : Nat → Prop} {w : World} {at_ : Int} (hr : RdB w F u b) (hbl : b.length ≤ 140737488355328) :
    Calls Tryz.prog 77 #[u, .int .i64 at_] w fun e w' => ∃ v, e = opA (openA b at_) v ∧ OwnB w' w.heap.size v (openA b at_).1 ∧ Chg Non w w' := by
  have hlen8 := fun (w' : World) (ty : TypeId) => run_len8 hr w' ty
  by_cases h1 : at_ < 0
  · have HA := hide (show openA b at_ = ([], 0, 1) by rw [openA, if_pos (.inl h1)])
    go_enter Tryz.func77, Tryz.ntmps77
    go_wp2_with fail
    go_ret3
    rw [HA.out]
    exact ⟨_, rfl, OwnB.nil_ _ _, Chg.refl _ _⟩
  · by_cases h2 : (b.length : Int) < at_
    · have HA := hide (show openA b at_ = ([], 0, 1) by rw [openA, if_pos (.inr h2)])
      go_enter Tryz.func77, Tryz.ntmps77
      go_wp2_with fail
      go_ret3
      rw [HA.out]
      exact ⟨_, rfl, OwnB.nil_ _ _, Chg.refl _ _⟩
    · obtain ⟨a, rfl⟩ : ∃ a : Nat, at_ = (a : Int) := ⟨at_.toNat, by omega⟩
      have ha : a ≤ b.length := by omega
      have hd : decide ((b.length : Int) < (a : Int)) = false := decide_eq_false (by omega)
      have htk := parityTake (n := 4) hr ha (by omega)
      have hr0 := hr.lt
      by_cases h3 : tkE (b.drop a) 4 = 0
      · rw [h3] at htk
        have hl8 := tkE_len h3
        obtain ⟨hd4, hhd⟩ : ∃ hd4, hd4 = (b.drop a).take 4 := ⟨_, rfl⟩
        have hd4l : hd4.length = 4 := by rw [hhd, List.length_take]; omega
        rw [← hhd] at htk
        have HOB := fun h => hide (openR_size h3 (show 1048576 < be4 ((b.drop a).take 4) from h))
        have HOK := fun h => hide (openR_ok h3 (show ¬ 1048576 < be4 ((b.drop a).take 4) from h))
        rw [← hhd] at HOB HOK
        rw [List.length_drop] at hl8
        rw [List.drop_drop] at HOK
        clear hhd h3
        go_enter Tryz.func77, Tryz.ntmps77
        go_wp2_with fail
        refine htk.mono ?_
        rintro e w1 ⟨x, rfl, hx, g1⟩
        have hx := hx trivial
        have hlenx := fun (w' : World) (ty : TypeId) => run_len8 hx w' ty
        obtain ⟨X, cx, hxe, _, _⟩ := hx.shape
        rw [hd4l] at hxe
        subst hxe
        have hr1 := hr0.c0 g1
        clear htk hr0 hr
        go_wp2_with fail
        go_loop [9, 35] (fun lv iv => ∃ (i : Nat), i ≤ 4 ∧ iv = .int .i64 i ∧ lv = .int .i64 (be4 (hd4.take i) : Int)) (fun _ iv => 4 - (intOf iv).toNat)
        case atStart => exact ⟨0, by omega, rfl, rfl⟩
        case round =>
          obtain ⟨i, hi, rfl, rfl⟩ := hrel
          by_cases h4 : i < 4
          · obtain ⟨xd, rfl, _, hcx⟩ := hx.at_ (k := i) (by omega)
            have HB := hide (be4_take hd4 i (by omega))
            have hsm := be4_small hd4 i h4
            obtain ⟨y, hy⟩ : ∃ y, y = hd4[i]'(by omega) := ⟨_, rfl⟩
            obtain ⟨z, hz⟩ : ∃ z, z = be4 (hd4.take i) := ⟨_, rfl⟩
            rw [← hy] at hcx HB
            rw [← hz] at HB hsm
            rw [← hz]
            clear hy hz
            have hor := or_byte64 z y hsm
            have hyl := y.toNat_lt
            go_wp2_with fail
            go_round
            case rel => exact ⟨i + 1, by omega, by go_num, by rw [HB.out]; congr 1⟩
            case measure => simp [intOf]; omega
          · obtain rfl : i = 4 := by omega
            rw [show hd4.take 4 = hd4 from List.take_of_length_le (by omega)]
            obtain ⟨n0, hn0⟩ : ∃ n0, n0 = be4 hd4 := ⟨_, rfl⟩
            rw [← hn0] at HOB HOK
            rw [← hn0]
            have hn0l : n0 < 4294967296 := by rw [hn0]; have := be4_lt 4 hd4 hd4l; omega
            have hw8 : IntKind.i64.wrap ((a : Int) + 8) = (a : Int) + 8 := IntWalk.i64_in _ (by omega)
            clear hn0 hx hlenx
            by_cases h5 : 1048576 < n0
            · have HA := hide (openA_bad ha (HOB h5).out (by decide))
              have hd5 : decide ((1048576 : Int) < (n0 : Int)) = true := decide_eq_true (by omega)
              clear HOB HOK
              go_wp2_with fail
              go_ret3
              rw [HA.out]
              exact ⟨_, rfl, OwnB.nil_ _ _, g1⟩
            · have HR := HOK h5
              have hd5 : decide ((1048576 : Int) < (n0 : Int)) = false := decide_eq_false (by omega)
              clear HOB HOK
              go_wp2_with fail
              go_loopw [1, 9, 12] (fun av lv ov wr => ∃ (a1 n : Nat) (done : List UInt8), av = .int .i64 (a1 : Int) ∧ lv = .int .i64 (n : Int) ∧ a1 ≤ b.length ∧ n ≤ 1048576 ∧ done.length + n ≤ 1048576 ∧ OwnB wr w.heap.size ov done ∧ Hid (openR (b.drop a) = opN n done (b.drop a1)) ∧ RdB wr (fun k => F k ∧ k < w.heap.size) u b ∧ Chg Non w wr) (fun _ lv _ _ => (intOf lv).toNat)
              case atStart => exact ⟨a + 8, n0, [], by go_num, rfl, by omega, by omega, by simp; omega, OwnB.nil_ _ _, HR, hr1, g1⟩
              case round =>
                clear HR hr1 g1
                obtain ⟨a1, n, done, rfl, rfl, ha1, hn, hdn, hown, hop, hr, hcw⟩ := hrel
                by_cases h6 : 0 < n
                · obtain ⟨m, hm, hcase⟩ : ∃ m, m = min 251 n ∧ ((251 ≤ n ∧ m = 251) ∨ (¬ 251 ≤ n ∧ m = n)) := ⟨_, rfl, by omega⟩
                  have htk := parityTake (n := m) hr ha1 (by omega)
                  have hd6 : decide ((0 : Int) < (n : Int)) = true := decide_eq_true (by omega)
                  have hm1 : 0 < m ∧ m ≤ n ∧ m ≤ 251 := by omega
                  have HBAD := fun h => hide (hop.out.trans (opN_bad h6 h))
                  have HOKN := fun h => hide (hop.out.trans (opN_ok h6 h))
                  rw [← hm] at HBAD HOKN
                  by_cases h7 : tkE (b.drop a1) m = 0
                  · have hl7 := tkE_len h7
                    rw [List.length_drop] at hl7
                    have HN := HOKN h7
                    rw [h7] at htk
                    rw [List.drop_drop] at HN
                    have hlen : done.length + ((b.drop a1).take m).length ≤ 140737488355328 := by rw [List.length_take]; omega
                    have hlm : ((b.drop a1).take m).length = m := by rw [List.length_take, List.length_drop]; omega
                    have hsz := hcw.size
                    have hw1 : IntKind.i64.wrap ((a1 : Int) + (m : Int)) = (a1 : Int) + (m : Int) := IntWalk.i64_in _ (by omega)
                    have hw2 : IntKind.i64.wrap ((a1 : Int) + (m : Int) + 4) = (a1 : Int) + (m : Int) + 4 := IntWalk.i64_in _ (by omega)
                    have hw3 : IntKind.i64.wrap ((n : Int) - (m : Int)) = (n : Int) - (m : Int) := IntWalk.i64_in _ (by omega)
                    clear HBAD HOKN hop h7 hm
                    rcases hcase with ⟨h8, rfl⟩ | ⟨h8, rfl⟩
                    case' inl =>
                      have h8' : (251 : Int) ≤ (n : Int) := by omega
                      simp only [show ((251 : Nat) : Int) = 251 from rfl] at htk hw1 hw2 hw3
                    case' inr => have h8' : ¬ (251 : Int) ≤ (m : Int) := by omega
                    all_goals
                      go_wp2_with fail
                      refine htk.mono ?_
                      rintro e w3 ⟨x3, rfl, hx3, k3⟩
                      have hx3 := hx3 trivial
                      obtain ⟨X3, n3, c3, rfl⟩ : ∃ A n c, x3 = .slice A n c := by obtain ⟨A, c, e, _⟩ := hx3.shape; exact ⟨A, _, c, e⟩
                      have hown3 := hown.chg k3 fun _ _ h => h
                      have hr3 := hr.c0 k3
                      have hcw3 := hcw.trans0 k3
                      have hsz3 := hcw3.size
                      clear htk hown hr hcw k3
                      go_wp2_with (at_builtin; refine append_B rfl _ _ rfl hown3 rfl hx3 rfl hlen hsz3 ?_; intro v4 w4 hown4 hg4 hat4)
                      have hrow4 : ∀ k, u12.ownBlock = some k → w.heap.size ≤ k := fun k hk => (hown3.lt k hk).1
                      have hr4 := hr3.chg (Chg.of_grown hg4) fun k hk e => by have := hrow4 k e.symm; have := hk.2; omega
                      have hcw4 := hcw3.own hg4 hrow4
                      go_round
                      case rel => exact ⟨_, _, _, by go_num, by go_num, by omega, by omega, by rw [List.length_append, hlm]; omega, hown4, HN, hr4, hcw4⟩
                      case measure => simp [intOf]; omega
                  · have HA := hide (openA_bad ha (HBAD h7).out h7)
                    obtain ⟨er, her⟩ : ∃ er, er = tkE (b.drop a1) m := ⟨_, rfl⟩
                    rw [← her] at htk HA h7
                    have hne : (er != 0) = true := by simp [h7]
                    clear her h7 HBAD HOKN hop hm
                    rcases hcase with ⟨h8, rfl⟩ | ⟨h8, rfl⟩
                    case' inl =>
                      have h8' : (251 : Int) ≤ (n : Int) := by omega
                      simp only [show ((251 : Nat) : Int) = 251 from rfl] at htk
                    case' inr => have h8' : ¬ (251 : Int) ≤ (m : Int) := by omega
                    all_goals
                      go_wp2_with fail
                      refine htk.mono ?_
                      rintro e w3 ⟨x3, rfl, _, k3⟩
                      go_wp2_with fail
                      go_ret3
                      rw [HA.out]
                      exact ⟨_, rfl, OwnB.nil_ _ _, hcw.trans0 k3⟩
                · obtain rfl : n = 0 := by omega
                  have hop2 := hop.out
                  rw [opN_zero] at hop2
                  have hA := openA_ok ha hop2
                  rw [List.length_drop, show (b.length : Int) - ((b.length - a1 : Nat) : Int) = (a1 : Int) by omega] at hA
                  have HA := hide hA
                  clear hop hop2 hA
                  go_wp2_with fail
                  go_ret3
                  rw [HA.out]
                  exact ⟨_, rfl, hown, hcw⟩
      · have HA := hide (openA_bad ha (openR_bad h3) h3)
        obtain ⟨er, her⟩ : ∃ er, er = tkE (b.drop a) 4 := ⟨_, rfl⟩
        rw [← her] at htk HA h3
        have hne : (er != 0) = true := by simp [h3]
        clear her h3
        go_enter Tryz.func77, Tryz.ntmps77
        go_wp2_with fail
        refine htk.mono ?_
        rintro e w1 ⟨x, rfl, _, g1⟩
        go_wp2_with fail
        go_ret3
        rw [HA.out]
        exact ⟨_, rfl, OwnB.nil_ _ _, g1⟩
end Go.Proofs.YtfgecgmgbngeaaaGreat
