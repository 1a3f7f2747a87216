/- The walks of parity.put, Sealed and Seal. -/
import Derived.Test.YtncchbcoldgpbaaPyM
import Derived.Test.YtncchbcoldgpbaaBaM
import Derived.Deep.RegionLaw
import Derived.Deep.RegionHeld3
namespace Go.Proofs.Ytncchbcoldgpbaa
open Go.RowKit

/-- the new slice lies where the old one lay, or in new memory -/
def GrewP (w : World) (v v' : Value) : Prop := v'.ownBlock = v.ownBlock ∨ ∃ k, v'.ownBlock = some k ∧ w.heap.size ≤ k
theorem GrewP.refl (w : World) (v : Value) : GrewP w v v := .inl rfl
theorem GrewP.trans {w w1 : World} {v v1 v2 : Value} (h : GrewP w v v1) (hs : w.heap.size ≤ w1.heap.size) (h' : GrewP w1 v1 v2) : GrewP w v v2 := by
  rcases h' with e | ⟨k, e, hk⟩
  · rcases h with e' | ⟨k, e', hk⟩
    · exact .inl (e.trans e')
    · exact .inr ⟨k, e.trans e', hk⟩
  · exact .inr ⟨k, e, Nat.le_trans hs hk⟩
theorem GrewP.of_at {w w0 : World} {v v2 : Value} (h : v2.ownBlock = v.ownBlock ∨ v2.ownBlock = some w.heap.size) (hs : w0.heap.size ≤ w.heap.size) : GrewP w0 v v2 := by
  rcases h with e | e
  · exact .inl e
  · exact .inr ⟨_, e, hs⟩
theorem GrewP.old {w : World} {v v2 : Value} {k : Nat} (h : GrewP w v v2) (hk : k < w.heap.size) (hb : v2.ownBlock = some k) : v.ownBlock = some k := by
  rcases h with e | ⟨j, e, hj⟩
  · exact e ▸ hb
  · rw [e] at hb; injection hb with hb; omega

set_option maxHeartbeats 1000000 in
theorem parityPut {v u : Value} {l b : List UInt8} {F : Nat → Prop} {base : Nat} {w : World} (hown : OwnB w base v l) (hr : RdB w F u b) (hl : l.length + b.length + 4 ≤ 140737488355328) (hbase : base ≤ w.heap.size) :
    Calls Try.prog 61 #[v, u] w fun e w' => ∃ v', e = .returned v' ∧ OwnB w' base v' (l ++ cellB b) ∧ Chg (fun k => v.ownBlock = some k) w w' ∧ GrewP w v v' := by
  have hvlt := hown.lt
  obtain ⟨A, n, c, rfl⟩ : ∃ A n c, u = .slice A n c := by obtain ⟨A, c, e, _⟩ := hr.shape; exact ⟨A, _, c, e⟩
  go_enter Try.func61, Try.ntmps61
  go_wp2_with fail
  refine (parityCheck (RdBB.one hr 26)).mono ?_
  rintro e w2 ⟨rfl, g2⟩
  simp only [List.flatten_cons, List.flatten_nil, List.append_nil]
  obtain ⟨q, hq⟩ : ∃ q, q = chk b := ⟨_, rfl⟩
  have HQ := hide hq
  rw [← hq]
  clear hq
  simp only [qv, bv]
  go_wp2_with fail
  have hs4 := fun w => slice_arr4 w w2.heap.size
  have hA4 : RdB (w2.alloc (.cells #[bv q.1, bv q.2.1, bv q.2.2.1, bv q.2.2.2] 179)) (fun k => k = w2.heap.size) (.slice (some ⟨w2.heap.size, 0, none⟩) 4 4) (qlist q) :=
    RdB.lit w2 179 (0, 0) _ (qlist q) 4 rfl rfl (by simp [maxLen])
  have c2 := ((Chg.refl Non w).alloc (.cells #[.slice A n c] 26)).trans0 g2
  have c3 := c2.alloc (.cells #[bv q.1, bv q.2.1, bv q.2.2.1, bv q.2.2.2] 179)
  have hgg : w.heap.size ≤ w2.heap.size := c2.size
  have hown3 := hown.chg c3 fun _ _ h => h
  have hr3 := hr.c0 c3
  simp only [bv] at hA4 c3 hown3 hr3
  generalize w2.alloc (.cells #[.int .u8 (q.1.toNat : Int), .int .u8 (q.2.1.toNat : Int), .int .u8 (q.2.2.1.toNat : Int), .int .u8 (q.2.2.2.toNat : Int)] 179) = w3 at hA4 c3 hown3 hr3 ⊢
  generalize w2.heap.size = g at hs4 hA4 hgg ⊢
  clear g2 c2 hown hr
  have hne : ∀ k, k = g → ¬ (some k = v.ownBlock) := fun k hk e => by have := (hvlt k e.symm).2; omega
  have hlen1 : l.length + b.length ≤ 140737488355328 := by omega
  have hlen2 : (l ++ b).length + (qlist q).length ≤ 140737488355328 := by rw [List.length_append]; simp [qlist, ql]; omega
  have hb3 : base ≤ w3.drew.heap.size := Nat.le_trans hbase c3.size
  have hown3d : OwnB w3.drew base v l := hown3
  have hr3d := hr3.dr
  have hA4d := hA4.dr
  go_region_law (first
    | (refine step_B rfl _ _ rfl hown3d rfl hr3d rfl hlen1 hb3 ?_; intro v1 wx hown4 hgr1 hat1)
    | (refine step_B rfl _ _ rfl hown4 rfl (hA4d.chg (Chg.of_grown hgr1) hne) rfl hlen2 (Nat.le_trans hb3 hgr1.size) ?_; intro v2 wy hown5 hgr2 hat2))
  go_wp2_with fail
  go_ret
  have k1 : Chg (fun k => v.ownBlock = some k) w wx := ((c3.drew).mono (S' := fun k => v.ownBlock = some k) fun _ _ h => h.elim).grown hgr1 fun k hk _ => hk
  have G1 : GrewP w v v1 := GrewP.of_at hat1 c3.size
  have k2 := k1.grown hgr2 fun k hk hlt => G1.old hlt hk
  have G2 : GrewP w v v2 := G1.trans k1.size (GrewP.of_at hat2 (Nat.le_refl _))
  refine ⟨v2, rfl, ?_, k2, G2⟩
  rw [cellB, ← HQ.out, ← List.append_assoc]
  exact hown5

def sealedN (n : Int) : Int := if n < 0 ∨ 1048576 < n then 0 else 8 + n + (n + 250) / 251 * 4
set_option maxHeartbeats 400000 in
theorem paritySealed {n : Int} {w : World} (hn : (Lit.int .i64 n).wf = true) :
    Calls Try.prog 62 #[.int .i64 n] w fun e w' => e = .returned (.int .i64 (sealedN n)) ∧ w' = w := by
  have hmin : IntKind.i64.min = -9223372036854775808 := rfl
  have hmax : IntKind.i64.max = 9223372036854775807 := rfl
  have hx : -9223372036854775808 ≤ n ∧ n ≤ 9223372036854775807 := by simpa [Lit.wf, hmin, hmax] using hn
  clear hn hmin hmax
  by_cases h1 : n < 0
  · have HS := hide (show sealedN n = 0 by rw [sealedN, if_pos (.inl h1)])
    go_enter Try.func62, Try.ntmps62
    go_wp2_with fail
    go_ret
    exact ⟨ret_int HS.out.symm, rfl⟩
  · by_cases h2 : 1048576 < n
    · have HS := hide (show sealedN n = 0 by rw [sealedN, if_pos (.inr h2)])
      go_enter Try.func62, Try.ntmps62
      go_wp2_with fail
      go_ret
      exact ⟨ret_int HS.out.symm, rfl⟩
    · have HS := hide (show sealedN n = 8 + n + (n + 250) / 251 * 4 by rw [sealedN, if_neg (by omega)])
      have hw1 : IntKind.i64.wrap (8 + n) = 8 + n := IntWalk.i64_in _ (by omega)
      have hw2 : IntKind.i64.wrap (n + 251) = n + 251 := IntWalk.i64_in _ (by omega)
      have hw3 : IntKind.i64.wrap (n + 251 - 1) = n + 251 - 1 := IntWalk.i64_in _ (by omega)
      go_enter Try.func62, Try.ntmps62
      go_wp2_with fail
      go_ret
      exact ⟨ret_int (by rw [HS.out]; omega), rfl⟩

theorem run_mkcap (w : World) (n : Nat) (h : n ≤ 2000000) : (Instr.makeSlice 26 (.int .i64 0) (.int .i64 (n : Int))).run Try.prog w = .ok (.slice (some ⟨w.heap.size, 0, none⟩) 0 n) (w.alloc (.cells (madeCells #[.int .u8 0] n) 5)) := by
  obtain ⟨i, hi, hz, h1, h2⟩ := info_parts info_u8
  have h := run_make (P := Try.prog) w 26 5 i _ Try.underlying26 hi hz .i64 .i64 0 n (Int.le_refl _) (by omega) (by rw [h2]; omega) (by omega)
  rw [h1, Int.toNat_natCast, Nat.mul_one] at h
  exact h
theorem own_mkcap (w : World) (n : Nat) (h : n ≤ 2000000) : OwnB (w.alloc (.cells (madeCells #[.int .u8 0] n) 5)) w.heap.size (.slice (some ⟨w.heap.size, 0, none⟩) 0 n) [] :=
  World.ownsRow_made (size := 1) w (madeCells #[.int .u8 0] n) n (Nat.le_refl _) (by simp only [maxLen]; omega) (by rw [size_madeCells]; simp)

theorem litlen (n : Nat) (h : n ≤ 1048576) : (#[Value.int .u8 ((n : Int) / 16777216), .int .u8 ((n : Int) / 65536), .int .u8 ((n : Int) / 256 % 256), .int .u8 ((n : Int) % 256)] : Array Value).toList = bvs (lenB n) := by
  have a1 : (n : Int) / 16777216 = ((UInt8.ofNat (n / 16777216)).toNat : Int) := by rw [UInt8.toNat_ofNat']; omega
  have a2 : (n : Int) / 65536 = ((UInt8.ofNat (n / 65536)).toNat : Int) := by rw [UInt8.toNat_ofNat']; omega
  have a3 : (n : Int) / 256 % 256 = ((UInt8.ofNat (n / 256)).toNat : Int) := by rw [UInt8.toNat_ofNat']; omega
  have a4 : (n : Int) % 256 = ((UInt8.ofNat n).toNat : Int) := by rw [UInt8.toNat_ofNat']; omega
  rw [a1, a2, a3, a4]
  rfl
def sliceLen : Value → Nat
  | .slice _ n _ => n
  | _ => 0
theorem RdB.slen {w : World} {F : Nat → Prop} {v : Value} {l : List UInt8} (h : RdB w F v l) : sliceLen v = l.length := by
  obtain ⟨A, c, rfl, _, _⟩ := h.shape
  rfl

set_option maxRecDepth 100000 in
set_option maxHeartbeats 1000000 in
theorem paritySeal {u : Value} {b : List UInt8} {F : Nat → Prop} {w : World} (hr : RdB w F u b) :
    Calls Try.prog 27 #[u] w fun e w' => ∃ v', e = .returned (.tuple #[v', .int .i64 (if 1048576 < b.length then 2 else 0)]) ∧ OwnB w' w.heap.size v' (if 1048576 < b.length then [] else sealB b) ∧ Chg Non w w' := by
  have hlen8 := fun (w' : World) (ty : TypeId) => run_len8 hr w' ty
  have hml : b.length ≤ 9223372036854775807 := by obtain ⟨A, c, _, h1, h2⟩ := hr.shape; unfold maxLen at h2; omega
  by_cases h1 : 1048576 < b.length
  · rw [if_pos h1, if_pos h1]
    have hd : decide ((1048576 : Int) < (b.length : Int)) = true := decide_eq_true (by omega)
    go_enter Try.func27, Try.ntmps27
    go_wp2_with fail
    go_ret2
    exact ⟨_, rfl, OwnB.nil_ _ _, Chg.refl _ _⟩
  · rw [if_neg h1, if_neg h1]
    have hd : decide ((1048576 : Int) < (b.length : Int)) = false := decide_eq_false (by omega)
    obtain ⟨S, hS, hSl⟩ : ∃ S : Nat, sealedN (b.length : Int) = (S : Int) ∧ S ≤ 2000000 := ⟨8 + b.length + (b.length + 250) / 251 * 4, by rw [sealedN, if_neg (by omega)]; omega, by omega⟩
    have hsd := fun (w' : World) => paritySealed (n := (b.length : Int)) (w := w') (by
      have hmin : IntKind.i64.min = -9223372036854775808 := rfl
      have hmax : IntKind.i64.max = 9223372036854775807 := rfl
      simp [Lit.wf, hmin, hmax]; omega)
    rw [hS] at hsd
    have hmk := fun (w' : World) => run_mkcap w' S hSl
    go_enter Try.func27, Try.ntmps27
    go_wp2_with fail
    refine (hsd w).mono ?_
    rintro e w1 ⟨rfl, rfl⟩
    have hmk1 := own_mkcap w1 S hSl
    have hlit := RdB.lit (w1.alloc (.cells (madeCells #[.int .u8 0] S) 5)) 5 (0, 0) #[.int .u8 ((b.length : Int) / 16777216), .int .u8 ((b.length : Int) / 65536), .int .u8 ((b.length : Int) / 256 % 256), .int .u8 ((b.length : Int) % 256)] (lenB b.length) 4 (litlen _ (by omega)) rfl (by simp [maxLen])
    rw [show (w1.alloc (.cells (madeCells #[.int .u8 0] S) 5)).heap.size = w1.heap.size + 1 by simp] at hlit
    have hput := parityPut (hmk1.al _) hlit (by simp [lenB]) (by simp; omega)
    rw [List.nil_append] at hput
    have c1 := ((Chg.refl Non w1).alloc (.cells (madeCells #[.int .u8 0] S) 5)).alloc (.cells #[.int .u8 ((b.length : Int) / 16777216), .int .u8 ((b.length : Int) / 65536), .int .u8 ((b.length : Int) / 256 % 256), .int .u8 ((b.length : Int) % 256)] 5)
    have hr0 := hr.lt
    have hsl := sealB_length b
    clear hmk1 hlit hsd hS
    go_wp2_with fail
    refine hput.mono ?_
    rintro e w2 ⟨v2, rfl, hown2, k2, G2⟩
    have c2 := c1.trans k2 fun k hk e => by simp [Value.ownBlock] at e; omega
    have hr2 := hr0.c0 c2
    clear hput c1 k2 G2 hr0 hr hmk
    go_wp2_with fail
    go_loopw [0, 5] (fun uv ov wr => ∃ (rest out : List UInt8), RdB wr (fun k => F k ∧ k < w1.heap.size) uv rest ∧ OwnB wr w1.heap.size ov out ∧ rest.length ≤ 1048576 ∧ Hid (out ++ cellsB rest = sealB b) ∧ Chg Non w1 wr) (fun uv _ _ => sliceLen uv)
    case atStart => exact ⟨b, _, hr2, hown2, by omega, hide rfl, c2⟩
    case round =>
      clear hr2 hown2 c2
      obtain ⟨rest, out, hr, hown, hrl, hsp, hcw⟩ := hrel
      have hlen8 := fun (w' : World) (ty : TypeId) => run_len8 hr w' ty
      by_cases h2 : 0 < rest.length
      · have hd2 : decide ((0 : Int) < (rest.length : Int)) = true := decide_eq_true (by omega)
        have hol := congrArg List.length hsp.out
        rw [List.length_append, cellsB_length _ rest (Nat.le_refl _)] at hol
        have HSP := hide (hsp.out.symm.trans (by rw [cellsB_step h2, ← List.append_assoc]))
        obtain ⟨n, hn, hcase⟩ : ∃ n, n = min 251 rest.length ∧ ((251 ≤ rest.length ∧ n = 251) ∨ (¬ 251 ≤ rest.length ∧ n = rest.length)) := ⟨_, rfl, by omega⟩
        obtain ⟨s1, hs1, hc1⟩ := run_cut_h hr (j := n) (y := (n : Int)) rfl (by omega)
        obtain ⟨s2, hs2, hc2⟩ := run_cut_l hr (i := n) (x := (n : Int)) rfl (by omega)
        have hsl2 := hs2.slen
        rw [List.length_drop] at hsl2
        have hsl0 := hr.slen
        have hns : rest.take n = rest.take 251 := by
          rcases hcase with ⟨_, rfl⟩ | ⟨h, rfl⟩
          · rfl
          · rw [List.take_of_length_le (Nat.le_refl _), List.take_of_length_le (by omega)]
        have hnd : rest.drop n = rest.drop 251 := by
          rcases hcase with ⟨_, rfl⟩ | ⟨h, rfl⟩
          · rfl
          · rw [List.drop_of_length_le (Nat.le_refl _), List.drop_of_length_le (by omega)]
        rw [hns] at hs1
        rw [hnd] at hs2
        have hput := parityPut (w := wr.drew) hown hs1.dr (by rw [List.length_take]; omega) hcw.drew.size
        have hvlt := hown.lt
        have hmeas : 0 < n ∧ n ≤ rest.length := by omega
        have hdl : (rest.drop 251).length ≤ 1048576 := by rw [List.length_drop]; omega
        clear hn hol hns hnd
        rcases hcase with ⟨h3, rfl⟩ | ⟨h3, rfl⟩
        case' inl =>
          have h3' : (251 : Int) ≤ (rest.length : Int) := by omega
          simp only [show ((251 : Nat) : Int) = 251 from rfl] at hc1 hc2
        case' inr => have h3' : ¬ (251 : Int) ≤ (rest.length : Int) := by omega
        all_goals
          go_wp2_with fail
          go_region_held3 (fun _ => True) (first | exact trivial) (first
            | (go_at_call 61; refine hput.mono ?_; rintro e w5 ⟨v5, rfl, hown5, k5, G5⟩))
          have hs5 := hs2.dr.chg k5 fun k hk e => by have := (hvlt k e).1; have := hk.2; omega
          have hcw5 := (hcw.drew).trans k5 fun k hk e => by have := (hvlt k e).1; omega
          clear hput hr hown hcw hs1 hs2 hc1 hc2 hlen8 k5 G5
          go_wp2_with fail
          go_round
          case rel => exact ⟨_, _, hs5, hown5, hdl, HSP.out.symm |> hide, hcw5⟩
          case measure => rw [hsl2, hsl0]; omega
      · have hnil := cellsB_nil (b := rest) (by omega)
        have hsp2 := hsp.out
        rw [hnil, List.append_nil] at hsp2
        rw [hsp2] at hown
        have h0 : rest.length = 0 := by omega
        have hd2 : decide ((0 : Int) < (rest.length : Int)) = false := decide_eq_false (by omega)
        clear hnil hsp2 hsp
        go_wp2_with fail
        go_ret2
        exact ⟨_, rfl, hown, hcw⟩
end Go.Proofs.Ytncchbcoldgpbaa
