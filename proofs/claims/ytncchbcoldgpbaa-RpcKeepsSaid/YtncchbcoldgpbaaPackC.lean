/- The walk of pack.Take. -/
import Derived.Test.YtncchbcoldgpbaaBaM
namespace Go.Proofs.Ytncchbcoldgpbaa
open Go.RowKit

/-- three results: a number, a place, an error's number -/
def tk (x : Nat × Int × Int) : Ending := .returned (.tuple #[.int .u64 (x.1 : Int), .int .i64 x.2.1, .int .i64 x.2.2])

theorem or_byte (x : Nat) (y : UInt8) (hx : x < 72057594037927936) : bits .or .u64 (IntKind.u64.wrap ((x : Int) * 256)) (IntKind.u64.wrap (y.toNat : Int)) = ((x * 256 + y.toNat : Nat) : Int) := by
  have hy := y.toNat_lt
  have e1 : IntKind.u64.wrap ((x : Int) * 256) = ((x * 256 : Nat) : Int) := by simp [IntKind.wrap_u64]; omega
  have e2 : IntKind.u64.wrap (y.toNat : Int) = ((y.toNat : Nat) : Int) := by simp [IntKind.wrap_u64]; omega
  rw [e1, e2, u64_or_nat _ _ (by omega) (by omega)]
  congr 1
  have h := Nat.shiftLeft_add_eq_or_of_lt (i := 8) (b := y.toNat) (by omega) x
  rw [Nat.shiftLeft_eq] at h
  exact h.symm

theorem pow_lt56 {i x : Nat} (h : x < 256 ^ i) (hi : i < 8) : x < 72057594037927936 :=
  Nat.lt_of_lt_of_le h (Nat.le_trans (Nat.pow_le_pow_right (by omega) (by omega : i ≤ 7)) (by omega))

set_option maxRecDepth 100000 in
set_option maxHeartbeats 400000 in
theorem packTake {v : Value} {b : List UInt8} {F : Nat → Prop} {w : World} {at_ : Int} (hr : RdB w F v b) :
    Calls Try.prog 89 #[v, .int .i64 at_] w fun e w' => e = tk (takeB b at_) ∧ w' = w := by
  obtain ⟨A, c, rfl, hc, hm⟩ := hr.shape
  unfold maxLen at hm
  by_cases h1 : at_ < 0 ∨ (b.length : Int) < at_
  · have HE := hide (takeB_arg b at_ h1)
    by_cases h2 : at_ < 0
    · clear h1
      go_enter Try.func89, Try.ntmps89
      go_wp2
      go_ret3
      exact ⟨by rw [HE.out]; rfl, rfl⟩
    · have h3 : (b.length : Int) < at_ := by omega
      clear h1
      go_enter Try.func89, Try.ntmps89
      go_wp2
      go_ret3
      exact ⟨by rw [HE.out]; rfl, rfl⟩
  · obtain ⟨a, rfl⟩ := Int.eq_ofNat_of_zero_le (a := at_) (by omega)
    by_cases h2 : a = b.length
    · subst h2
      have HE := hide (takeB_end b)
      clear h1
      go_enter Try.func89, Try.ntmps89
      go_wp2
      go_ret3
      exact ⟨by rw [HE.out]; rfl, rfl⟩
    · have h3 : a < b.length := by omega
      have h4 : ((a : Int) == (b.length : Int)) = false := beq_eq_false_iff_ne.2 (by omega)
      clear h1
      have HE := hide (takeB_at b a h3)
      obtain ⟨ad, rfl, _, hca⟩ := hr.at_ h3
      obtain ⟨f, hf⟩ : ∃ f, f = b[a] := ⟨_, rfl⟩
      rw [← hf] at HE hca
      clear hf
      have hf8 := f.toNat_lt
      by_cases h5 : f.toNat ≤ 247
      · go_enter Try.func89, Try.ntmps89
        go_wp2
        go_ret3
        exact ⟨by rw [HE.out, if_pos h5]; rfl, rfl⟩
      · have hd : (b.drop (a + 1)).length = b.length - (a + 1) := List.length_drop
        by_cases h6 : b.length - (a + 1) < f.toNat - 247
        · have HE' := hide ((HE.out.trans (if_neg h5)).trans (if_pos (by rw [hd]; exact h6)))
          clear hd HE
          have h7 : (b.length : Int) - a - 1 < f.toNat - 247 := by omega
          clear h6
          go_enter Try.func89, Try.ntmps89
          go_wp2
          go_ret3
          exact ⟨by rw [HE'.out]; rfl, rfl⟩
        · have HE' := hide ((HE.out.trans (if_neg h5)).trans (if_neg (by rw [hd]; exact h6)))
          clear hd HE
          go_enter Try.func89, Try.ntmps89
          go_wp2
          obtain ⟨k, hk⟩ : ∃ k, k = f.toNat - 247 := ⟨_, rfl⟩
          have hp := hr.piece1 (i := a + 1) (m := f.toNat - 247) (by omega) (by omega) (by omega)
          obtain ⟨p, hpd⟩ : ∃ p, p = (b.drop (a + 1)).take (f.toNat - 247) := ⟨_, rfl⟩
          have hpl : p.length = f.toNat - 247 := by rw [hpd, List.length_take, List.length_drop]; omega
          rw [← hpd] at hp HE'
          have HP := hide hpd
          have HPL := hide hpl
          clear hpd
          go_loopw [9, 53] (fun nv iv wr => ∃ i : Nat, i ≤ f.toNat - 247 ∧ nv = .int .u64 (val (p.take i) : Int) ∧ iv = .int .i64 i ∧ wr = w) (fun _ i _ => f.toNat - 247 - (intOf i).toNat)
          case atStart => exact ⟨0, by omega, rfl, rfl, rfl⟩
          case round =>
            obtain ⟨i, hi, rfl, rfl, rfl⟩ := hrel
            by_cases h8 : i < f.toNat - 247
            · rw [← hpl] at hp
              obtain ⟨ad', e, _, hcell⟩ := hp.at_ (k := i) (by omega)
              injection e with e; subst e
              rw [add_none] at hcell
              have hlt := val_take_lt p i
              have HV := hide (val_take_succ p i (by omega))
              obtain ⟨x, hx⟩ : ∃ x, x = val (p.take i) := ⟨_, rfl⟩
              obtain ⟨y, hy⟩ : ∃ y, y = p[i]'(by omega) := ⟨_, rfl⟩
              rw [← hx] at HV hlt ⊢
              rw [← hy] at HV hcell
              have HX := hide hlt
              clear hx hy hpl hlt
              go_wp2
              go_roundw
              case rel =>
                refine ⟨i + 1, by omega, ?_, by go_num, trivial⟩
                rw [or_byte x y (pow_lt56 HX.out (by omega)), HV.out]
              case measure => simp [intOf]; omega
            · have hi2 : i = f.toNat - 247 := by omega
              have hpi : p.take i = p := List.take_of_length_le (by rw [HPL.out]; omega)
              rw [hpi]
              have h9 : a + 1 < b.length := by omega
              obtain ⟨ad', e, _, hcell⟩ := hr.at_ h9
              injection e with e; subst e
              have hhead : (b.drop (a + 1)).head? = some b[a + 1] := by rw [List.drop_eq_getElem_cons h9]; rfl
              rw [hhead] at HE'
              rw [show ad.add (a + 1) = ⟨ad.block, ad.off + (a + 1), none⟩ from by unfold Addr.add; rw [if_neg (by omega)]] at hcell
              obtain ⟨y, hy⟩ : ∃ y, y = b[a + 1] := ⟨_, rfl⟩
              rw [← hy] at HE' hcell
              obtain ⟨x, hx⟩ : ∃ x, x = val p := ⟨_, rfl⟩
              rw [← hx] at HE' ⊢
              clear hx hy hhead hpi hpl hi2 hp
              by_cases h10 : x ≤ 247
              · go_wp2
                go_ret3
                exact ⟨by rw [HE'.out, if_pos (.inl h10)]; rfl, rfl⟩
              · by_cases h11 : y = 0
                · have h12 : ((y.toNat : Int) == 0) = true := by rw [h11]; rfl
                  have H11 := hide h11
                  clear h11
                  go_wp2
                  go_ret3
                  exact ⟨by rw [HE'.out, if_pos (.inr (by rw [H11.out]))]; rfl, rfl⟩
                · have h12 : ((y.toNat : Int) == 0) = false := beq_eq_false_iff_ne.2 fun e => h11 (UInt8.toNat_inj.1 (show y.toNat = 0 by omega))
                  go_wp2
                  go_ret3
                  refine ⟨?_, rfl⟩
                  rw [HE'.out, if_neg (by rintro (h | h); exact h10 h; injection h with h; exact h11 h)]
                  unfold tk
                  congr 3
                  simp; omega
end Go.Proofs.Ytncchbcoldgpbaa
