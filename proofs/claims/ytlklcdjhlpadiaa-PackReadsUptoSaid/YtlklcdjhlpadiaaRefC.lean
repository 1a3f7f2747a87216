/- The walk of groyneref01.Take. -/
import Derived.Test.YtlklcdjhlpadiaaRefB
import Derived.Deep.RegionHeld3
namespace Go.Proofs.Ytlklcdjhlpadiaa
open Go.RowKit

set_option maxRecDepth 100000 in
set_option maxHeartbeats 400000 in
theorem refTake {v : Value} {b : List UInt8} {F : Nat → Prop} {w : World} {at_ : Int} (hr : RdB w F v b) (hl : b.length ≤ 281474976710656) :
    Calls Try.prog 22 #[v, .int .i64 at_] w fun e w' => e = tk (takeB b at_) ∧ Chg Non w w' := by
  obtain ⟨A, c, rfl, hc, hm⟩ := hr.shape
  unfold maxLen at hm
  by_cases h1 : at_ < 0 ∨ (b.length : Int) < at_
  · have HE := hide (takeB_arg b at_ h1)
    by_cases h2 : at_ < 0
    · clear h1
      go_enter Try.func22, Try.ntmps22
      go_wp2
      go_ret3
      exact ⟨by rw [HE.out]; rfl, Chg.refl _ _⟩
    · have h3 : (b.length : Int) < at_ := by omega
      clear h1
      go_enter Try.func22, Try.ntmps22
      go_wp2
      go_ret3
      exact ⟨by rw [HE.out]; rfl, Chg.refl _ _⟩
  · obtain ⟨a, rfl⟩ := Int.eq_ofNat_of_zero_le (a := at_) (by omega)
    by_cases h2 : a = b.length
    · subst h2
      have HE := hide (takeB_end b)
      clear h1
      go_enter Try.func22, Try.ntmps22
      go_wp2
      go_ret3
      exact ⟨by rw [HE.out]; rfl, Chg.refl _ _⟩
    · have h3 : a < b.length := by omega
      have h4 : ((a : Int) == (b.length : Int)) = false := beq_eq_false_iff_ne.2 (by omega)
      clear h1
      have HE := hide (takeB_at b a h3)
      obtain ⟨ad, rfl, _, hca⟩ := hr.at_ h3
      obtain ⟨f, hf⟩ : ∃ f, f = b[a] := ⟨_, rfl⟩
      rw [← hf] at HE hca
      clear hf
      have hf8 := f.toNat_lt
      by_cases h5 : f.toNat ≤ 247
      · have h5' : (f.toNat : Int) < 248 := by omega
        go_enter Try.func22, Try.ntmps22
        go_wp2
        go_ret3
        exact ⟨by rw [HE.out, if_pos h5]; rfl, Chg.refl _ _⟩
      · have HE' := hide (HE.out.trans (if_neg h5))
        clear HE
        have h5' : ¬ (f.toNat : Int) < 248 := by omega
        go_enter Try.func22, Try.ntmps22
        go_wp2
        go_loopw [7, 8] (fun nv iv wr => ∃ j : Nat, 1 ≤ j ∧ j ≤ f.toNat - 246 ∧ a + j ≤ b.length ∧ nv = .int .u64 (val ((b.drop (a + 1)).take (j - 1)) : Int) ∧ iv = .int .i64 j ∧ wr = w) (fun _ i _ => f.toNat - 246 - (intOf i).toNat)
        case atStart => exact ⟨1, by omega, by omega, by omega, rfl, rfl, rfl⟩
        case round =>
          obtain ⟨j, hj1, hj, hj2, rfl, rfl, rfl⟩ := hrel
          by_cases h6 : j ≤ f.toNat - 247
          · by_cases h7 : a + j < b.length
            · have hlt := val_take_lt (b.drop (a + 1)) (j - 1)
              have HV := hide (val_take_succ (b.drop (a + 1)) (j - 1) (by rw [List.length_drop]; omega))
              simp only [List.getElem_drop, show j - 1 + 1 = j from by omega, show a + 1 + (j - 1) = a + j from by omega] at HV
              obtain ⟨ad', e, _, hcell⟩ := hr.at_ h7
              injection e with e; subst e
              obtain ⟨x, hx⟩ : ∃ x, x = val ((b.drop (a + 1)).take (j - 1)) := ⟨_, rfl⟩
              obtain ⟨y, hy⟩ : ∃ y, y = b[a + j]'h7 := ⟨_, rfl⟩
              rw [← hx] at HV hlt ⊢
              rw [← hy] at HV hcell
              have HX := hide hlt
              clear hx hy hlt
              go_wp2
              have hx1 := pow_lt56 HX.out (by omega)
              have hw : IntKind.u64.wrap (IntKind.u64.wrap ((x : Int) * 256) + IntKind.u64.wrap (y.toNat : Int)) = ((x * 256 + y.toNat : Nat) : Int) := by
                have hy := y.toNat_lt
                simp [IntKind.wrap_u64]; omega
              rw [hw]
              go_roundw
              case rel => exact ⟨j + 1, by omega, by omega, by omega, by rw [Nat.add_sub_cancel, HV.out], by go_num, trivial⟩
              case measure => simp [intOf]; omega
            · have h8 : b.length ≤ a + j := by omega
              go_wp2
              go_ret3
              refine ⟨?_, Chg.refl _ _⟩
              rw [HE'.out, if_pos (by rw [List.length_drop]; omega)]; rfl
          · have hk : j - 1 = f.toNat - 247 := by omega
            rw [hk]
            have hU : U64 (val ((b.drop (a + 1)).take (f.toNat - 247))) := U64.of_pow (val_take_lt _ _) (by omega)
            have hshort : ¬ (b.drop (a + 1)).length < f.toNat - 247 := by rw [List.length_drop]; omega
            have HF := hide (HE'.out.trans (if_neg hshort))
            obtain ⟨x, hx⟩ : ∃ x, x = val ((b.drop (a + 1)).take (f.toNat - 247)) := ⟨_, rfl⟩
            rw [← hx] at HF hU ⊢
            clear hshort hk HE'
            have hnum := numB_len_iff ((b.drop (a + 1)).take (f.toNat - 247)) (by rw [List.length_take, List.length_drop]; omega) (by rw [List.length_take, List.length_drop]; omega)
            rw [← hx, show ((b.drop (a + 1)).take (f.toNat - 247)).length = f.toNat - 247 from by rw [List.length_take, List.length_drop]; omega, List.head?_take, if_neg (by omega)] at hnum
            have HNUM := hide hnum
            clear hx hnum
            have HU := hide hU
            clear hU
            have hw1 : IntKind.i64.wrap (f.toNat : Int) = (f.toNat : Int) := IntWalk.i64_in _ (by omega)
            have hw2 : IntKind.i64.wrap ((f.toNat : Int) - 246) = (f.toNat : Int) - 246 := IntWalk.i64_in _ (by omega)
            go_wp2
            go_region_held3 (fun w' => w'.cell? (ad.add a) = some (.int .u8 (f.toNat : Int))) (first | exact hca | exact hcg.cell hca (fun h => h)) (first | (go_at_call 18; refine (refNumber HU.out).mono ?_; rintro e w' ⟨u, rfl, hu, hcg⟩; obtain ⟨A2, c2, rfl, hc2, hm2⟩ := hu.shape))
            clear hw1 hw2
            have hn9 := numB_length x
            by_cases h9 : (numB x).length = f.toNat - 247 + 1
            · have h9' : (((numB x).length : Int) != (f.toNat : Int) - 246) = false := by rw [bne_eq_false_iff_eq]; omega
              have h9'' : (((numB x).length : Int) == (f.toNat : Int) - 246) = true := by rw [beq_iff_eq]; omega
              have HC := hide (HF.out.trans (if_neg (HNUM.out.1 h9)))
              clear h9
              have hca' := hcg.cell hca (fun h => h)
              go_wp2
              have hw1 : IntKind.i64.wrap (f.toNat : Int) = (f.toNat : Int) := IntWalk.i64_in _ (by omega)
              have hw3 : IntKind.i64.wrap ((a : Int) + f.toNat) = (a : Int) + f.toNat := IntWalk.i64_in _ (by omega)
              have hw2 : IntKind.i64.wrap ((a : Int) + f.toNat - 246) = (a : Int) + f.toNat - 246 := IntWalk.i64_in _ (by omega)
              go_quiet (fail)
              clear hw1 hw2 hw3
              go_wp2
              go_ret3
              refine ⟨?_, ((Chg.refl Non wr).drew.trans0 hcg).drewN _⟩
              rw [HC.out]
              unfold tk
              congr 3
              simp; omega
            · have h9' : (((numB x).length : Int) != (f.toNat : Int) - 246) = true := by rw [bne_iff_ne]; omega
              have HC := hide (HF.out.trans (if_pos (Classical.not_not.1 fun h => h9 (HNUM.out.2 h))))
              clear h9
              go_wp2
              go_ret3
              exact ⟨by rw [HC.out]; rfl, (Chg.refl Non wr).drew.trans0 hcg⟩
end Go.Proofs.Ytlklcdjhlpadiaa
