/- The walk of label's Compare. -/
import Derived.Test.YtnoimmhdoaeeiaaDoorLabB
namespace Go.Proofs.YtnoimmhdoaeeiaaDoor
open Go.RowKit

theorem take_cons (c : UInt8) (r : List UInt8) : (c :: r).take (pieceN (c :: r)) = c :: r.take (pieceN (c :: r) - 1) := by
  have h := pieceN_pos (c :: r)
  obtain ⟨n, hn⟩ : ∃ n, pieceN (c :: r) = n + 1 := ⟨pieceN (c :: r) - 1, by omega⟩
  rw [hn]; rfl
def strLenC : Value → Nat
  | .string s => s.size
  | _ => 0
set_option maxHeartbeats 2000000 in
theorem labCompare {a b : ByteArray} {la lb : List UInt8} (ha : Str a la) (hb : Str b lb) (hla : la.length ≤ 1000000000) (hlb : lb.length ≤ 1000000000) (w : World) :
    Calls Tryd.prog 18 #[.string a, .string b] w fun e w' => e = .returned (.int .i64 (cmpL la lb)) ∧ Lay w w' := by
  have HA := hide ha
  have HB := hide hb
  have HLA := hide hla
  have HLB := hide hlb
  clear ha hb hla hlb
  go_enter Tryd.func18, Tryd.ntmps18
  go_wp2_with fail
  go_loopw [5, 6] (fun sx sy wr => ∃ (X Y : ByteArray) (lx ly : List UInt8), sx = .string X ∧ sy = .string Y ∧ Hid (Str X lx) ∧ Hid (Str Y ly) ∧ Hid (compare (keysL la) (keysL lb) = compare (keysL lx) (keysL ly)) ∧ lx.length ≤ 1000000000 ∧ ly.length ≤ 1000000000 ∧ Lay w wr) (fun sx _ _ => strLenC sx)
  case atStart => exact ⟨a, b, la, lb, rfl, rfl, HA, HB, hide rfl, HLA.out, HLB.out, Lay.refl _⟩
  case round =>
    obtain ⟨X, Y, lx, ly, rfl, rfl, hX, hY, hK, hlx, hly, hw⟩ := hrel
    have HW := hide hw
    clear hw
    have eX := hX.out.emp
    have eY := hY.out.emp
    cases lx with
    | nil =>
      cases ly with
      | nil =>
        have eX' : X.toList.isEmpty = true := eX
        have eY' : Y.toList.isEmpty = true := eY
        have hsc := fun (w' : World) => Tryd.strings_Compare a b w'
        have HR := hide (show cmpL la lb = Lib.compareBytes la lb by
          rw [cmpL, ordL_def, hK.out, keys_end0, compareBytes_ord]; rfl)
        rw [HA.out.lst, HB.out.lst, ← HR.out] at hsc
        have HSC := hide hsc
        clear eX eY hsc hX hY hK
        go_wp2_with fail
        refine (HSC.out _).mono ?_
        rintro e w1 ⟨rfl, rfl⟩
        go_wp2_with fail
        go_ret
        exact ⟨rfl, HW.out⟩
      | cons d q =>
        have eX' : X.toList.isEmpty = true := eX
        have eY' : Y.toList.isEmpty = false := eY
        have hci := fun (w' : World) => Tryd.cmp_Compare_int (X.size : Int) (Y.size : Int) w'
        have HR := hide (show cmpL la lb = Lib.compareInt (X.size : Int) (Y.size : Int) by
          rw [cmpL, ordL_def, hK.out, keys_end1, compareInt_ord, hX.out.sz, hY.out.sz, Nat.compare_eq_ite_lt, if_pos (by simp)]; rfl)
        rw [← HR.out] at hci
        have HC := hide hci
        clear eX eY hci hX hY hK
        go_wp2_with fail
        refine (HC.out _).mono ?_
        rintro e w1 ⟨rfl, rfl⟩
        go_wp2_with fail
        go_ret
        exact ⟨rfl, HW.out⟩
    | cons c r =>
      cases ly with
      | nil =>
        have eX' : X.toList.isEmpty = false := eX
        have eY' : Y.toList.isEmpty = true := eY
        have hci := fun (w' : World) => Tryd.cmp_Compare_int (X.size : Int) (Y.size : Int) w'
        have HR := hide (show cmpL la lb = Lib.compareInt (X.size : Int) (Y.size : Int) by
          rw [cmpL, ordL_def, hK.out, keys_end2, compareInt_ord, hX.out.sz, hY.out.sz, Nat.compare_eq_ite_lt, if_neg (by simp), if_pos (by simp)]; rfl)
        rw [← HR.out] at hci
        have HC := hide hci
        clear eX eY hci hX hY hK
        go_wp2_with fail
        refine (HC.out _).mono ?_
        rintro e w1 ⟨rfl, rfl⟩
        go_wp2_with fail
        go_ret
        exact ⟨rfl, HW.out⟩
      | cons d q =>
        have eX' : X.toList.isEmpty = false := eX
        have eY' : Y.toList.isEmpty = false := eY
        have hpx := fun (w' : World) => labPiece hX.out (by simp) hlx w'
        have hpy := fun (w' : World) => labPiece hY.out (by simp) hly w'
        have hst := ordL_step c d r q
        have hcp := pcmp_key c d (r.take (pieceN (c :: r) - 1)) (q.take (pieceN (d :: q) - 1))
        rw [← take_cons, ← take_cons] at hcp
        have hps := fun (w' : World) => labPieces (Str.of (c :: r.take (pieceN (c :: r) - 1))) (Str.of (d :: q.take (pieceN (d :: q) - 1))) w'
        rw [← take_cons, ← take_cons] at hps
        obtain ⟨pv, hpv⟩ : ∃ pv, pv = pcmp ((c :: r).take (pieceN (c :: r))) ((d :: q).take (pieceN (d :: q))) := ⟨_, rfl⟩
        rw [← hpv] at hps hcp
        have hSX := Str.of ((c :: r).drop (pieceN (c :: r)))
        have hSY := Str.of ((d :: q).drop (pieceN (d :: q)))
        have hdx : ((c :: r).drop (pieceN (c :: r))).length < X.size := by rw [hX.out.sz, List.length_drop, List.length_cons]; have := pieceN_pos (c :: r); omega
        have hbx : ((c :: r).drop (pieceN (c :: r))).length ≤ 1000000000 := by rw [List.length_drop]; omega
        have hby : ((d :: q).drop (pieceN (d :: q))).length ≤ 1000000000 := by rw [List.length_drop]; omega
        obtain ⟨P1, hP1⟩ : ∃ P1 : ByteArray, P1 = ⟨((c :: r).take (pieceN (c :: r))).toArray⟩ := ⟨_, rfl⟩
        obtain ⟨Q1, hQ1⟩ : ∃ Q1 : ByteArray, Q1 = ⟨((d :: q).take (pieceN (d :: q))).toArray⟩ := ⟨_, rfl⟩
        obtain ⟨X1, hX1⟩ : ∃ X1 : ByteArray, X1 = ⟨((c :: r).drop (pieceN (c :: r))).toArray⟩ := ⟨_, rfl⟩
        obtain ⟨Y1, hY1⟩ : ∃ Y1 : ByteArray, Y1 = ⟨((d :: q).drop (pieceN (d :: q))).toArray⟩ := ⟨_, rfl⟩
        rw [← hP1, ← hX1] at hpx
        rw [← hQ1, ← hY1] at hpy
        rw [← hP1, ← hQ1] at hps
        rw [← hX1] at hSX
        rw [← hY1] at hSY
        have hszx : X1.size < X.size := by rw [hSX.sz]; exact hdx
        have HPX := hide hpx
        have HPY := hide hpy
        have HPS := hide hps
        have HSX := hide hSX
        have HSY := hide hSY
        have HCP := hide hcp
        have HST := hide hst
        clear hpx hpy hps hSX hSY hP1 hQ1 hX1 hY1 hdx eX eY hcp hst hpv hX hY
        by_cases hz : pv = 0
        · have HK2 := hide (show compare (keysL la) (keysL lb) = compare (keysL ((c :: r).drop (pieceN (c :: r)))) (keysL ((d :: q).drop (pieceN (d :: q)))) by
            have h0 := HCP.out
            rw [hz] at h0
            have h1 := (ordI_zero _).1 h0.symm
            rw [hK.out, HST.out, h1]; rfl)
          subst hz
          clear hK HCP HST
          go_wp2_with fail
          refine (HPX.out _).mono ?_
          rintro e w1 ⟨rfl, hq1⟩
          have HW1 := hide (HW.out.q hq1)
          clear hq1 HW
          go_wp2_with fail
          refine (HPY.out _).mono ?_
          rintro e w2 ⟨rfl, hq2⟩
          have HW2 := hide (HW1.out.q hq2)
          clear hq2 HW1
          go_wp2_with fail
          refine (HPS.out _).mono ?_
          rintro e w3 ⟨rfl, hl3⟩
          have HW3 := hide (HW2.out.trans hl3)
          clear hl3 HW2
          go_wp2_with fail
          go_round
          case rel => exact ⟨X1, Y1, _, _, rfl, rfl, HSX, HSY, HK2, hbx, hby, HW3.out⟩
          case measure => simp [strLenC]; exact hszx
        · have HR := hide (show cmpL la lb = pv by
            rw [cmpL, ordL_def, hK.out, HST.out, ordI_then, ordI_then, ← HCP.out, if_pos hz, if_pos hz])
          have hzb : (pv != 0) = true := bne_iff_ne.2 hz
          clear hK HCP HST hz
          go_wp2_with fail
          refine (HPX.out _).mono ?_
          rintro e w1 ⟨rfl, hq1⟩
          have HW1 := hide (HW.out.q hq1)
          clear hq1 HW
          go_wp2_with fail
          refine (HPY.out _).mono ?_
          rintro e w2 ⟨rfl, hq2⟩
          have HW2 := hide (HW1.out.q hq2)
          clear hq2 HW1
          go_wp2_with fail
          refine (HPS.out _).mono ?_
          rintro e w3 ⟨rfl, hl3⟩
          have HW3 := hide (HW2.out.trans hl3)
          clear hl3 HW2
          go_wp2_with fail
          go_ret
          exact ⟨by rw [HR.out] <;> rfl, HW3.out⟩
end Go.Proofs.YtnoimmhdoaeeiaaDoor
