/- The walk of label's Match. -/
import Derived.Test.YtnoimmhdoaeeiaaDoorLabA
import Derived.Test.YtnoimmhdoaeeiaaDoorLabMat
namespace Go.Proofs.YtnoimmhdoaeeiaaDoor
open Go.RowKit

theorem bat_get {s : ByteArray} {l : List UInt8} (h : Str s l) {k : Nat} (hk : k < l.length) : ∀ h', s[k]'h' = bat l k := fun h' => by
  rw [h.get k h' hk, bat, List.getElem?_eq_getElem hk]; rfl
theorem dw_nil {p : UInt8 → Bool} : ∀ {l : List UInt8}, l.dropWhile p = [] ↔ ∀ x ∈ l, p x = true
  | [] => by simp
  | c :: r => by
    rw [List.dropWhile_cons]
    by_cases h : p c = true
    · rw [if_pos h, dw_nil (l := r)]
      simp [h]
    · rw [if_neg h]
      simp [h]
theorem u8ne {c d : UInt8} (h : c ≠ d) : ((c.toNat : Int) == (d.toNat : Int)) = false :=
  beq_eq_false_iff_ne.2 fun e => h (UInt8.toNat_inj.1 (by omega))
theorem trimB_stars (l : List UInt8) : (Lib.trimB l 42).isEmpty = stars l := by
  rw [Bool.eq_iff_iff, List.isEmpty_iff, stars, List.all_eq_true, Lib.trimB, Lib.trimLeftB, dw_nil]
  constructor
  · intro h
    have hnil : l.reverse.dropWhile (· == 42) = [] := by
      cases hd : l.reverse.dropWhile (· == 42) with
      | nil => rfl
      | cons x r =>
        exfalso
        have h1 := h x (by rw [Lib.trimRightB, hd]; simp)
        have h2 : ¬ ((x == 42) = true) := by
          have := List.head?_dropWhile_not (· == 42) l.reverse
          rw [hd] at this
          simpa using this
        exact h2 h1
    rw [dw_nil] at hnil
    intro x hx
    exact hnil x (by simpa using hx)
  · intro h x hx
    apply h
    rw [Lib.trimRightB, List.mem_reverse] at hx
    have := (List.dropWhile_sublist (p := (· == 42))).subset hx
    simpa using this

set_option maxHeartbeats 4000000 in
theorem labMatch {s p : ByteArray} {ls lp : List UInt8} (hs : Str s ls) (hp : Str p lp) (hls : ls.length ≤ 1000000000) (hlp : lp.length ≤ 1000000000) (w : World) :
    Calls Tryd.prog 16 #[.string s, .string p] w fun e w' => e = .returned (.bool (matS ls lp)) ∧ ∃ k, w' = w.drewN k := by
  have hsz := hs.sz
  have hpz := hp.sz
  have HS := hide hs
  have HP := hide hp
  obtain ⟨M, hM⟩ : ∃ M, M = matS ls lp := ⟨_, rfl⟩
  rw [← hM]
  have HM := hide hM
  obtain ⟨S, hS⟩ : ∃ S, S = s.size := ⟨_, rfl⟩
  obtain ⟨P, hP⟩ : ∃ P, P = p.size := ⟨_, rfl⟩
  have HSZ := hide (show ls.length = S by omega)
  have HPZ := hide (show lp.length = P by omega)
  have hSb : S ≤ 1000000000 := by omega
  have hPb : P ≤ 1000000000 := by omega
  have HSS := hide hS
  have HPP := hide hP
  clear hs hp hM hsz hpz hS hP hls hlp
  go_enter Tryd.func16, Tryd.ntmps16
  go_wp2_with fail
  go_loopw [5, 6, 7, 8] (fun iv kv sv fv wr => ∃ (i k st fr n q : Nat) (sI : Int), iv = .int .i64 (i : Int) ∧ kv = .int .i64 (k : Int) ∧ sv = .int .i64 sI ∧ fv = .int .i64 (fr : Int) ∧ Hid (sI = (st : Int) - 1) ∧ i ≤ s.size ∧ k ≤ p.size ∧ st ≤ k ∧ fr ≤ i ∧ Hid (matF ls lp n i k st fr = M) ∧ matM S P i st fr < n ∧ wr = w.drewN q) (fun iv _ sv fv _ => matM S P (intOf iv).toNat (intOf sv + 1).toNat (intOf fv).toNat)
  case atStart => exact ⟨0, 0, 0, 0, _, 0, _, rfl, rfl, rfl, rfl, hide rfl, Nat.zero_le _, Nat.zero_le _, Nat.zero_le _, Nat.zero_le _, hide HM.out.symm, by rw [HSZ.out, HPZ.out]; exact Nat.lt_succ_self _, rfl⟩
  case round =>
    obtain ⟨i, k, st, fr, n, q, sI, rfl, rfl, rfl, rfl, hsI, hi, hk, hst, hfr, hmf, hn, rfl⟩ := hrel
    obtain ⟨n, rfl⟩ : ∃ m, n = m + 1 := ⟨n - 1, by omega⟩
    have hsl := HSZ.out
    have hpl := HPZ.out
    have hss := HSS.out
    have hpp := HPP.out
    clear hsl hpl hss hpp
    by_cases h1 : i < s.size
    · have hd1 : decide ((i : Int) < (s.size : Int)) = true := decide_eq_true (by omega)
      have hi1 : (0 : Int) ≤ (i : Int) := by omega
      have hi2 : (i : Int) < (s.size : Int) := by omega
      have hil : i < ls.length := by have := HSZ.out; have := HSS.out; omega
      have hiS : i < S := by have := HSS.out; omega
      have gs := bat_get HS.out hil
      by_cases h2 : k < p.size
      · have hd2 : decide ((k : Int) < (p.size : Int)) = true := decide_eq_true (by omega)
        have hk1 : (0 : Int) ≤ (k : Int) := by omega
        have hk2 : (k : Int) < (p.size : Int) := by omega
        have hkl : k < lp.length := by have := HPZ.out; have := HPP.out; omega
        have hkP : k < P := by have := HPP.out; omega
        have gp := bat_get HP.out hkl
        by_cases hA : bat lp k = 42
        · rw [hA] at gp
          have HMF := hide (show matF ls lp n i (k + 1) (k + 1) i = M by rw [← hmf.out, matF_star hil hkl hA])
          have HMS := hide (mat_star (S := S) (i := i) (fr := fr) hst hkP)
          have hn2 : matM S P i (k + 1) i < n := by have := HMS.out; omega
          have HSI := hide (show (k : Int) = ((k + 1 : Nat) : Int) - 1 by omega)
          have HE2 := hide (show (sI + 1).toNat = st by have := hsI.out; omega)
          clear hmf hsI hA
          go_wp2_with fail
          go_round
          case rel => exact ⟨i, k + 1, k + 1, i, n, _, _, by go_num, by go_num, rfl, by go_num, HSI, by omega, by omega, by omega, by omega, HMF, hn2, rfl⟩
          case measure =>
            have h := HMS.out
            have e2 := HE2.out
            simp only [intOf, Int.toNat_natCast]
            have e3 : ∀ x : Nat, ((x : Int) + 1).toNat = x + 1 := fun x => by omega
            first | (rw [e2]; simp only [e3]; exact h) | (simp only [e2, e3]; exact h) | (simp only [e3]; exact h) | exact h
        · by_cases hB : bat lp k = 63
          · rw [hB] at gp
            have HMF := hide (show matF ls lp n (i + 1) (k + 1) st fr = M by rw [← hmf.out, matF_one hil hkl hA (.inl hB)])
            have HMS := hide (mat_one (S := S) (P := P) (st := st) (fr := fr) hiS)
            have hn2 : matM S P (i + 1) st fr < n := by have := HMS.out; omega
            have HSI := hide hsI.out
            have HE2 := hide (show (sI + 1).toNat = st by have := hsI.out; omega)
            have HA := hide hA
            clear hmf hsI hA hB
            go_wp2_with fail
            go_quiet (fail)
            go_wp2_with fail
            go_round
            case rel => exact ⟨i + 1, k + 1, st, fr, n, _, _, by go_num, by go_num, rfl, by go_num, HSI, by omega, by omega, by omega, by omega, HMF, hn2, rfl⟩
            case measure =>
              have h := HMS.out
              have e2 := HE2.out
              simp only [intOf, Int.toNat_natCast]
              have e3 : ∀ x : Nat, ((x : Int) + 1).toNat = x + 1 := fun x => by omega
              first | (rw [e2]; simp only [e3]; exact h) | (simp only [e2, e3]; exact h) | (simp only [e3]; exact h) | exact h
          · obtain ⟨cp, hcp⟩ : ∃ cp, cp = bat lp k := ⟨_, rfl⟩
            rw [← hcp] at gp
            have hb42 : ((cp.toNat : Int) == 42) = false := u8ne (d := 42) (fun e => hA (by rw [← hcp]; exact e))
            have hb63 : ((cp.toNat : Int) == 63) = false := u8ne (d := 63) (fun e => hB (by rw [← hcp]; exact e))
            by_cases hC : bat lp k = bat ls i
            · rw [← hC, ← hcp] at gs
              have HMF := hide (show matF ls lp n (i + 1) (k + 1) st fr = M by rw [← hmf.out, matF_one hil hkl hA (.inr hC)])
              have HMS := hide (mat_one (S := S) (P := P) (st := st) (fr := fr) hiS)
              have hn2 : matM S P (i + 1) st fr < n := by have := HMS.out; omega
              have HSI := hide hsI.out
              have HE2 := hide (show (sI + 1).toNat = st by have := hsI.out; omega)
              have HA := hide hA
              clear hmf hsI hA hB hC hcp
              go_wp2_with fail
              go_quiet (fail)
              go_wp2_with fail
              go_round
              case rel => exact ⟨i + 1, k + 1, st, fr, n, _, _, by go_num, by go_num, rfl, by go_num, HSI, by omega, by omega, by omega, by omega, HMF, hn2, rfl⟩
              case measure =>
                have h := HMS.out
                have e2 := HE2.out
                simp only [intOf, Int.toNat_natCast]
                have e3 : ∀ x : Nat, ((x : Int) + 1).toNat = x + 1 := fun x => by omega
                first | (rw [e2]; simp only [e3]; exact h) | (simp only [e2, e3]; exact h) | (simp only [e3]; exact h) | exact h
            · obtain ⟨cs, hcs⟩ : ∃ cs, cs = bat ls i := ⟨_, rfl⟩
              rw [← hcs] at gs
              have hbcs : ((cp.toNat : Int) == (cs.toNat : Int)) = false := u8ne (fun e => hC (by rw [← hcp, ← hcs]; exact e))
              cases st with
              | zero =>
                have hsI2 : sI = -1 := by have := hsI.out; omega
                subst hsI2
                have HF := hide (show M = false by rw [← hmf.out, matF_no hil (fun x => hA x.2) (fun x => x.2.elim hB hC) (by omega)])
                clear hmf hsI hA hB hC hcp hcs
                go_wp2_with fail
                go_quiet (fail)
                go_wp2_with fail
                go_ret
                exact ⟨by rw [HF.out] <;> rfl, _, rfl⟩
              | succ z =>
                have hsI2 : sI = (z : Int) := by have := hsI.out; omega
                subst hsI2
                have hz0 : (0 : Int) ≤ (z : Int) := by omega
                have hzd : decide ((0 : Int) ≤ (z : Int)) = true := decide_eq_true hz0
                have HMF := hide (show matF ls lp n (fr + 1) (z + 1) (z + 1) (fr + 1) = M by rw [← hmf.out, matF_back hil (fun x => hA x.2) (fun x => x.2.elim hB hC) (by omega)])
                have HMS := hide (mat_back (S := S) (P := P) (st := z + 1) hfr hiS)
                have hn2 : matM S P (fr + 1) (z + 1) (fr + 1) < n := by have := HMS.out; omega
                have HSI := hide (show ((z : Int)) = ((z + 1 : Nat) : Int) - 1 by omega)
                have HE2 := hide (show ((z : Int) + 1).toNat = z + 1 by omega)
                clear hmf hsI hA hB hC hcp hcs
                go_wp2_with fail
                go_quiet (fail)
                go_wp2_with fail
                go_round
                case rel => exact ⟨fr + 1, z + 1, z + 1, fr + 1, n, _, _, by go_num, by go_num, rfl, by go_num, HSI, by omega, by omega, by omega, by omega, HMF, hn2, rfl⟩
                case measure =>
                  have h := HMS.out
                  have e2 := HE2.out
                  simp only [intOf, Int.toNat_natCast]
                  have e3 : ∀ x : Nat, ((x : Int) + 1).toNat = x + 1 := fun x => by omega
                  first | (rw [e2]; simp only [e3]; exact h) | (simp only [e2, e3]; exact h) | (simp only [e3]; exact h) | exact h
      · have hd2 : decide ((k : Int) < (p.size : Int)) = false := decide_eq_false (by omega)
        have hkl : ¬ k < lp.length := by have := HPZ.out; have := HPP.out; omega
        have hpb : p.size ≤ 1000000000 := by have := HPP.out; omega
        cases st with
        | zero =>
          have hsI2 : sI = -1 := by have := hsI.out; omega
          subst hsI2
          have HF := hide (show M = false by rw [← hmf.out, matF_no hil (fun x => hkl x.1) (fun x => hkl x.1) (by omega)])
          clear hmf hsI hkl
          go_wp2_with fail
          go_quiet (fail)
          go_wp2_with fail
          go_ret
          exact ⟨by rw [HF.out] <;> rfl, _, rfl⟩
        | succ z =>
          have hsI2 : sI = (z : Int) := by have := hsI.out; omega
          subst hsI2
          have hz0 : (0 : Int) ≤ (z : Int) := by omega
          have hzd : decide ((0 : Int) ≤ (z : Int)) = true := decide_eq_true hz0
          have HMF := hide (show matF ls lp n (fr + 1) (z + 1) (z + 1) (fr + 1) = M by rw [← hmf.out, matF_back hil (fun x => hkl x.1) (fun x => hkl x.1) (by omega)])
          have HMS := hide (mat_back (S := S) (P := P) (st := z + 1) hfr hiS)
          have hn2 : matM S P (fr + 1) (z + 1) (fr + 1) < n := by have := HMS.out; omega
          have HSI := hide (show ((z : Int)) = ((z + 1 : Nat) : Int) - 1 by omega)
          have HE2 := hide (show ((z : Int) + 1).toNat = z + 1 by omega)
          clear hmf hsI hkl
          go_wp2_with fail
          go_quiet (fail)
          go_wp2_with fail
          go_round
          case rel => exact ⟨fr + 1, z + 1, z + 1, fr + 1, n, _, _, by go_num, by go_num, rfl, by go_num, HSI, by omega, by omega, by omega, by omega, HMF, hn2, rfl⟩
          case measure =>
            have h := HMS.out
            have e2 := HE2.out
            simp only [intOf, Int.toNat_natCast]
            have e3 : ∀ x : Nat, ((x : Int) + 1).toNat = x + 1 := fun x => by omega
            first | (rw [e2]; simp only [e3]; exact h) | (simp only [e2, e3]; exact h) | (simp only [e3]; exact h) | exact h
    · have hd1 : decide ((i : Int) < (s.size : Int)) = false := decide_eq_false (by omega)
      have hil : ¬ i < ls.length := by have := HSZ.out; have := HSS.out; omega
      have hk1 : (0 : Int) ≤ (k : Int) := by omega
      have hk2 : (k : Int) ≤ (p.size : Int) := by omega
      have hx := HP.out.ext k
      obtain ⟨p1, hp1⟩ : ∃ p1 : ByteArray, p1 = ⟨(lp.drop k).toArray⟩ := ⟨_, rfl⟩
      rw [← hp1] at hx
      have hS1 : Str p1 (lp.drop k) := hp1 ▸ Str.of _
      have htr := fun (w' : World) => Tryd.strings_Trim_one p1 42 (by decide) w' (by rw [hS1.sz, List.length_drop]; have := HPZ.out; omega)
      rw [hS1.lst] at htr
      have hT := Str.of (Lib.trimB (lp.drop k) 42)
      obtain ⟨T, hTe⟩ : ∃ T : ByteArray, T = ⟨(Lib.trimB (lp.drop k) 42).toArray⟩ := ⟨_, rfl⟩
      rw [← hTe] at htr hT
      have hE : T.toList.isEmpty = M := by rw [hT.emp, trimB_stars, ← hmf.out, matF_end hil]
      have HTR := hide htr
      clear hS1 hp1 htr hT hTe hmf hil
      go_wp2_with fail
      refine (HTR.out _).mono ?_
      rintro e w1 ⟨rfl, hq1⟩
      have HQ1 := hide (show ∃ k, w1 = w.drewN k from by
        rcases hq1 with h | h
        · exact ⟨q, h⟩
        · exact ⟨q + 1, h⟩)
      clear hq1 hx
      cases hM0 : M <;> rw [hM0] at hE
      all_goals
        go_wp2_with fail
        go_ret
        first | exact ⟨rfl, HQ1.out⟩ | exact ⟨by rw [hM0] <;> rfl, HQ1.out⟩
end Go.Proofs.YtnoimmhdoaeeiaaDoor
