/- What a record keeps of itself has the same bytes; rec.Read of a record's bytes with more behind them. -/
import Derived.Test.YtpbgjldjipgfeaaAwake06
namespace Go.Proofs.Ytpbgjldjipgfeaa
open Go.RowKit
set_option linter.unusedVariables false

theorem trimR_kind (x : RcS) : (trimR x).kind = x.kind := by
  unfold trimR
  split
  · rfl
  split
  · rfl
  split
  · rfl
  split
  · rfl
  split
  · rfl
  · rfl
theorem trimR_fld {x : RcS} (hk : 1 ≤ x.kind ∧ x.kind ≤ 9) : fldR (trimR x) = fldR x := by
  obtain ⟨k, a1, a2, a3, a4, a5, a6, a7, a8, a9, a10⟩ := x
  simp only at hk
  rcases (show k = 1 ∨ k = 2 ∨ k = 3 ∨ k = 4 ∨ k = 5 ∨ k = 6 ∨ k = 7 ∨ k = 8 ∨ k = 9 by omega) with rfl | rfl | rfl | rfl | rfl | rfl | rfl | rfl | rfl <;> rfl
theorem trimR_Y {x : RcS} (hk : 1 ≤ x.kind ∧ x.kind ≤ 9) : recY (trimR x) = recY x := by rw [recY, recY, trimR_fld hk, trimR_kind]
theorem RcSm.trim {x : RcS} (h : RcSm x) : RcSm (trimR x) := by
  have z1 : triW [] ≤ 1048576 := by decide
  have z2 : ([] : List WrS).length ≤ 1048576 := by decide
  have z3 : ([] : List Int).length ≤ 1048576 := by decide
  have z4 : ([] : List UInt8).length ≤ 1048576 := by decide
  have z5 : (ByteArray.mk #[]).size ≤ 1048576 := by decide
  unfold trimR
  split
  · exact ⟨h.ws, h.rs, h.wn, h.rn, z3, z4, z5⟩
  split
  · exact ⟨z1, z1, z2, z2, z3, z4, z5⟩
  split
  · exact ⟨h.ws, z1, h.wn, z2, z3, h.rep, z5⟩
  split
  · exact ⟨z1, z1, z2, z2, z3, z4, h.nm⟩
  split
  · exact ⟨z1, z1, z2, z2, h.sh, h.rep, z5⟩
  · exact ⟨z1, z1, z2, z2, z3, z4, z5⟩
theorem RcWf.trim {x : RcS} (h : RcWf x) : U64 (trimR x).boot ∧ U64 (trimR x).sess ∧ U64 (trimR x).seq ∧ U64 (trimR x).id := by
  have z : U64 0 := by unfold U64; decide
  obtain ⟨u1, u2, u3, u4⟩ := h.u
  unfold trimR
  split
  · exact ⟨u1, u2, u3, z⟩
  split
  · exact ⟨u1, u2, u3, z⟩
  split
  · exact ⟨u1, u2, u3, z⟩
  split
  · exact ⟨z, z, z, u4⟩
  split
  · exact ⟨u1, u2, u3, z⟩
  · exact ⟨z, z, z, z⟩
theorem RecOwn.rdT {w : World} {base : Nat} {x : RcS} {a b c d : Value} {xs ys : List (Value × Value)} (h : RecOwn w base (trimR x) a b c d xs ys) (hwf : RcWf x) (hk : (Lit.int .i64 x.kind).wf = true) : RecR w (fun k => base ≤ k) (trimR x) a b c d :=
  h.rd hwf.trim (by rw [trimR_kind]; exact hk)

theorem readPost {w : World} {F : Nat → Prop} {v : Value} {x : RcS} {l : List UInt8} (hr : RdB w F v (recY x ++ l)) (hs : RcSm x) (hwf : RcWf x) (hl : l.length ≤ 1048576) :
    Calls Try.prog 14 #[v] w fun e w' => ∃ y A1 n1 k1 A2 n2 k2 A3 n3 k3 A4 n4 k4 er, e = .returned (.tuple #[.agg (recC y (.slice A1 n1 k1) (.slice A2 n2 k2) (.slice A3 n3 k3) (.slice A4 n4 k4)), .int .i64 er]) ∧ (0 < l.length → er ≠ 0 ∧ y.kind = 0) ∧ Chg Non w w' := by
  have hy := recY_len x hs
  by_cases h : 0 < l.length
  · refine (recReadE (er := 3) hr (by rw [List.length_append]; omega) (by rw [recY, splitB_joinB _ (fits_rec hs), if_pos h]) (by decide)).mono ?_
    rintro e w' ⟨er, he, rfl, hc⟩
    exact ⟨zeroR, none, 0, 0, none, 0, 0, none, 0, 0, none, 0, 0, er, rfl, fun _ => ⟨he, rfl⟩, hc⟩
  · have h0 : l = [] := List.eq_nil_of_length_eq_zero (by omega)
    subst h0
    rw [List.append_nil] at hr
    by_cases hk : 1 ≤ x.kind ∧ x.kind ≤ 9
    · refine (recRead hr hs hwf hk).mono ?_
      rintro e w' ⟨a, b, c, d, xs, ys, rfl, hO, hc⟩
      obtain ⟨⟨A1, n1, k1, rfl⟩, ⟨A2, n2, k2, rfl⟩, ⟨A3, n3, k3, rfl⟩, ⟨A4, n4, k4, rfl⟩⟩ := hO.sl
      exact ⟨_, _, _, _, _, _, _, _, _, _, _, _, _, _, rfl, fun h => absurd h (by simp), hc⟩
    · refine (recReadN hr hk).mono ?_
      rintro e w' ⟨er, he, rfl, hc⟩
      exact ⟨zeroR, none, 0, 0, none, 0, 0, none, 0, 0, none, 0, 0, er, rfl, fun h => absurd h (by simp), hc⟩
end Go.Proofs.Ytpbgjldjipgfeaa
