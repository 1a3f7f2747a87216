/- Walks of label's piece and pieces. -/
import Derived.Test.YtnoimmhdoaeeiaaDoorLabA
namespace Go.Proofs.YtnoimmhdoaeeiaaDoor
open Go.RowKit

/-- nothing but draws, and blocks laid behind all others -/
def Lay (w w' : World) : Prop := ∃ (q : Nat) (os : Array Obj), w' = Sort.grow (w.drewN q) os
theorem grow_dn (w : World) (os : Array Obj) (r : Nat) : (Sort.grow w os).drewN r = Sort.grow (w.drewN r) os := rfl
theorem Lay.refl (w : World) : Lay w w := ⟨0, #[], by rw [Sort.grow_empty]; rfl⟩
theorem Lay.trans {a b c : World} (h : Lay a b) (h' : Lay b c) : Lay a c := by
  obtain ⟨q, os, rfl⟩ := h
  obtain ⟨r, os', rfl⟩ := h'
  exact ⟨q + r, os ++ os', by rw [grow_dn, Sort.grow_grow, World.drewN_drewN]⟩
theorem Lay.dn {a b : World} (h : Lay a b) (n : Nat) : Lay a (b.drewN n) := h.trans ⟨n, #[], by rw [Sort.grow_empty]⟩
theorem Lay.q {a b c : World} (h : Lay a b) (hq : ∃ k, c = b.drewN k) : Lay a c := by
  obtain ⟨k, rfl⟩ := hq
  exact h.dn k
theorem Lay.al {a b : World} (h : Lay a b) (o : Obj) : Lay a (b.alloc o) := h.trans ⟨0, #[o], by rw [Sort.alloc_eq_grow]; rfl⟩
theorem tw_len : ∀ (l : List UInt8) (k : Nat), k ≤ l.length → (∀ (i : Nat) (h : i < l.length), i < k → isD l[i] = true) → (∀ h : k < l.length, isD l[k] = false) → (l.takeWhile isD).length = k
  | [], k, hk, _, _ => by simp at hk; subst hk; rfl
  | c :: r, 0, _, _, h2 => by
    have := h2 (by simp)
    simp at this
    simp [List.takeWhile, this]
  | c :: r, k + 1, hk, h1, h2 => by
    have h0 := h1 0 (by simp) (by omega)
    simp at h0
    have ih := tw_len r k (by simpa using hk) (fun i h hi => by
      have := h1 (i + 1) (by simpa using h) (by omega)
      simpa using this) (fun h => by
      have := h2 (by simpa using h)
      simpa using this)
    rw [List.takeWhile_cons_of_pos h0, List.length_cons, ih]

set_option maxHeartbeats 1000000 in
theorem labPiece {s : ByteArray} {l : List UInt8} (h : Str s l) (hl : 0 < l.length) (hb : l.length ≤ 1000000000) (w : World) :
    Calls Tryd.prog 26 #[.string s] w fun e w' => e = .returned (.tuple #[.string ⟨(l.take (pieceN l)).toArray⟩, .string ⟨(l.drop (pieceN l)).toArray⟩]) ∧ ∃ k, w' = w.drewN k := by
  have hsz := h.sz
  have HS := hide h
  clear h
  go_enter Tryd.func26, Tryd.ntmps26
  go_wp2_with fail
  go_loopw [4] (fun iv wr => ∃ k : Nat, iv = .int .i64 (k : Int) ∧ k ≤ s.size ∧ Hid (∀ (i : Nat) (h : i < l.length), i < k → isD l[i] = true) ∧ wr = w) (fun iv _ => s.size - (intOf iv).toNat)
  case atStart => exact ⟨0, rfl, Nat.zero_le _, hide (fun i h hi => absurd hi (Nat.not_lt_zero i)), rfl⟩
  case round =>
    obtain ⟨k, rfl, hk, hall, rfl⟩ := hrel
    by_cases h1 : k < s.size
    · have hd1 : decide ((k : Int) < (s.size : Int)) = true := decide_eq_true (by omega)
      have hi1 : (0 : Int) ≤ (k : Int) := by omega
      have hi2 : (k : Int) < (s.size : Int) := by omega
      have hkl : k < l.length := by omega
      have hget : ∀ h, s[k]'h = l[k] := fun h => HS.out.get k h hkl
      have hdg := labDigit l[k] wr
      have HA := hall
      cases hD : isD l[k]
      · rw [hD] at hdg
        have hN : pieceN l = max k 1 := by rw [pieceN, tw_len l k (by omega) hall.out (fun _ => hD)]
        obtain ⟨N, hNN⟩ : ∃ N, N = pieceN l := ⟨_, rfl⟩
        have hmx : max (k : Int) 1 = (N : Int) := by rw [hNN, hN]; omega
        have hN2 : N ≤ s.size := by rw [hNN, hN]; omega
        have hN1 : (N : Int) ≤ (s.size : Int) := by omega
        have hN0 : (0 : Int) ≤ (N : Int) := by omega
        have e1 := HS.out.fro N
        have e2 := HS.out.ext N
        rw [hsz] at e2
        have HNN := hide hNN
        clear hD hall HA hN hNN
        go_wp2_with fail
        refine hdg.mono ?_
        rintro e w1 ⟨rfl, rfl⟩
        clear hdg hget
        go_wp2_with fail
        go_quiet (fail)
        go_wp2_with fail
        go_ret2
        exact ⟨by rw [← HNN.out]; rfl, _, rfl⟩
      · rw [hD] at hdg
        have HA2 := hide (show ∀ (i : Nat) (h : i < l.length), i < k + 1 → isD l[i] = true from fun i h hi => by
          by_cases e : i = k
          · subst e; exact hD
          · exact hall.out i h (by omega))
        clear hD hall HA
        go_wp2_with fail
        refine hdg.mono ?_
        rintro e w1 ⟨rfl, rfl⟩
        clear hdg hget
        go_wp2_with fail
        go_round
        case rel => first | exact ⟨k + 1, by go_num, by omega, HA2, rfl⟩ | exact ⟨k + 1, by go_num, by omega, HA2, trivial⟩
        case measure => simp [intOf]; omega
    · have hks : k = s.size := by omega
      have hd1 : decide ((k : Int) < (s.size : Int)) = false := decide_eq_false (by omega)
      have hN : pieceN l = max k 1 := by rw [pieceN, tw_len l k (by omega) hall.out (fun h => absurd h (by omega))]
      obtain ⟨N, hNN⟩ : ∃ N, N = pieceN l := ⟨_, rfl⟩
      have hmx : max (k : Int) 1 = (N : Int) := by rw [hNN, hN]; omega
      have hN2 : N ≤ s.size := by rw [hNN, hN]; omega
      have hN1 : (N : Int) ≤ (s.size : Int) := by omega
      have hN0 : (0 : Int) ≤ (N : Int) := by omega
      have e1 := HS.out.fro N
      have e2 := HS.out.ext N
      rw [hsz] at e2
      have HNN := hide hNN
      clear hall hN hNN hks
      go_wp2_with fail
      go_quiet (fail)
      go_wp2_with fail
      go_ret2
      exact ⟨by rw [← HNN.out]; rfl, _, rfl⟩

theorem trimLeftB_eq (l : List UInt8) : Lib.trimLeftB l 48 = trim0 l := rfl
theorem compareInt_ord (a b : Nat) : Lib.compareInt (a : Int) (b : Int) = ordI (compare a b) := by
  rw [Nat.compare_eq_ite_lt, Lib.compareInt]
  by_cases h : a < b
  · rw [if_pos (by omega), if_pos h]; rfl
  · rw [if_neg (by omega), if_neg h]
    by_cases h' : b < a
    · rw [if_pos (by omega), if_pos h']; rfl
    · rw [if_neg (by omega), if_neg h']; rfl

set_option maxHeartbeats 1000000 in
theorem labPieces {p q : ByteArray} {c d : UInt8} {r t : List UInt8} (hp : Str p (c :: r)) (hq : Str q (d :: t)) (w : World) :
    Calls Tryd.prog 27 #[.string p, .string q] w fun e w' => e = .returned (.int .i64 (pcmp (c :: r) (d :: t))) ∧ Lay w w' := by
  have hpz := hp.sz
  have hqz := hq.sz
  rw [List.length_cons] at hpz hqz
  have p0 : ∀ h, p[0]'h = c := fun h => hp.get 0 h (by simp)
  have q0 : ∀ h, q[0]'h = d := fun h => hq.get 0 h (by simp)
  have tp : (0 : Int) < (p.size : Int) := by omega
  have tq : (0 : Int) < (q.size : Int) := by omega
  have tp' : 0 < p.size := by omega
  have tq' : 0 < q.size := by omega
  have HPP := hide hp
  have HQQ := hide hq
  have hdc := fun (w' : World) => labDigit c w'
  have hdd := fun (w' : World) => labDigit d w'
  have hcb := fun (w' : World) => cmpByte c.toNat d.toNat w'
  have hpc := pcmp_cons c d r t
  clear hp hq hpz hqz
  cases hc : isD c
  · have HR := hide (show pcmp (c :: r) (d :: t) = ordI (compare c.toNat d.toNat) by rw [hpc, if_pos (.inl hc)])
    simp only [hc] at hdc
    clear hpc hc
    go_enter Tryd.func27, Tryd.ntmps27
    go_wp2_with fail
    refine (hdc _).mono ?_
    rintro e w1 ⟨rfl, rfl⟩
    go_wp2_with fail
    go_quiet ((go_at_call 48; exact Calls.quiet_of ((hcb _).mono fun _ _ ⟨h1, h2⟩ => ⟨h1, 0, h2⟩)))
    go_wp2_with fail
    go_ret
    exact ⟨by rw [HR.out]; rfl, (Lay.refl _).dn _⟩
  · cases hd : isD d
    · have HR := hide (show pcmp (c :: r) (d :: t) = ordI (compare c.toNat d.toNat) by rw [hpc, if_pos (.inr hd)])
      simp only [hc] at hdc
      simp only [hd] at hdd
      clear hpc hc hd
      go_enter Tryd.func27, Tryd.ntmps27
      go_wp2_with fail
      refine (hdc _).mono ?_
      rintro e w1 ⟨rfl, rfl⟩
      go_wp2_with fail
      refine (hdd _).mono ?_
      rintro e w1 ⟨rfl, rfl⟩
      go_wp2_with fail
      go_quiet ((go_at_call 48; exact Calls.quiet_of ((hcb _).mono fun _ _ ⟨h1, h2⟩ => ⟨h1, 0, h2⟩)))
      go_wp2_with fail
      go_ret
      exact ⟨by rw [HR.out]; rfl, (Lay.refl _).dn _⟩
    · simp only [hc] at hdc
      simp only [hd] at hdd
      have hR : pcmp (c :: r) (d :: t) = ordI ((compare (trim0 (c :: r)).length (trim0 (d :: t)).length).then (compare (nums (trim0 (c :: r))) (nums (trim0 (d :: t))))) := by rw [hpc, if_neg (by rw [hc, hd]; simp)]
      have hSP := Str.of (trim0 (c :: r))
      have hSQ := Str.of (trim0 (d :: t))
      have ht1 := fun (w' : World) => Tryd.strings_TrimLeft_one p 48 (by decide) w'
      have ht2 := fun (w' : World) => Tryd.strings_TrimLeft_one q 48 (by decide) w'
      rw [HPP.out.lst] at ht1
      rw [HQQ.out.lst] at ht2
      simp only [trimLeftB_eq] at ht1 ht2
      obtain ⟨P, hP⟩ : ∃ P : ByteArray, P = ⟨(trim0 (c :: r)).toArray⟩ := ⟨_, rfl⟩
      obtain ⟨Q, hQ⟩ : ∃ Q : ByteArray, Q = ⟨(trim0 (d :: t)).toArray⟩ := ⟨_, rfl⟩
      rw [← hP] at hSP ht1
      rw [← hQ] at hSQ ht2
      have hci := fun (w' : World) => Tryd.cmp_Compare_int (P.size : Int) (Q.size : Int) w'
      have hsc := fun (w' : World) => Tryd.strings_Compare P Q w'
      rw [hSP.sz, hSQ.sz, compareInt_ord] at hci
      rw [hSP.lst, hSQ.lst, compareBytes_ord] at hsc
      obtain ⟨x, hx⟩ : ∃ x, x = ordI (compare (trim0 (c :: r)).length (trim0 (d :: t)).length) := ⟨_, rfl⟩
      obtain ⟨y, hy⟩ : ∃ y, y = ordI (compare (nums (trim0 (c :: r))) (nums (trim0 (d :: t)))) := ⟨_, rfl⟩
      rw [← hx] at hci
      rw [← hy] at hsc
      rw [ordI_then, ← hx, ← hy, ← orI] at hR
      rw [← hSP.sz, ← hSQ.sz] at hci
      have HR := hide hR
      have HC := hide hci
      have HSC := hide hsc
      have HT1 := hide ht1
      have HT2 := hide ht2
      clear hpc hc hd hR hSP hSQ hP hQ hx hy hci hsc ht1 ht2 hcb
      go_enter Tryd.func27, Tryd.ntmps27
      go_wp2_with fail
      refine (hdc _).mono ?_
      rintro e w1 ⟨rfl, rfl⟩
      go_wp2_with fail
      refine (hdd _).mono ?_
      rintro e w1 ⟨rfl, rfl⟩
      clear p0 q0 tp tq tp' tq' hdc hdd
      go_wp2_with fail
      refine (HT1.out _).mono ?_
      rintro e w1 ⟨rfl, rfl⟩
      go_wp2_with fail
      refine (HT2.out _).mono ?_
      rintro e w1 ⟨rfl, rfl⟩
      go_wp2_with fail
      refine (HC.out _).mono ?_
      rintro e w1 ⟨rfl, rfl⟩
      go_wp2_with fail
      refine (HSC.out _).mono ?_
      rintro e w1 ⟨rfl, rfl⟩
      have ho := cmpOr2 (Blk.new w1 3 #[.int .i64 x, .int .i64 y])
      have ck := (Lay.refl w1).al (.cells #[.int .i64 x, .int .i64 y] 3)
      go_wp2_with fail
      refine ho.mono ?_
      rintro e w2 ⟨rfl, rfl⟩
      go_wp2_with fail
      go_ret
      exact ⟨by rw [HR.out] <;> rfl, ck⟩
end Go.Proofs.YtnoimmhdoaeeiaaDoor
