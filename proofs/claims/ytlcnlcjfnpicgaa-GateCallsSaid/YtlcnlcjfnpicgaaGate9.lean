/- The walk of groynelaw20's results. -/
import Derived.Test.YtlcnlcjfnpicgaaGateR
namespace Go.Proofs.Ytlcnlcjfnpicgaa
open Go.RowKit Go.Maps

theorem rcs_get (r : List (Nat × ByteArray × Int)) (k : Nat) (x : Nat × ByteArray × Int) (hk : r[k]? = some x) :
    (rcs r)[k * 3]? = some (.int .u64 (x.1 : Int)) ∧ (rcs r)[k * 3 + 1]? = some (.string x.2.1) ∧ (rcs r)[k * 3 + 2]? = some (.int .i64 x.2.2) := by
  induction r generalizing k with
  | nil => simp at hk
  | cons y r ih =>
    have e : rcs (y :: r) = [.int .u64 (y.1 : Int), .string y.2.1, .int .i64 y.2.2] ++ rcs r := by simp [rcs]
    match k, hk with
    | 0, hk => simp at hk; subst hk; rw [e]; simp
    | k + 1, hk =>
      have := ih k (by simpa using hk)
      rw [e, show (k + 1) * 3 = k * 3 + 3 from by omega]
      simpa using this
theorem rcs_cells {w : World} {F : Nat → Prop} {A : Option Addr} {c n k : Nat} {r : List (Nat × ByteArray × Int)} {x : Nat × ByteArray × Int} (h : RdV w F 3 (.slice A n c) n (rcs r)) (hk : k < n) (hx : r[k]? = some x) :
    ∃ ad, A = some ad ∧ w.cell? (ad.add (k * 3)) = some (.int .u64 (x.1 : Int)) ∧ w.cell? ⟨(ad.add (k * 3)).block, (ad.add (k * 3)).off + 1, none⟩ = some (.string x.2.1) ∧ w.cell? ⟨(ad.add (k * 3)).block, (ad.add (k * 3)).off + 2, none⟩ = some (.int .i64 x.2.2) := by
  obtain ⟨g1, g2, g3⟩ := rcs_get r k x hx
  obtain ⟨ad, u0, hA, _, e0, h0⟩ := h.at_ (i := 0) hk (by omega)
  obtain ⟨ad1, u1, hA1, _, e1, h1⟩ := h.at_ (i := 1) hk (by omega)
  obtain ⟨ad2, u2, hA2, _, e2, h2⟩ := h.at_ (i := 2) hk (by omega)
  rw [hA] at hA1 hA2
  injection hA1 with hA1
  injection hA2 with hA2
  subst hA1 hA2
  rw [Nat.add_zero] at e0 h0
  rw [g1] at e0
  rw [g2] at e1
  rw [g3] at e2
  injection e0 with e0
  injection e1 with e1
  injection e2 with e2
  subst e0 e1 e2
  rw [add_succ ad (k * 3) 1 (by omega)] at h1
  rw [add_succ ad (k * 3) 2 (by omega)] at h2
  exact ⟨ad, hA, h0, h1, h2⟩

set_option maxHeartbeats 2000000 in
set_option maxRecDepth 100000 in
theorem lawResults {w : World} {F F' : Nat → Prop} {v u : Value} {r : List (Nat × ByteArray × Int)} (h : RdV w F 3 v r.length (rcs r)) (h' : RdV w F' 3 u r.length (rcs r)) (hl : r.length ≤ 100000) :
    Calls Try.prog 15 #[v, u] w fun e w' => e = .returned (.bool true) ∧ ∃ k, w' = w.drewN k := by
  obtain ⟨A, c, rfl, hc, hmx⟩ := h.shape
  obtain ⟨B, d, rfl, hd, hmd⟩ := h'.shape
  obtain ⟨n, hn⟩ : ∃ n, n = r.length := ⟨_, rfl⟩
  rw [← hn] at h h' hl hc hd
  rw [← hn]
  have HN := hide hn
  have H1 := hide h
  have H2 := hide h'
  clear hn h h'
  unfold maxLen at hmx hmd
  go_enter Try.func15, Try.ntmps15
  go_wp2_with fail
  go_loopw [13] (fun iv wr => ∃ (k q : Nat), iv = .int .i64 (k : Int) ∧ k ≤ n ∧ wr = w.drewN q) (fun iv _ => n - (intOf iv).toNat)
  case atStart => exact ⟨0, 0, rfl, Nat.zero_le _, rfl⟩
  case round =>
    obtain ⟨k, q, rfl, hk, rfl⟩ := hrel
    by_cases h1 : k < n
    · have hd1 : decide ((k : Int) < (n : Int)) = true := decide_eq_true (by omega)
      obtain ⟨x, hx⟩ : ∃ x, r[k]? = some x := ⟨r[k]'(by rw [← HN.out]; exact h1), List.getElem?_eq_getElem _⟩
      obtain ⟨ad, rfl, a0, a1, a2⟩ := rcs_cells H1.out h1 hx
      obtain ⟨bd, rfl, b0, b1, b2⟩ := rcs_cells H2.out h1 hx
      clear hx
      go_wp2_with fail
      go_quiet (fail)
      go_wp2_with fail
      go_round
      case rel => first | exact ⟨k + 1, _, by go_num, by omega, rfl⟩ | ((repeat apply Exists.intro); exact ⟨⟨k + 1, _, by go_num, by omega, rfl⟩, rfl⟩)
      case measure => simp [intOf]; omega
    · obtain rfl : k = n := by omega
      have hd1 : decide ((k : Int) < (k : Int)) = false := decide_eq_false (by omega)
      go_wp2_with fail
      go_ret
      exact ⟨rfl, q, rfl⟩
end Go.Proofs.Ytlcnlcjfnpicgaa
