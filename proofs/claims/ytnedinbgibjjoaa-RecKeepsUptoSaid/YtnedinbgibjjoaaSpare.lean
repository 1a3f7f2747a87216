/- The walks of groyneref01's tint, stamp, Spare and Kept. -/
import Derived.Test.YtnedinbgibjjoaaApM
import Derived.StillTailTactics
namespace Go.Proofs.Ytnedinbgibjjoaa
open Go.RowKit

def tintB (i : Nat) : UInt8 := UInt8.ofNat (81 + 7 * (i % 31))
def spareL (b : List UInt8) : List UInt8 := b ++ (List.range 33).map fun k => tintB (b.length + k)
theorem spareL_len (b : List UInt8) : (spareL b).length = b.length + 33 := by simp [spareL]
theorem spareL_tint (b : List UInt8) (k : Nat) (h : k < (spareL b).length) (hk : ¬ k < b.length) : (spareL b)[k] = tintB k := by
  have h2 := spareL_len b
  simp only [spareL]
  rw [List.getElem_append_right (by omega)]
  simp
  congr 1
  omega
theorem spareL_head (b : List UInt8) (k : Nat) (h : k < (spareL b).length) (hk : k < b.length) : (spareL b)[k] = b[k] := by
  simp only [spareL]
  rw [List.getElem_append_left hk]

theorem refTint {i : Nat} {w : World} (hi : i ≤ 2000000000000) :
    Calls Try.prog 30 #[.int .i64 (i : Int)] w fun e w' => e = .returned (.int .u8 ((tintB i).toNat : Int)) ∧ w' = w := by
  have HT := hide (show ((tintB i).toNat : Int) = (81 + 7 * ((i : Int) % 31)) % 256 by rw [tintB, UInt8.toNat_ofNat']; omega)
  go_enter Try.func30, Try.ntmps30
  go_wp2_with fail
  go_ret
  refine ⟨ret_int ?_, rfl⟩
  first
    | (rw [HT.out]; done)
    | (rw [HT.out]; omega)
theorem refStamp {i k : Nat} {w : World} (hi : i ≤ 2000000000000) (hk : k ≤ 2000000000000) :
    Calls Try.prog 33 #[.int .i64 (i : Int), .int .i64 (k : Int)] w fun e w' => e = .returned (.int .u8 ((stampB i k).toNat : Int)) ∧ w' = w := by
  have HT := hide (show ((stampB i k).toNat : Int) = (3 * (i : Int) + 11 * (k : Int) + 1) % 256 by rw [stampB, UInt8.toNat_ofNat']; omega)
  have hw1 : IntKind.i64.wrap (3 * (i : Int)) = 3 * (i : Int) := IntWalk.i64_in _ (by omega)
  have hw2 : IntKind.i64.wrap (11 * (k : Int)) = 11 * (k : Int) := IntWalk.i64_in _ (by omega)
  have hw3 : IntKind.i64.wrap (3 * (i : Int) + 11 * (k : Int)) = 3 * (i : Int) + 11 * (k : Int) := IntWalk.i64_in _ (by omega)
  have hw4 : IntKind.i64.wrap (3 * (i : Int) + 11 * (k : Int) + 1) = 3 * (i : Int) + 11 * (k : Int) + 1 := IntWalk.i64_in _ (by omega)
  go_enter Try.func33, Try.ntmps33
  go_wp2_with fail
  go_ret
  refine ⟨ret_int ?_, rfl⟩
  first
    | (rw [HT.out]; done)
    | (rw [HT.out]; omega)

theorem run_mkall (w : World) (n : Nat) (h : n ≤ 100000000000000) : (Instr.makeSlice 28 (.int .i64 (n : Int)) (.int .i64 (n : Int))).run Try.prog w = .ok (.slice (some ⟨w.heap.size, 0, none⟩) n n) (w.alloc (.cells (madeCells #[.int .u8 0] n) 5)) := by
  obtain ⟨i, hi, hz, h1, h2⟩ := info_parts info_u8
  have h := run_make (P := Try.prog) w 28 5 i _ Try.underlying28 hi hz .i64 .i64 n n (by omega) (Int.le_refl _) (by rw [h2]; omega) (by omega)
  rw [h1, Int.toNat_natCast, Nat.mul_one] at h
  exact h
theorem own_mkall (w : World) (n : Nat) (h : n ≤ 100000000000000) : OwnB (w.alloc (.cells (madeCells #[.int .u8 0] n) 5)) w.heap.size (.slice (some ⟨w.heap.size, 0, none⟩) n n) (List.replicate n 0) := by
  have h1 := World.ownsRow_lit (base := w.heap.size) (e := 5) (size := 1) w (madeCells #[.int .u8 0] n) n (Nat.le_refl _) (by simp only [maxLen]; omega) (by rw [size_madeCells]; omega)
  unfold OwnB
  rw [List.length_replicate]
  have e : (madeCells #[Value.int .u8 0] n).toList = bvs (List.replicate n 0) := by
    rw [toList_madeCells_one]
    simp [bvs, bv]
  rw [e] at h1
  exact h1
theorem take_set_succ {l m : List UInt8} {k : Nat} (hl : l.length = m.length) (hk : k < m.length) (h : l.take k = m.take k) : (l.set k m[k]).take (k + 1) = m.take (k + 1) := by
  rw [List.take_succ_eq_append_getElem (by rw [List.length_set]; omega), List.take_succ_eq_append_getElem hk, List.getElem_set_self, List.take_set, h]
  congr 1
  rw [List.set_eq_of_length_le (by rw [List.length_take]; omega)]

set_option maxRecDepth 100000 in
set_option maxHeartbeats 1000000 in
theorem refSpare {u : Value} {b : List UInt8} {F : Nat → Prop} {w : World} (hr : RdB w F u b) (hbl : b.length ≤ 1000000000000) :
    Calls Try.prog 15 #[u] w fun e w' => ∃ x v, e = .returned (.tuple #[x, v]) ∧ OwnB w' w.heap.size v (spareL b) ∧ RdB w' (fun k => v.ownBlock = some k) x b ∧ Chg Non w w' := by
  have hr0 := hr.lt
  have hlen8 := fun (w' : World) (ty : TypeId) => run_len8 hr w' ty
  obtain ⟨A, c, rfl, hcc, hcm⟩ := hr.shape
  unfold maxLen at hcm
  have hsl := spareL_len b
  obtain ⟨N, hN⟩ : ∃ N, N = b.length + 33 := ⟨_, rfl⟩
  have hNl : N ≤ 2000000000000 := by omega
  have hbN : b.length ≤ N := by omega
  have HSL := hide (show (spareL b).length = N by omega)
  have hw : IntKind.i64.wrap ((b.length : Int) + 33) = (N : Int) := by rw [IntWalk.i64_in _ (by omega)]; omega
  have hmk := fun (w' : World) => run_mkall w' N (by omega)
  have hown := own_mkall w N (by omega)
  have c1 := (Chg.refl Non w).alloc (.cells (madeCells #[.int .u8 0] N) 5)
  have hr1 := hr0.c0 c1
  clear hr hr0 hN hsl
  go_enter Try.func15, Try.ntmps15
  go_wp2_with fail
  generalize w.alloc (.cells (madeCells #[.int .u8 0] N) 5) = w1 at hown c1 hr1 ⊢
  obtain ⟨g, hg, hgw⟩ : ∃ g, g = w.heap.size ∧ w.heap.size ≤ g := ⟨_, rfl, Nat.le_refl _⟩
  have HG := hide hg
  rw [← hg] at hown ⊢
  clear hmk hw hg
  go_loopw [5] (fun iv wr => ∃ (k : Nat) (l : List UInt8), iv = .int .i64 (k : Int) ∧ k ≤ N ∧ OwnB wr g (.slice (some ⟨g, 0, none⟩) N N) l ∧ Hid (l.length = N ∧ l.take k = (spareL b).take k) ∧ RdB wr (fun k => F k ∧ k < w.heap.size) (.slice A b.length c) b ∧ Chg Non w wr) (fun iv _ => N - (intOf iv).toNat)
  case atStart => exact ⟨0, _, rfl, Nat.zero_le _, hown, hide ⟨by simp, by simp⟩, hr1, c1⟩
  case round =>
    clear hown c1 hr1
    obtain ⟨k, l, rfl, hk, hO, hl, hr, hcw⟩ := hrel
    by_cases h1 : k < N
    · have hkN : (k : Int) < (N : Int) := by omega
      have hk0 : (0 : Int) ≤ (k : Int) := by omega
      have htint := fun (w' : World) => refTint (i := k) (w := w') (by omega)
      have hll := hl.out.1
      have hfz := (hO.cell (i := k) (by omega)).2
      obtain ⟨cell0, hcell0⟩ : ∃ z, wr.cell? ⟨g, k, none⟩ = some z := ⟨_, (hO.cell (i := k) (by omega)).1⟩
      have hst := hO.stored k (tintB k)
      have hcst := hcw.setCell (p := ⟨g, k, none⟩) (fun hlt => by simp at hlt; omega) (.int .u8 ((tintB k).toNat : Int))
      have hrst := hr.chg ((Chg.refl (fun x => x = g) wr).setCell (p := ⟨g, k, none⟩) (fun _ => rfl) (.int .u8 ((tintB k).toNat : Int))) (fun x hx e => by have := hx.2; omega)
      by_cases h2 : k < b.length
      · have hd2 : decide ((k : Int) < (b.length : Int)) = true := decide_eq_true (by omega)
        have hkb : (k : Int) < (b.length : Int) := by omega
        have HN := hide (show ((l.set k (tintB k)).set k b[k]).length = N ∧ ((l.set k (tintB k)).set k b[k]).take (k + 1) = (spareL b).take (k + 1) by
          have hs := spareL_head b k (by have := HSL.out; omega) h2
          refine ⟨by rw [List.length_set, List.length_set]; exact hll, ?_⟩
          rw [List.set_set, ← hs]
          exact take_set_succ (by have := HSL.out; omega) (by have := HSL.out; omega) hl.out.2)
        obtain ⟨ad, rfl, hadF, hcb⟩ := hrst.at_ h2
        obtain ⟨y, hy⟩ : ∃ y, y = b[k] := ⟨_, rfl⟩
        rw [← hy] at hcb HN
        have hfz2 := (hst.cell (i := k) (by rw [List.length_set]; omega)).2
        have hll2 : (l.set k (tintB k)).length = N := by rw [List.length_set]; exact hll
        have hst2 := hst.stored k y
        have hcst2 := hcst.setCell (p := ⟨g, k, none⟩) (fun hlt => by simp at hlt; omega) (.int .u8 (y.toNat : Int))
        have hrst2 := hrst.chg ((Chg.refl (fun x => x = g) _).setCell (p := ⟨g, k, none⟩) (fun _ => rfl) (.int .u8 (y.toNat : Int))) (fun x hx e => by have := hx.2; omega)
        clear hll2
        clear hy hr hO hcw hl hll hst hcst hrst
        go_wp2_with fail
        refine (htint _).mono ?_
        rintro e w2 ⟨rfl, rfl⟩
        go_wp2_with fail
        go_round
        case rel => exact ⟨k + 1, _, by go_num, by omega, hst2, HN, hrst2, hcst2⟩
        case measure => simp [intOf]; omega
      · have hd2 : decide ((k : Int) < (b.length : Int)) = false := decide_eq_false (by omega)
        have HN := hide (show (l.set k (tintB k)).length = N ∧ (l.set k (tintB k)).take (k + 1) = (spareL b).take (k + 1) by
          have hs := spareL_tint b k (by have := HSL.out; omega) h2
          refine ⟨by rw [List.length_set]; exact hll, ?_⟩
          rw [← hs]
          exact take_set_succ (by have := HSL.out; omega) (by have := HSL.out; omega) hl.out.2)
        clear hr hO hcw hl hll
        go_wp2_with fail
        refine (htint _).mono ?_
        rintro e w2 ⟨rfl, rfl⟩
        go_wp2_with fail
        go_round
        case rel => exact ⟨k + 1, _, by go_num, by omega, hst, HN, hrst, hcst⟩
        case measure => simp [intOf]; omega
    · obtain rfl : k = N := by omega
      have hl2 := hl.out.2
      rw [List.take_of_length_le (by have := hl.out.1; omega), List.take_of_length_le (by have := HSL.out; omega)] at hl2
      rw [hl2] at hO
      obtain ⟨s1, hs1, hc1⟩ := run_cut_h hO.rd (j := b.length) (y := (b.length : Int)) rfl (by have := HSL.out; omega)
      rw [spareL, List.take_left] at hs1
      clear hl hl2 hr
      go_wp2_with fail
      go_ret2
      exact ⟨_, _, rfl, hO.low hgw, hs1, hcw⟩
end Go.Proofs.Ytnedinbgibjjoaa
