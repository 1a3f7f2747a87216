/- The walks of groyneref20's all, Wants. -/
import Derived.Test.YtlcnlcjfnpicgaaGateR
namespace Go.Proofs.Ytlcnlcjfnpicgaa
open Go.RowKit Go.Maps

theorem cnt_eq {s : GSt} (hl : s.ms.length = s.n) : cnt s.ms = s.n ↔ ∀ i, i < s.n → mh s.ms i = true := by
  have h := cnt_full s.ms
  rw [hl] at h
  exact h
set_option maxHeartbeats 2000000 in
set_option maxRecDepth 100000 in
theorem refAll {w : World} {F : Nat → Prop} {v mw rw : Value} {s : GSt} (h : RefAt w F v mw rw s) :
    Calls Try.prog 29 #[v] w fun e w' => e = .returned (.bool (decide (cnt s.ms = s.n))) ∧ Chg Non w w' := by
  obtain ⟨rfl, hm, hr, hl, h20⟩ := h
  obtain ⟨A, c, rfl, hc, hmx⟩ := hm.shape
  obtain ⟨B, d, rfl, hd, hmd⟩ := hr.shape
  unfold rcells
  have HC := hide (cnt_eq hl)
  have kk := (Chg.refl Non w).alloc (.cells (rcells s (.slice A s.n c) (.slice B s.res.length d)) 30)
  have hm2 := hm.chg kk fun _ _ h => h
  simp only [rcells] at kk hm2
  have HL := hide hl
  have H20 := hide h20
  clear hm hr hl h20
  have hb := Blk.new w 30 (rcells s (.slice A s.n c) (.slice B s.res.length d))
  simp only [rcells] at hb
  generalize hWW : w.alloc _ = WW at kk hm2 hb
  go_enter Try.func29, Try.ntmps29
  go_wp2_with fail
  have HWW := hide hWW
  have c7 : WW.cell? ⟨w.heap.size, 7, none⟩ = some (.slice A s.n c) := (blk9 hb).2.2.2.2.2.2.2.1
  clear hWW hb
  generalize w.heap.size = G0 at *
  go_loopw [3] (fun iv wr => ∃ (k : Nat), iv = .int .i64 (k : Int) ∧ k ≤ s.n ∧ Hid (∀ i, i < k → mh s.ms i = true) ∧ wr = WW) (fun iv _ => s.n - (intOf iv).toNat)
  case atStart => exact ⟨0, rfl, Nat.zero_le _, hide (fun i hi => by omega), rfl⟩
  case round =>
    obtain ⟨k, rfl, hk, hall, rfl⟩ := hrel
    have hk20 : k ≤ 20 := by have := H20.out; omega
    by_cases h1 : k < s.n
    · obtain ⟨ad, u, rfl, _, hu, hcell⟩ := hm2.at_ (i := 0) h1 (by omega)
      rw [Nat.add_zero] at hu hcell
      rw [(mks_get s.ms k (by rw [HL.out]; exact h1)).1] at hu
      injection hu with hu
      subst hu
      have hd1 : decide ((k : Int) < (s.n : Int)) = true := decide_eq_true (by omega)
      cases hmh : mh s.ms k
      · have HQ := hide (show decide (cnt s.ms = s.n) = false from decide_eq_false fun e => by have := HC.out.1 e k h1; rw [hmh] at this; cases this)
        rw [hmh] at hcell
        clear hmh
        go_wp2_with fail
        go_ret
        exact ⟨ret_bool HQ.out.symm, kk⟩
      · have HA := hide (show ∀ i, i < k + 1 → mh s.ms i = true from fun i hi => by
          by_cases e : i = k
          · rw [e]; exact hmh
          · exact hall.out i (by omega))
        rw [hmh] at hcell
        clear hmh
        go_wp2_with fail
        go_round
        case rel => first | exact ⟨k + 1, by go_num, by omega, HA, rfl⟩ | exact ⟨k + 1, by go_num, by omega, HA, trivial⟩
        case measure => simp [intOf]; omega
    · obtain rfl : k = s.n := by omega
      have hd1 : decide ((s.n : Int) < (s.n : Int)) = false := decide_eq_false (by omega)
      have HQ := hide (show decide (cnt s.ms = s.n) = true from decide_eq_true (HC.out.2 hall.out))
      go_wp2_with fail
      go_ret
      exact ⟨ret_bool HQ.out.symm, kk⟩

set_option maxHeartbeats 2000000 in
set_option maxRecDepth 100000 in
theorem refWants {w : World} {F : Nat → Prop} {v mw rw : Value} {s : GSt} (h : RefAt w F v mw rw s) :
    Calls Try.prog 20 #[v] w fun e w' => e = .returned (.int .i64 (wantsS s)) ∧ Chg Non w w' := by
  obtain ⟨rfl, hm, hr, hl, h20⟩ := h
  obtain ⟨A, c, rfl, hc, hmx⟩ := hm.shape
  obtain ⟨B, d, rfl, hd, hmd⟩ := hr.shape
  have kk := (Chg.refl Non w).alloc (.cells (rcells s (.slice A s.n c) (.slice B s.res.length d)) 30)
  have hcall := refAll (RefAt.c0 ⟨rfl, hm, hr, hl, h20⟩ kk)
  have hW : wantsS s = if s.shut = false then 0 else if s.cut = false then 1 else if cnt s.ms = s.n then 2 else 0 := rfl
  obtain ⟨q, hq⟩ : ∃ q, q = decide (cnt s.ms = s.n) := ⟨_, rfl⟩
  have hW2 : wantsS s = if s.shut = false then 0 else if s.cut = false then 1 else if q = true then 2 else 0 := by rw [hW, hq]; simp
  rw [← hq] at hcall
  have HW := hide hW2
  have hb := Blk.new w 30 (rcells s (.slice A s.n c) (.slice B s.res.length d))
  unfold rcells at *
  clear hm hr hl h20 hq hW hW2
  generalize hWW : w.alloc _ = WW at kk hcall hb
  obtain ⟨c0, c1, c2, c3, c4, c5, c6, c7, c8⟩ := blk9 hb
  clear hb
  generalize hs1 : s.shut = b1 at *
  generalize hs2 : s.cut = b2 at *
  clear hs1 hs2
  cases b1
  · go_enter Try.func20, Try.ntmps20
    go_wp2_with fail
    go_ret
    exact ⟨ret_int HW.out.symm, kk⟩
  · cases b2
    · go_enter Try.func20, Try.ntmps20
      go_wp2_with fail
      go_ret
      exact ⟨ret_int HW.out.symm, kk⟩
    · cases q
      all_goals
        go_enter Try.func20, Try.ntmps20
        go_wp2_with fail
        refine hcall.mono ?_
        rintro e w1 ⟨rfl, k1⟩
        go_wp2_with fail
        go_ret
        exact ⟨ret_int HW.out.symm, kk.trans0 k1⟩
end Go.Proofs.Ytlcnlcjfnpicgaa
