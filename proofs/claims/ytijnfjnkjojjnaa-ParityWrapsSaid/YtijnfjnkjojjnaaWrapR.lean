/- The walks of groyneref03's Wrap and Unwrap. -/
import Derived.Test.YtijnfjnkjojjnaaWrp
import Derived.Test.YtijnfjnkjojjnaaRefSeal
import Derived.Test.YtijnfjnkjojjnaaRefOpen
import Derived.Test.YtijnfjnkjojjnaaGood
namespace Go.Proofs.Ytijnfjnkjojjnaa
open Go.RowKit

set_option maxRecDepth 100000 in
set_option maxHeartbeats 1000000 in
theorem refWrap {u : Value} {b : List UInt8} {F : Nat → Prop} {w : World} (hr : RdB w F u b) (hbl : b.length ≤ 1000000000) :
    Calls Try.prog 34 #[u] w fun e w' => ∃ v, e = .returned v ∧ OwnB w' w.heap.size v (wrapB b) ∧ Chg Non w w' := by
  have hr0 := hr.lt
  have hwl := wrapB_len _ b (Nat.le_refl _)
  clear hr
  go_enter Try.func34, Try.ntmps34
  go_wp2_with fail
  go_loopw [0, 3] (fun uv ov wr => ∃ (rest out : List UInt8), RdB wr (fun k => F k ∧ k < w.heap.size) uv rest ∧ OwnB wr w.heap.size ov out ∧ rest.length ≤ b.length ∧ Hid (out ++ wrapB rest = wrapB b) ∧ Chg Non w wr) (fun uv _ _ => sliceLen uv)
  case atStart => exact ⟨b, [], hr0, OwnB.nil_ _ _, Nat.le_refl _, hide rfl, Chg.refl _ _⟩
  case round =>
    clear hr0
    obtain ⟨rest, out, hr, hown, hrl, hsp, hcw⟩ := hrel
    have hlen8 := fun (w' : World) (ty : TypeId) => run_len8 hr w' ty
    have hol := congrArg List.length hsp.out
    rw [List.length_append] at hol
    have hsz := hcw.size
    have hsl0 := hr.slen
    by_cases h1 : 4096 ≤ rest.length
    · have HSP := hide (hsp.out.symm.trans (by rw [wrapB_big h1, ← List.append_assoc]))
      have hol2 := congrArg List.length (wrapB_big h1)
      rw [List.length_append] at hol2
      obtain ⟨s1, hs1, hc1⟩ := run_cut_h hr (j := 4096) (y := 4096) rfl h1
      obtain ⟨s2, hs2, hc2⟩ := run_cut_l hr (i := 4096) (x := 4096) rfl h1
      have hsl2 := hs2.slen
      rw [List.length_drop] at hsl2
      have hl1 : (rest.take 4096).length = 4096 := by rw [List.length_take]; omega
      have hd1 : (4096 : Int) ≤ (rest.length : Int) := by omega
      have hd1b : decide ((4096 : Int) ≤ (rest.length : Int)) = true := decide_eq_true hd1
      have hseal := refSeal hs1
      rw [if_neg (by omega), if_neg (by omega)] at hseal
      have hlen : out.length + (sealB (rest.take 4096)).length ≤ 140737488355328 := by omega
      have hdl : (rest.drop 4096).length ≤ b.length := by rw [List.length_drop]; omega
      have hm : rest.length - 4096 < rest.length := by omega
      clear hol hol2 hs1 hl1 hsp
      go_wp2_with fail
      refine hseal.mono ?_
      rintro e w3 ⟨s3, rfl, hs3, k3⟩
      have hown3 := hown.chg k3 fun _ _ h => h
      have hs2w := hs2.c0 k3
      have hcw3 := hcw.trans0 k3
      have hsz3 := hcw3.size
      clear hseal hr hown hcw k3 hs2
      go_wp2_with (at_builtin; refine append_B rfl _ _ rfl hown3 rfl hs3.rd rfl hlen hsz3 ?_; intro v4 w4 hown4 hg4 hat4)
      have hrow4 : ∀ k, u3.ownBlock = some k → w.heap.size ≤ k := fun k hk => (hown3.lt k hk).1
      have hs4 := hs2w.chg (Chg.of_grown hg4) fun k hk e => by have := hrow4 k e.symm; have := hk.2; omega
      have hcw4 := hcw3.own hg4 hrow4
      go_round
      case rel => exact ⟨_, _, hs4, hown4, hdl, HSP.out.symm |> hide, hcw4⟩
      case measure => rw [hsl2, hsl0]; exact hm
    · have HSP := hide (hsp.out.symm.trans (by rw [wrapB_small h1]))
      have hol2 := congrArg List.length (wrapB_small h1)
      have hd1 : ¬ (4096 : Int) ≤ (rest.length : Int) := by omega
      have hd1b : decide ((4096 : Int) ≤ (rest.length : Int)) = false := decide_eq_false hd1
      have hseal := refSeal hr
      rw [if_neg (by omega), if_neg (by omega)] at hseal
      have hlen : out.length + (sealB rest).length ≤ 140737488355328 := by omega
      clear hol hol2 hsp
      go_wp2_with fail
      refine hseal.mono ?_
      rintro e w3 ⟨s3, rfl, hs3, k3⟩
      have hown3 := hown.chg k3 fun _ _ h => h
      have hcw3 := hcw.trans0 k3
      have hsz3 := hcw3.size
      clear hseal hr hown hcw k3
      go_wp2_with (at_builtin; refine append_B rfl _ _ rfl hown3 rfl hs3.rd rfl hlen hsz3 ?_; intro v4 w4 hown4 hg4 hat4)
      go_ret
      exact ⟨_, rfl, by rw [HSP.out]; exact hown4, hcw3.own hg4 fun k hk => (hown3.lt k hk).1⟩

theorem run_lenr {v : Value} {l : List UInt8} {base : Nat} {w : World} (h : OwnB w base v l) (w' : World) (ty : TypeId) : (Builtin.len_ #[26] ty #[v]).run Try.prog w' = .ok (.int .i64 (l.length : Int)) w' := run_len8 h.rd w' ty
set_option maxRecDepth 100000 in
set_option maxHeartbeats 1000000 in
theorem refUnwrap {u : Value} {b : List UInt8} {F : Nat → Prop} {w : World} (hr : RdB w F u b) (hbl : b.length ≤ 1000000000) :
    Calls Try.prog 36 #[u] w fun e w' => ∃ v, e = .returned (.tuple #[v, .int .i64 (unwN [] b).2]) ∧ OwnB w' w.heap.size v (unwN [] b).1 ∧ Chg Non w w' := by
  have hr0 := hr.lt
  have hlen8 := fun (w' : World) (ty : TypeId) => run_len8 hr w' ty
  clear hr
  go_enter Try.func36, Try.ntmps36
  go_wp2_with fail
  go_loopw [4, 5] (fun ov av wr => ∃ (a : Nat) (done : List UInt8), av = .int .i64 (a : Int) ∧ a ≤ b.length ∧ Hid (done.length ≤ a) ∧ Hid (unwN [] b = unwN done (b.drop a)) ∧ OwnB wr w.heap.size ov done ∧ RdB wr (fun k => F k ∧ k < w.heap.size) u b ∧ Chg Non w wr) (fun _ av _ => b.length - (intOf av).toNat)
  case atStart => exact ⟨0, [], rfl, Nat.zero_le _, hide (Nat.le_refl _), hide (by simp), OwnB.nil_ _ _, hr0, Chg.refl _ _⟩
  case round =>
    clear hr0
    obtain ⟨a, done, rfl, ha, hda, hal, hO, hr, hcw⟩ := hrel
    have hopen := refOpen (at_ := (a : Int)) hr (by omega)
    obtain ⟨x, y, er, hop⟩ : ∃ x y er, openR (b.drop a) = (x, y, er) := ⟨_, _, _, rfl⟩
    by_cases he : er = 0
    · subst he
      obtain ⟨k, e, h8, hk⟩ := openR_rest hop
      have hxl := openR_len hop
      have hA := openA_ok ha hop
      rw [List.length_drop] at hk hxl
      rw [e, List.length_drop, List.length_drop] at hxl
      obtain ⟨a2, ha2⟩ : ∃ a2, a2 = a + k := ⟨_, rfl⟩
      rw [e, List.length_drop, List.length_drop, show (b.length : Int) - ((b.length - a - k : Nat) : Int) = (a2 : Int) by omega] at hA
      rw [hA] at hopen
      simp only [opA] at hopen
      have hyl : y.length = b.length - a2 := by rw [e, List.length_drop, List.length_drop]; omega
      have HFORM := fun h h' => hide (hal.out.trans (unwN_form (done := done) hop h h'))
      have HEND := fun h h' => hide (hal.out.trans (unwN_end (done := done) hop h h'))
      have HOK := fun h => hide (hal.out.trans (unwN_ok (done := done) hop h))
      rw [e, List.drop_drop, ← ha2] at HOK
      have hdl : done.length + x.length ≤ 140737488355328 := by have := hda.out; omega
      have hda2 := hide (show (done ++ x).length ≤ a2 by have := hda.out; simp; omega)
      have hsz := hcw.size
      have hak : a2 ≤ b.length := by omega
      have hk8 := hide (show a + 8 ≤ a2 by omega)
      clear hA hop e hal hda hk hxl ha2
      by_cases h5 : x.length < 4096
      · have hd5 : decide ((x.length : Int) < 4096) = true := decide_eq_true (by omega)
        by_cases h6 : a2 < b.length
        · have HF := HFORM h5 (by omega)
          have hd6 : decide ((a2 : Int) < (b.length : Int)) = true := decide_eq_true (by omega)
          clear HFORM HEND HOK hyl
          go_wp2_with fail
          refine hopen.mono ?_
          rintro e w3 ⟨u3, rfl, hown3, k3⟩
          have hl3 := run_lenr hown3
          have hO3 := hO.chg k3 fun _ _ h => h
          have hr3 := hr.c0 k3
          have hcw3 := hcw.trans0 k3
          have hsz3 := hcw3.size
          clear hopen hO hr hcw k3
          go_wp2_with (at_builtin; refine append_B rfl _ _ rfl hO3 rfl hown3.rd rfl hdl hsz3 ?_; intro v5 w5 hO5 hg5 hat5)
          go_ret2
          rw [HF.out]
          exact ⟨_, rfl, OwnB.nil_ _ _, hcw3.own hg5 fun k hk => (hO3.lt k hk).1⟩
        · have HF := HEND h5 (by omega)
          have hd6 : decide ((a2 : Int) < (b.length : Int)) = false := decide_eq_false (by omega)
          clear HFORM HEND HOK hyl
          go_wp2_with fail
          refine hopen.mono ?_
          rintro e w3 ⟨u3, rfl, hown3, k3⟩
          have hl3 := run_lenr hown3
          have hO3 := hO.chg k3 fun _ _ h => h
          have hr3 := hr.c0 k3
          have hcw3 := hcw.trans0 k3
          have hsz3 := hcw3.size
          clear hopen hO hr hcw k3
          go_wp2_with (at_builtin; refine append_B rfl _ _ rfl hO3 rfl hown3.rd rfl hdl hsz3 ?_; intro v5 w5 hO5 hg5 hat5)
          go_ret2
          rw [HF.out]
          exact ⟨_, rfl, hO5, hcw3.own hg5 fun k hk => (hO3.lt k hk).1⟩
      · have hd5 : decide ((x.length : Int) < 4096) = false := decide_eq_false (by omega)
        have HN := HOK h5
        clear HFORM HEND HOK hyl
        go_wp2_with fail
        refine hopen.mono ?_
        rintro e w3 ⟨u3, rfl, hown3, k3⟩
        have hl3 := run_lenr hown3
        have hO3 := hO.chg k3 fun _ _ h => h
        have hr3 := hr.c0 k3
        have hcw3 := hcw.trans0 k3
        have hsz3 := hcw3.size
        clear hopen hO hr hcw k3
        go_wp2_with (at_builtin; refine append_B rfl _ _ rfl hO3 rfl hown3.rd rfl hdl hsz3 ?_; intro v5 w5 hO5 hg5 hat5)
        have hrow5 : ∀ k, u4.ownBlock = some k → w.heap.size ≤ k := fun k hk => (hO3.lt k hk).1
        have hr5 := hr3.chg (Chg.of_grown hg5) fun j hj e => by have := hrow5 j e.symm; have := hj.2; omega
        have hcw5 := hcw3.own hg5 hrow5
        go_round
        case rel => exact ⟨a2, _, by go_num, hak, hda2, HN, hO5, hr5, hcw5⟩
        case measure => have := hk8.out; simp [intOf]; omega
    · have hA := openA_bad ha hop he
      rw [hA] at hopen
      simp only [opA] at hopen
      have HN := hide (hal.out.trans (unwN_bad hop he))
      have hne : (er != 0) = true := by simp [he]
      clear hA hop he hal hda
      go_wp2_with fail
      refine hopen.mono ?_
      rintro e w3 ⟨u3, rfl, hown3, k3⟩
      go_wp2_with fail
      go_ret2
      rw [HN.out]
      exact ⟨_, rfl, OwnB.nil_ _ _, hcw.trans0 k3⟩
end Go.Proofs.Ytijnfjnkjojjnaa
