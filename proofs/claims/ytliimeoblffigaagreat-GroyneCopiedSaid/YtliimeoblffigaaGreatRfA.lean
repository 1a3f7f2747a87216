/- The walks of the reference's Apply and Same. -/
import Derived.Test.YtliimeoblffigaaGreatRfP
import Derived.Test.YtliimeoblffigaaGreatDgDG
open List renaming getElem_toArray → lz1, getElem_cons_succ → lz2, getElem_cons_zero → lz3, setIfInBounds_toArray → lz4, set_cons_zero → lz5, set_cons_succ → lz6
set_option linter.unusedVariables false
set_option linter.unusedSimpArgs false
set_option maxRecDepth 100000
namespace Go.Proofs.YtliimeoblffigaaGreat
open Go.RowKit Go.Maps
set_option linter.unusedVariables false
set_option linter.unusedSimpArgs false

/-- what the reference's Apply answers -/
def appR (l : List KV) (ws : List WrS) : List KV × Int := if ws.any bigW = true then (l, 2) else (apWs l ws, 0)
theorem appR_big {l : List KV} {ws : List WrS} {k : Nat} (hk : k < ws.length) (h : bigW ws[k] = true) : appR l ws = (l, 2) := by
 unfold appR; rw [if_pos (List.any_eq_true.2 ⟨_, List.getElem_mem hk, h⟩)]
theorem appR_ok {l : List KV} {ws : List WrS} (h : ∀ x ∈ ws, bigW x = false) : appR l ws = (apWs l ws, 0) := by
 unfold appR; rw [if_neg]
 intro e
 obtain ⟨x, hx, hb⟩ := List.any_eq_true.1 e
 rw [h x hx] at hb; cases hb
theorem big_take {ws : List WrS} {k : Nat} (hk : k < ws.length) (h : ∀ x ∈ ws.take k, bigW x = false) (hx : bigW ws[k] = false) : ∀ x ∈ ws.take (k + 1), bigW x = false := fun x hm => by
 rw [List.take_succ_eq_append_getElem hk] at hm
 rcases List.mem_append.1 hm with hm | hm
 ·exact h x hm
 ·rw [List.mem_singleton.1 hm]; exact hx
section
variable {w : World} {F G : Nat → Prop} {v u : Value} {l m : List KV} {ws : List WrS}
set_option maxHeartbeats 16000000 in
theorem refApply (hl : RdE elP w F v l) (hw : RdW w G u ws) (hup : UpL l) (hn : l.length + ws.length ≤ 100000) :
  Calls Tryz.prog 8 #[v, u] w fun e w' => ∃ r, e = .returned (.tuple #[r, .int .i64 (appR l ws).2]) ∧ RdE elP w' (fun b => F b ∨ w.heap.size ≤ b) r (appR l ws).1 ∧ Chg Non w w' := by
 obtain ⟨U, uc, rfl, huc, hum⟩ := hw.shape
 obtain ⟨LA, lc, rfl, _, _⟩ := hl.shape
 unfold maxLen at hum
 have HL := hide hl
 have HW := hide hw
 have HUP := hide hup
 have HN := hide hn
 clear hl hw hup
 go_enter Tryz.func8, Tryz.ntmps8
 go_wp2_with fail
 go_loop [6] (fun i => ∃ k : Nat, k ≤ ws.length ∧ i = .int .i64 (k : Int) ∧ Hid (∀ x ∈ ws.take k, bigW x = false)) (fun i => ws.length - (intOf i).toNat)
 case atStart => exact ⟨0, Nat.zero_le _, rfl, hide (by simp)⟩
 case round =>
  obtain ⟨k, hk, rfl, hb⟩ := hrel
  by_cases hlt : k < ws.length
  ·obtain ⟨ad, a, b, rfl, hf, c0, c1, c2, ra, rb⟩ := HW.out.at_ hlt
   obtain ⟨⟨xa, xb, xf⟩, hx⟩ : ∃ x, x = ws[k] := ⟨_, rfl⟩
   rw [← hx] at ra rb c2
   obtain ⟨AA, ac, rfl, _, _⟩ := ra.shape
   obtain ⟨BA, bc, rfl, _, _⟩ := rb.shape
   have HX := hide hx
   have HLT := hide hlt
   have HC := hide (And.intro ra rb)
   clear hx ra rb
   dsimp only at c2
   by_cases h1 : 64 < xa.length
   ·have e1 : decide ((xa.length : Int) > 64) = true := decide_eq_true (by omega)
    have e2 : decide (64 < (xa.length : Int)) = true := decide_eq_true (by omega)
    have e3 : decide (64 < xa.length) = true := decide_eq_true (by omega)
    go_wp2_with fail
    go_ret2
    rw [appR_big HLT.out (by rw [← HX.out]; simp [bigW, h1])]
    exact ⟨_, rfl, HL.out.mono fun b h => .inl h, Chg.refl _ _⟩
   ·cases xf with
    | true =>
     have e1 : decide ((xa.length : Int) > 64) = false := decide_eq_false (by omega)
     have e2 : decide (64 < (xa.length : Int)) = false := decide_eq_false (by omega)
     have e3 : decide (64 < xa.length) = false := decide_eq_false (by omega)
     go_wp2_with fail
     go_round
     case rel => exact ⟨k + 1, HLT.out, by go_num, hide (big_take HLT.out hb.out (by rw [← HX.out]; simp [bigW, h1]))⟩
     case measure => (have := HLT.out; simp [intOf]; omega)
    | false =>
     by_cases h2 : 128 < xb.length
     ·have e1 : decide ((xa.length : Int) > 64) = false := decide_eq_false (by omega)
      have e2 : decide (64 < (xa.length : Int)) = false := decide_eq_false (by omega)
      have e3 : decide (64 < xa.length) = false := decide_eq_false (by omega)
      have g1 : decide ((xb.length : Int) > 128) = true := decide_eq_true (by omega)
      have g2 : decide (128 < (xb.length : Int)) = true := decide_eq_true (by omega)
      have g3 : decide (128 < xb.length) = true := decide_eq_true (by omega)
      go_wp2_with fail
      go_ret2
      rw [appR_big HLT.out (by rw [← HX.out]; simp [bigW, h2])]
      exact ⟨_, rfl, HL.out.mono fun b h => .inl h, Chg.refl _ _⟩
     ·have e1 : decide ((xa.length : Int) > 64) = false := decide_eq_false (by omega)
      have e2 : decide (64 < (xa.length : Int)) = false := decide_eq_false (by omega)
      have e3 : decide (64 < xa.length) = false := decide_eq_false (by omega)
      have g1 : decide ((xb.length : Int) > 128) = false := decide_eq_false (by omega)
      have g2 : decide (128 < (xb.length : Int)) = false := decide_eq_false (by omega)
      have g3 : decide (128 < xb.length) = false := decide_eq_false (by omega)
      go_wp2_with fail
      go_round
      case rel => exact ⟨k + 1, HLT.out, by go_num, hide (big_take HLT.out hb.out (by rw [← HX.out]; simp [bigW, h1, h2]))⟩
      case measure => (have := HLT.out; simp [intOf]; omega)
  ·have e : k = ws.length := by omega
   subst e
   have HB := hide (show ∀ x ∈ ws, bigW x = false from by rw [← List.take_length (l := ws)]; exact hb.out)
   clear hb hk
   go_wp2_with fail
   go_loopw [0, 7] (fun v0 i wr => ∃ k : Nat, k ≤ ws.length ∧ i = .int .i64 (k : Int) ∧ Hid (RdE elP wr (fun b => F b ∨ w.heap.size ≤ b) v0 (apWs l (ws.take k))) ∧ Hid (Chg Non w wr)) (fun _ i _ => ws.length - (intOf i).toNat)
   case atStart => exact ⟨0, Nat.zero_le _, rfl, hide (HL.out.mono fun b h => .inl h), hide (Chg.refl _ _)⟩
   case round =>
    obtain ⟨k, hk, rfl, hr, hc⟩ := hrel
    by_cases hlt : k < ws.length
    ·obtain ⟨ad, a, b, rfl, hf, c0, c1, c2, ra, rb⟩ := (HW.out.c0 hc.out).at_ hlt
     obtain ⟨AA, ac, rfl, _, _⟩ := ra.shape
     obtain ⟨BA, bc, rfl, _, _⟩ := rb.shape
     have hsm := HB.out _ (List.getElem_mem hlt)
     have htk := apWs_take (l := l) hlt
     obtain ⟨x, hx⟩ : ∃ x, x = ws[k] := ⟨_, rfl⟩
     rw [← hx] at ra rb c2 hsm htk
     have hlen : (apWs l (ws.take k)).length ≤ 1000000 := by
      have h1 := apWs_len (ws.take k) l
      have h2 := List.length_take_le k ws
      have := HN.out
      omega
     have hbg : x.a.length ≤ 64 ∧ (x.f = false → x.b.length ≤ 128) := by
      unfold bigW at hsm
      simp only [Bool.or_eq_false_iff, decide_eq_false_iff_not, Bool.and_eq_false_iff] at hsm
      refine ⟨by omega, fun hf => ?_⟩
      rcases hsm.2 with h | h
      ·rw [hf] at h; cases h
      ·omega
     have hcc := refPut hr.out ra rb hlen (by omega) (fun hf => by have := hbg.2 hf; omega)
     rw [putR_apW (apWs_up HUP.out _), ← htk] at hcc
     obtain ⟨m, hm⟩ : ∃ m, m = apWs l (ws.take (k + 1)) := ⟨_, rfl⟩
     rw [← hm] at hcc
     have HM := hide hm
     obtain ⟨al, hal⟩ : ∃ n, n = x.a.length := ⟨_, rfl⟩
     obtain ⟨bl, hbl⟩ : ∃ n, n = x.b.length := ⟨_, rfl⟩
     rw [← hx, ← hal] at c0
     rw [← hx, ← hbl] at c1
     rw [← hal, ← hbl] at hcc
     have HLT := hide hlt
     have HS := hide hc.out.size
     clear hx hsm htk hlen hbg hr hm ra rb hal hbl
     go_wp2_with (go_at_call 39; refine hcc.mono ?_; rintro e w2 ⟨z, rfl, hO, hc2⟩; obtain ⟨Z, zn, zc, rfl⟩ := hO.shapeH)
     go_roundw
     case rel => exact ⟨k + 1, HLT.out, by go_num, hide (by rw [← HM.out]; exact hO.rd.mono fun b hb => by have := HS.out; rcases hb.1 with (h | h) | h; exact h; exact .inr (by omega); exact .inr (by have := (hO.bl b h).1; omega)), hide (hc.out.trans0 hc2)⟩
     case measure => (have := HLT.out; simp [intOf]; omega)
    ·have e : k = ws.length := by omega
     subst e
     have hr2 := hr.out
     rw [List.take_length] at hr2
     obtain ⟨A0, c0, rfl, _, _⟩ := hr2.shape
     have HR := hide hr2
     clear hr2 hr
     go_wp2_with fail
     go_ret2
     rw [appR_ok HB.out]
     exact ⟨_, rfl, HR.out, hc.out⟩

set_option maxHeartbeats 4000000 in
theorem refSameT (ha : RdE elP w F v l) (hb : RdE elP w G u l) :
  Calls Tryz.prog 16 #[v, u] w fun e w' => e = .returned (.bool true) ∧ ∃ n, w' = w.drewN n := by
 obtain ⟨A, c, rfl, hc, hm⟩ := ha.shape
 obtain ⟨B, d, rfl, hd, hn⟩ := hb.shape
 unfold maxLen at hm hn
 have he : ((l.length : Int) != (l.length : Int)) = false := by simp
 go_enter Tryz.func16, Tryz.ntmps16
 go_wp2_with fail
 go_loopw [5] (fun iv wr => ∃ (k : Nat), k ≤ l.length ∧ iv = .int .i64 k ∧ Quiet w wr) (fun iv _ => l.length - (intOf iv).toNat)
 case atStart => exact ⟨0, Nat.zero_le _, rfl, ⟨0, rfl⟩⟩
 case round =>
  obtain ⟨k, hk, rfl, hq⟩ := hrel
  have hcq := (Chg.refl Non w).quiet hq
  by_cases h1 : k < l.length
  ·obtain ⟨ad, P, pn, pc, Q, qn, qc, rfl, _, a1, a2, rp, rr⟩ := (ha.c0 hcq).pair h1
   obtain ⟨bd, P2, pn2, pc2, Q2, qn2, qc2, rfl, _, b1, b2, rp2, rr2⟩ := (hb.c0 hcq).pair h1
   have hcall1 := fun (j : Nat) => (refEqual_true (rp.dn j) (rp2.dn j))
   have hcall2 := fun (j : Nat) => (refEqual_true (rr.dn j) (rr2.dn j))
   have h1i : (k : Int) < (l.length : Int) := by omega
   have h0i : (0 : Int) ≤ (k : Int) := by omega
   clear rp rr rp2 rr2
   go_wp2_with fail
   go_quiet ((go_at_call 54; first | exact Calls.quiet_of (hcall1 _) | exact Calls.quiet_of (hcall2 _)))
   go_wp2_with fail
   go_roundw
   case rel => exact ⟨k + 1, by omega, by go_num, hq.dn _⟩
   case measure => simp [intOf]; omega
  ·go_wp2_with fail
   go_ret
   exact ⟨rfl, hq⟩

theorem info_W : (Tryz.prog.info? 86).map (fun i => (i.zero, i.size, i.bytes)) = some (some (.agg #[.slice none 0 0, .slice none 0 0, .bool false]), 3, 56) := by kernel_rfl
/-- key, value, and whether it is gone -/
def elW : El (Value × Value) WrS where
 sz := 3
 pos := by omega
 cells := fun x a => [x.1, x.2, .bool a.f]
 len := fun _ _ => rfl
 rd := fun w F x a => RdB w F x.1 a.a ∧ RdB w F x.2 a.b
 mono := fun h hF => ⟨h.1.mono hF, h.2.mono hF⟩
 chg := fun h hc hF => ⟨h.1.chg hc hF, h.2.chg hc hF⟩
 lt := fun h => ⟨h.1.lt, h.2.lt⟩
 one := fun h y hy => by
  obtain ⟨A, c, e, _, _⟩ := h.1.shape
  obtain ⟨B, d, f, _, _⟩ := h.2.shape
  simp at hy
  rcases hy with rfl | rfl | rfl
  ·rw [e]; rfl
  ·rw [f]; rfl
  ·rfl
theorem slW : SlT elW Tryz.prog 22 86 := ⟨Tryz.underlying22, by
 obtain ⟨i, hi, hz, h1, h2⟩ := info_parts info_W
 exact ⟨i, _, hi, hz, h1, by omega, rfl⟩⟩
theorem RdE.toW (h : RdE elW w F v ws) : RdW w F v ws := h
theorem RdW.toE (h : RdW w F v ws) : RdE elW w F v ws := h
set_option maxHeartbeats 16000000 in
theorem refTwins (hw : RdW w G u ws) (hs : ∀ x ∈ ws, x.a.length ≤ 140737488355328 ∧ x.b.length ≤ 140737488355328) (hn : ws.length ≤ 100000) :
  Calls Tryz.prog 19 #[u] w fun e w' => ∃ r, e = .returned r ∧ OwnE elW 86 w' w.heap.size (fun b => w.heap.size ≤ b) r ws ∧ Chg Non w w' := by
 obtain ⟨U, uc, rfl, huc, hum⟩ := hw.shape
 unfold maxLen at hum
 have HW := hide hw
 have HS := hide hs
 have HN := hide hn
 clear hw hs
 go_enter Tryz.func19, Tryz.ntmps19
 go_wp2_with fail
 go_loopw [3, 4] (fun out i wr => ∃ k : Nat, k ≤ ws.length ∧ i = .int .i64 (k : Int) ∧ Hid (OwnE elW 86 wr w.heap.size (fun b => w.heap.size ≤ b) out (ws.take k)) ∧ Hid (Chg Non w wr)) (fun _ i _ => ws.length - (intOf i).toNat)
 case atStart => exact ⟨0, Nat.zero_le _, rfl, hide (by rw [List.take_zero]; exact OwnE.nil_ _ _ _ _ _), hide (Chg.refl _ _)⟩
 case round =>
  obtain ⟨k, hk, rfl, hO, hc⟩ := hrel
  rename Value => out
  obtain ⟨OA, on, oc, rfl⟩ := hO.out.shapeH
  by_cases hlt : k < ws.length
  ·obtain ⟨ad, a, b, rfl, hf, c0, c1, c2, ra, rb⟩ := (HW.out.c0 hc.out).at_ hlt
   obtain ⟨AA, ac, rfl, _, _⟩ := ra.shape
   obtain ⟨BA, bc, rfl, _, _⟩ := rb.shape
   have hsz := HS.out _ (List.getElem_mem hlt)
   have htk := List.take_succ_eq_append_getElem hlt
   have hol : (ws.take k).length ≤ 100000 := by rw [List.length_take]; omega
   obtain ⟨x, hx⟩ : ∃ x, x = ws[k] := ⟨_, rfl⟩
   rw [← hx] at ra rb c0 c1 c2 hsz htk
   obtain ⟨al, hal⟩ : ∃ n, n = x.a.length := ⟨_, rfl⟩
   obtain ⟨bl, hbl⟩ : ∃ n, n = x.b.length := ⟨_, rfl⟩
   obtain ⟨xf, hxf⟩ : ∃ n, n = x.f := ⟨_, rfl⟩
   rw [← hal] at c0 ra
   rw [← hbl] at c1 rb
   rw [← hxf] at c2
   obtain ⟨lk, hlk⟩ : ∃ lk, lk = ws.take k := ⟨_, rfl⟩
   rw [← hlk] at hO hol htk
   have HTK := hide htk
   have HX := hide (And.intro ra (And.intro rb hsz))
   have HXF := hide hxf
   have C0 := hide (And.intro c0 (And.intro c1 c2))
   have HLT := hide (show k + 1 ≤ ws.length from hlt)
   have HOL := hide hol
   clear htk ra rb hsz hx hxf hal hbl hlk c0 c1 c2 hol
   go_upto_region 5 with fail
   refine wp_region_T (Chg Non wr) 20 (by kernel_rfl) ?_
   have HW0 := hide ((Chg.refl Non wr).drew)
   generalize World.drew wr = x0 at HW0 ⊢
   refine AnyT.takeM (i := 0) (v := ?_) rfl (by kernel_rfl) (by kernel_rfl) (fun _ _ _ h => h) (by kernel_rfl) (by kernel_rfl) (Or.inl ⟨by rfl, ?_⟩) HW0.out ?_
   rotate_left
   ·(intro w9 h9; go_simp; try with_reducible rfl)
   try simp only [lz1, lz2, lz3, Act.put, lz4, lz5, lz6]
   refine AnyT.takeM (i := 1) (v := ?_) rfl (by kernel_rfl) (by kernel_rfl) (fun _ _ _ h => h) (by kernel_rfl) (by kernel_rfl) (Or.inl ⟨by rfl, ?_⟩) HW0.out ?_
   rotate_left
   ·(intro w9 h9; go_simp; try with_reducible rfl)
   try simp only [lz1, lz2, lz3, Act.put, lz4, lz5, lz6]
   refine AnyT.takeM (i := 2) (v := ?_) rfl (by kernel_rfl) (by kernel_rfl) (fun _ _ _ h => h) (by kernel_rfl) (by kernel_rfl) (Or.inl ⟨by rfl, ?_⟩) HW0.out ?_
   rotate_left
   ·(intro w9 h9; go_simp; try with_reducible rfl)
   try simp only [lz1, lz2, lz3, Act.put, lz4, lz5, lz6]
   refine AnyT.takeM (i := 3) (v := ?_) rfl (by kernel_rfl) (by kernel_rfl) (fun _ _ _ h => h) (by kernel_rfl) (by kernel_rfl) (Or.inl ⟨by rfl, ?_⟩) HW0.out ?_
   rotate_left
   ·(intro w9 h9; go_simp; try with_reducible rfl)
   try simp only [lz1, lz2, lz3, Act.put, lz4, lz5, lz6]
   refine AnyT.takeM (i := 4) (v := ?_) rfl (by kernel_rfl) (by kernel_rfl) (fun _ _ _ h => h) (by kernel_rfl) (by kernel_rfl) (Or.inl ⟨by rfl, ?_⟩) HW0.out ?_
   rotate_left
   ·(intro w9 h9; go_simp; try with_reducible rfl)
   try simp only [lz1, lz2, lz3, Act.put, lz4, lz5, lz6]
   refine AnyT.takeM (i := 5) (v := ?_) rfl (by kernel_rfl) (by kernel_rfl) (fun _ _ _ h => h) (by kernel_rfl) (by kernel_rfl) (Or.inl ⟨by rfl, ?_⟩) HW0.out ?_
   rotate_left
   ·(intro w9 h9; have y0 := h9.cell C0.out.1 (fun h => h); go_simp; try with_reducible rfl)
   try simp only [lz1, lz2, lz3, Act.put, lz4, lz5, lz6]
   refine AnyT.takeM (i := 7) (v := ?_) rfl (by kernel_rfl) (by kernel_rfl) (fun _ _ _ h => h) (by kernel_rfl) (by kernel_rfl) (Or.inl ⟨by rfl, ?_⟩) HW0.out ?_
   rotate_left
   ·(intro w9 h9; go_simp; try with_reducible rfl)
   try simp only [lz1, lz2, lz3, Act.put, lz4, lz5, lz6]
   refine AnyT.takeM (i := 8) (v := ?_) rfl (by kernel_rfl) (by kernel_rfl) (fun _ _ _ h => h) (by kernel_rfl) (by kernel_rfl) (Or.inl ⟨by rfl, ?_⟩) HW0.out ?_
   rotate_left
   ·(intro w9 h9; go_simp; try with_reducible rfl)
   try simp only [lz1, lz2, lz3, Act.put, lz4, lz5, lz6]
   refine AnyT.takeM (i := 9) (v := ?_) rfl (by kernel_rfl) (by kernel_rfl) (fun _ _ _ h => h) (by kernel_rfl) (by kernel_rfl) (Or.inl ⟨by rfl, ?_⟩) HW0.out ?_
   rotate_left
   ·(intro w9 h9; go_simp; try with_reducible rfl)
   try simp only [lz1, lz2, lz3, Act.put, lz4, lz5, lz6]
   refine AnyT.takeM (i := 10) (v := ?_) rfl (by kernel_rfl) (by kernel_rfl) (fun _ _ _ h => h) (by kernel_rfl) (by kernel_rfl) (Or.inl ⟨by rfl, ?_⟩) HW0.out ?_
   rotate_left
   ·(intro w9 h9; go_simp; try with_reducible rfl)
   try simp only [lz1, lz2, lz3, Act.put, lz4, lz5, lz6]
   refine AnyT.takeM (i := 11) (v := ?_) rfl (by kernel_rfl) (by kernel_rfl) (fun _ _ _ h => h) (by kernel_rfl) (by kernel_rfl) (Or.inl ⟨by rfl, ?_⟩) HW0.out ?_
   rotate_left
   ·(intro w9 h9; have y0 := h9.cell C0.out.2.1 (fun h => h); go_simp; try with_reducible rfl)
   try simp only [lz1, lz2, lz3, Act.put, lz4, lz5, lz6]
   refine AnyT.takeM (i := 13) (v := ?_) rfl (by kernel_rfl) (by kernel_rfl) (fun _ _ _ h => h) (by kernel_rfl) (by kernel_rfl) (Or.inl ⟨by rfl, ?_⟩) HW0.out ?_
   rotate_left
   ·(intro w9 h9; go_simp; try with_reducible rfl)
   try simp only [lz1, lz2, lz3, Act.put, lz4, lz5, lz6]
   refine AnyT.takeM (i := 14) (v := ?_) rfl (by kernel_rfl) (by kernel_rfl) (fun _ _ _ h => h) (by kernel_rfl) (by kernel_rfl) (Or.inl ⟨by rfl, ?_⟩) HW0.out ?_
   rotate_left
   ·(intro w9 h9; go_simp; try with_reducible rfl)
   try simp only [lz1, lz2, lz3, Act.put, lz4, lz5, lz6]
   refine AnyT.takeM (i := 15) (v := ?_) rfl (by kernel_rfl) (by kernel_rfl) (fun _ _ _ h => h) (by kernel_rfl) (by kernel_rfl) (Or.inl ⟨by rfl, ?_⟩) HW0.out ?_
   rotate_left
   ·(intro w9 h9; go_simp; try with_reducible rfl)
   try simp only [lz1, lz2, lz3, Act.put, lz4, lz5, lz6]
   refine AnyT.takeM (i := 16) (v := ?_) rfl (by kernel_rfl) (by kernel_rfl) (fun _ _ _ h => h) (by kernel_rfl) (by kernel_rfl) (Or.inl ⟨by rfl, ?_⟩) HW0.out ?_
   rotate_left
   ·(intro w9 h9; go_simp; try with_reducible rfl)
   try simp only [lz1, lz2, lz3, Act.put, lz4, lz5, lz6]
   refine AnyT.takeM (i := 17) (v := ?_) rfl (by kernel_rfl) (by kernel_rfl) (fun _ _ _ h => h) (by kernel_rfl) (by kernel_rfl) (Or.inl ⟨by rfl, ?_⟩) HW0.out ?_
   rotate_left
   ·(intro w9 h9; have y0 := h9.cell C0.out.2.2 (fun h => h); go_simp; try with_reducible rfl)
   try simp only [lz1, lz2, lz3, Act.put, lz4, lz5, lz6]
   refine AnyT.one (i := 6) (by kernel_rfl) rfl (fun K hK => ?_)
   rw [if_pos (by rfl)]
   try simp only [lz1, lz2, lz3, Act.put, lz4, lz5, lz6]
   have hcc := refCopy (HX.out.1.c0 HW0.out) HX.out.2.2.1
   go_wp2_with (go_at_call 47; refine hcc.mono ?_; rintro e x1 ⟨u9, rfl, hu, hc9⟩)
   obtain ⟨UA, un, uc2, rfl⟩ := hu.shapeH
   have HW1 := hide (HW0.out.trans0 hc9)
   refine hK.out _ _ (fun _ => HW1.out) ?_
   have HU1 := hide (And.intro hu HW0.out.size)
   clear hcc hu hc9
   clear hK K
   try simp only [lz1, lz2, lz3, Act.put, lz4, lz5, lz6]
   refine AnyT.one (i := 12) (by kernel_rfl) rfl (fun K hK => ?_)
   rw [if_pos (by rfl)]
   try simp only [lz1, lz2, lz3, Act.put, lz4, lz5, lz6]
   have hcc := refCopy (HX.out.2.1.c0 HW1.out) HX.out.2.2.2
   go_wp2_with (go_at_call 47; refine hcc.mono ?_; rintro e x2 ⟨u9, rfl, hu, hc9⟩)
   obtain ⟨VA, vn, vc, rfl⟩ := hu.shapeH
   have HW2 := hide (HW1.out.trans0 hc9)
   refine hK.out _ _ (fun _ => HW2.out) ?_
   have HU2 := hide (And.intro hu (And.intro (HU1.out.1.chg hc9 fun _ _ h => h) (And.intro HU1.out.2 HW1.out.size)))
   clear hcc hu hc9
   clear hK K
   try simp only [lz1, lz2, lz3, Act.put, lz4, lz5, lz6]
   refine AnyT.takeM (i := 18) (v := ?_) rfl (by kernel_rfl) (by kernel_rfl) (fun _ _ _ h => h) (by kernel_rfl) (by kernel_rfl) (Or.inl ⟨by rfl, ?_⟩) HW2.out ?_
   rotate_left
   ·(intro w9 h9; go_simp; try with_reducible rfl)
   try simp only [lz1, lz2, lz3, Act.put, lz4, lz5, lz6]
   refine AnyT.one (i := 19) (by kernel_rfl) rfl (fun K hK => ?_)
   rw [if_pos (by rfl)]
   try simp only [lz1, lz2, lz3, Act.put, lz4, lz5, lz6]
   go_simp
   have hd3 := (Chg.refl Non x2).alloc (.cells #[.slice UA un uc2, .slice VA vn vc, .bool xf] 86)
   have hb3 := Blk.new x2 86 #[.slice UA un uc2, .slice VA vn vc, .bool xf]
   obtain ⟨ghb3, hghb3⟩ : ∃ g, g = x2.heap.size := ⟨_, rfl⟩
   rw [← hghb3] at hb3 ⊢
   generalize hww : World.alloc x2 _ = x3
   rw [show x2.alloc (.cells #[.slice UA un uc2, .slice VA vn vc, .bool xf] 86) = x3 from hww] at hd3 hb3
   have HGhb3 := hide hghb3
   clear hww hghb3
   have HW3 := hide (HW2.out.trans0 hd3)
   refine hK.out _ _ (fun _ => HW3.out) ?_
   clear hK K
   try simp only [lz1, lz2, lz3, Act.put, lz4, lz5, lz6]
   refine AnyT.one (i := 20) (by kernel_rfl) rfl (fun K hK => ?_)
   rw [if_pos (by rfl)]
   try simp only [lz1, lz2, lz3, Act.put, lz4, lz5, lz6]
   have hrd : RdB x3 (fun b => w.heap.size ≤ b ∧ b < x3.heap.size ∧ (Value.slice OA on oc).ownBlock ≠ some b) (.slice UA un uc2) x.a ∧ RdB x3 (fun b => w.heap.size ≤ b ∧ b < x3.heap.size ∧ (Value.slice OA on oc).ownBlock ≠ some b) (.slice VA vn vc) x.b := by
    have h1 := HU2.out.2.2
    have h3 := hd3.size
    have h4 := hO.out.bl
    have h6 := hc.out.size
    exact ⟨(HU2.out.2.1.rdB.c0 hd3).mono fun b hb => ⟨by omega, by omega, fun e => by have := (h4 b e).2; omega⟩, (HU2.out.1.rdB.c0 hd3).mono fun b hb => ⟨by omega, by omega, fun e => by have := (h4 b e).2; omega⟩⟩
   refine oper_E slW _ _ rfl (hO.out.c0 HW3.out) rfl (u := (.slice UA un uc2, .slice VA vn vc)) (y := x) hrd (by rw [HXF.out]; rfl) hb3 rfl (by have := HOL.out; omega) (by have := hc.out.size; have := HW3.out.size; omega) ?_
   intro v4 x4 hO4 hg4 hat4
   obtain ⟨VB, vbn, vbc, rfl⟩ := hO4.shapeH
   have HO4 := hide hO4
   have HW4 := hide ((hc.out.trans0 HW3.out).trans (Chg.of_grown hg4) fun b hb e => by have := (hO.out.bl b e.symm).1; omega)
   refine hK.out _ _ (fun h => absurd h (by decide)) ?_
   clear hrd hb3 hd3 hO4 hg4 hat4
   clear hK K
   try simp only [lz1, lz2, lz3, Act.put, lz4, lz5, lz6]
   refine AnyT.takeL (i := 21) (v := ?_) rfl (by kernel_rfl) (by kernel_rfl) (fun _ _ _ h => h) (by kernel_rfl) (by kernel_rfl) (Or.inl ⟨by rfl, ?_⟩) ?_
   rotate_left
   ·(intro w9; go_simp; try with_reducible rfl)
   try simp only [lz1, lz2, lz3, Act.put, lz4, lz5, lz6]
   refine AnyT.nil (by kernel_rfl) ?_
   go_wp2_with fail
   go_roundw
   case rel => exact ⟨k + 1, HLT.out, by go_num, hide (by rw [HTK.out]; exact HO4.out), HW4⟩
   case measure => (have := HLT.out; simp [intOf]; omega)
  ·have e : k = ws.length := by omega
   subst e
   rw [List.take_length] at hO
   go_wp2_with fail
   go_ret
   exact ⟨_, rfl, hO.out, hc.out⟩
end
end Go.Proofs.YtliimeoblffigaaGreat

