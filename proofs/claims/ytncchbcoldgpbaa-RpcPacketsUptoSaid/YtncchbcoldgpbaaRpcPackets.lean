/- RpcPackets: every packet is written and read back, with just what its kind uses, and whatever is read is a packet's bytes: for every input within the statement's size the statement's function answers true. -/
import Derived.Test.YtncchbcoldgpbaaSentG
import Derived.Test.YtncchbcoldgpbaaClM
namespace Go.Proofs.Ytncchbcoldgpbaa.rpcPackets
open Go.ChangeShapes Go.WideShapes Go.ChangeAt Go.RowKit Go.Deep
set_option linter.unusedVariables false
set_option linter.unusedSimpArgs false

theorem senRd_chg {w w' : World} {F S : Nat → Prop} {x : SenS} {vo vr v1 v2 v3 : Value} (h : SenRd w F x vo vr v1 v2 v3) (hc : Chg S w w') (hF : ∀ k, F k → ¬ S k) : SenRd w' F x vo vr v1 v2 v3 :=
  { h with ops := h.ops.chg hc hF, rep := h.rep.chg hc hF, rows := h.rows.chg hc hF, ws := h.ws.chg hc hF, nrep := h.nrep.chg hc hF }
theorem senA_one {w : World} {F : Nat → Prop} {x : SenS} {vo vr v1 v2 v3 : Value} (h : SenRd w F x vo vr v1 v2 v3) : (senA x vo vr v1 v2 v3).all (·.oneCell') = true := by
  obtain ⟨A, an, ac, rfl⟩ := h.ops.sl_
  obtain ⟨B, bn, bc, rfl⟩ := h.rep.sl_
  obtain ⟨R, rn, rc, rfl⟩ := h.rows.sl
  obtain ⟨V, vn, vc, rfl⟩ := h.ws.sl_
  obtain ⟨P, pn, pc, rfl⟩ := h.nrep.sl_
  simp [senA, Value.oneCell']
theorem read_same {v : Value} {b : List UInt8} {F : Nat → Prop} {w : World} {c0 : PktT} (hr : RdB w F v b) (hl : b.length ≤ 100000000) (hy : b = sealB (EPkt c0)) (hlen : (EPkt c0).length ≤ 1048576) (hD : DPkt c0) :
    Calls Try.prog 10 #[v] w fun e w' => Chg Non w w' ∧ ∃ v1 v2 v3 : Value, e = .returned (.tuple #[.agg (pktA c0.1 c0.2.1 c0.2.2 v1 v2 v3), .int .i64 0]) ∧ PayV w' w.heap.size v1 v2 v3 c0.2.2 := by
  refine (rpcRead2 hr hl).mono ?_
  rintro e w' ⟨hc, h⟩
  rcases h with ⟨fr, tt, p, q1, q2, q3, rfl, hV, _, hb, hbl, hone⟩ | ⟨er, her, rfl, hno⟩
  · have h0 := hone c0 hD hlen hy
    subst h0
    exact ⟨hc, q1, q2, q3, rfl, hV⟩
  · exact absurd hy (hno c0 hD hlen)
theorem read_some {v : Value} {b : List UInt8} {F : Nat → Prop} {w : World} (hr : RdB w F v b) (hl : b.length ≤ 100000000) :
    Calls Try.prog 10 #[v] w fun e w' => Chg Non w w' ∧ ∃ (arr : Array Value) (er : Int), e = .returned (.tuple #[.agg arr, .int .i64 er]) ∧ arr.size = 65 ∧ arr.all (·.oneCell') = true ∧
      ((er = 0 ∧ ∃ (fr tt : Nat) (p : Pay) (v1 v2 v3 : Value), arr = pktA fr tt p v1 v2 v3 ∧ PayV w' w.heap.size v1 v2 v3 p ∧ DPkt (fr, tt, p) ∧ b = sealB (pktB fr tt p) ∧ (pktB fr tt p).length ≤ 1048576) ∨ (er ≠ 0 ∧ arr = zeroP)) := by
  refine (rpcRead hr hl).mono ?_
  rintro e w' ⟨hc, h⟩
  rcases h with ⟨fr, tt, p, q1, q2, q3, rfl, hV, hD, hb, hbl⟩ | ⟨er, her, rfl, hno⟩
  · exact ⟨hc, _, 0, rfl, pktA_size fr tt p q1 q2 q3, pktA_one (fr := fr) (tt := tt) hV, .inl ⟨rfl, fr, tt, p, q1, q2, q3, rfl, hV, hD, hb, hbl⟩⟩
  · exact ⟨hc, _, er, rfl, zeroP_size, zeroP_one, .inr ⟨her, rfl⟩⟩
/-- a packet that was read has the bytes that it was read from -/
theorem bytes_back {fr tt base : Nat} {p : Pay} {v1 v2 v3 : Value} {w : World} (hV : PayV w base v1 v2 v3 p) (hD : DPkt (fr, tt, p)) (hs : (pktB fr tt p).length ≤ 1048576) :
    Calls Try.prog 9 #[.agg (pktA fr tt p v1 v2 v3)] w fun e w' => ∃ v' : Value, e = .returned (.tuple #[v', .int .i64 0]) ∧ OwnB w' w.heap.size v' (sealB (pktB fr tt p)) ∧ Chg Non w w' := by
  obtain ⟨a1, a2, b1, b2, b3, c5, r7, hfl, hRd⟩ := pktA_flat (fr := fr) (tt := tt) hV
  have hle : (payB p).length ≤ 1048576 := by simp only [pktB, List.length_append] at hs; omega
  refine (pktBytes (vs := pktA fr tt p v1 v2 v3) (p := p) (fun k hk => hk.2) (fun w' b hc hB => flat_at (by rw [← hfl]; exact hB) (hRd.chg hc fun _ _ h => h) hD hs) (by omega)).mono ?_
  rintro e w' ⟨v', rfl, hu, hc⟩
  rw [if_neg (by omega)] at hu
  exact ⟨v', by rw [if_neg (by omega)], hu, hc⟩

set_option maxHeartbeats 32000000 in
set_option maxRecDepth 100000 in
theorem walk {W : World} {x0 : SenS} {va vb vc vd ve v1 : Value} {b : List UInt8} (wf0 : SenWf x0) (hb : RdB W (fun k => k < W.heap.size) v1 b) (hS : SenRd W (fun k => k < W.heap.size) x0 va vb vc vd ve ∧ SenZ x0) (sb : b.length ≤ 1048576) :
    Calls Try.prog 3 #[.agg (senA x0 va vb vc vd ve), v1] W fun e W' => e = .returned (.bool true) ∧ Chg Non W W' := by
  obtain ⟨hR, z0⟩ := hS
  have HWF := hide (And.intro wf0 (And.intro z0 hR))
  clear wf0 z0
  have hX := Blk.new W 36 (senA x0 va vb vc vd ve)
  have hcA := (Chg.refl Non W).alloc (.cells (senA x0 va vb vc vd ve) 36)
  go_enter Try.func3, Try.ntmps3
  go_upto_region 1 with fail
  obtain ⟨p, hp⟩ : ∃ p, p = W.heap.size := ⟨_, rfl⟩
  rw [← hp] at hX ⊢
  have HP := hide hp
  clear hp
  generalize hw0 : World.alloc W _ = w0
  rw [show W.alloc (.cells (senA x0 va vb vc vd ve) 36) = w0 from hw0] at hX hcA
  clear hw0
  go_upto_region 3 with (go_at_call 6; refine awake23.mono ?_; rintro e w1 ⟨rfl, g1⟩)
  have hX1 := hX.c0 g1
  have hR1 := HWF.out.2.2.c0 (hcA.trans0 g1)
  have hg1 := hcA.trans0 g1
  have hs1 := senA_size x0 va vb vc vd ve
  clear hX hcA g1 hR
  go_upto_region 4 with (first
    | (refine wpList_load_row rfl 36 (.tmp 2) rfl p rfl 36 (senA x0 va vb vc vd ve) (0, 0) _ hX1 Try.underlying36 rfl (by rw [hs1]; exact info_sen) ?_)
    | (go_at_call 7; refine (sentLight hR1).mono ?_; rintro e w2 ⟨va', vb', vc', rfl, hR2, hc2⟩; have hone := senA_one hR2)
    | (refine wpList_plain rfl fun _ hK => wp_store_any info_sen (.tmp 2) (.tmp 14) rfl p (senA (lightS x0) va' vb' vc' vd ve) rfl rfl (senA x0 va vb vc vd ve) (hX1.c0 hc2) rfl rfl hone fun w3 hX3 hc3 => hK _ _ ?_))
  have hg3 : Chg Non W w3 := (hg1.trans0 hc2).trans hc3 fun k hk e => by have := HP.out; omega
  have hFp : ∀ k, k < W.heap.size → k ≠ p := fun k hk e => by have := HP.out; omega
  have hR3 : SenRd w3 (fun k => k < W.heap.size) (lightS x0) va' vb' vc' vd ve := senRd_chg hR2 hc3 hFp
  have hwx : SenWf (lightS x0) := lightWf HWF.out.1
  have hzx : SenZ (lightS x0) := lightZ HWF.out.2.1
  clear hX1 hR1 hg1 hs1 hR2 hc2 hone hc3 hFp HWF
  obtain ⟨x, hx⟩ : ∃ x, x = lightS x0 := ⟨_, rfl⟩
  rw [← hx] at hX3 hR3 hwx hzx ⊢
  clear hx
  have hs3 := senA_size x va' vb' vc' vd ve
  have hpl := hX3.lt
  have HWZ := hide (And.intro hwx hzx)
  clear hwx hzx
  go_upto_region 5 with (first
    | (refine wpList_load_row rfl 36 (.tmp 2) rfl p rfl 36 (senA x va' vb' vc' vd ve) (0, 0) _ hX3 Try.underlying36 rfl (by rw [hs3]; exact info_sen) ?_)
    | (go_at_call 8; refine (senPacket hR3 (fun k hk => by have := hg3.size; omega)).mono ?_; rintro e w4 ⟨G, o1, o2, n1, n2, n3, u4, u5, rfl, hA, hN, hC, hG, hc4⟩)
    | (go_at_call 9; refine (sentBytes hA hN hC (fun k hk => (hG k hk).2) HWZ.out.1 HWZ.out.2).mono ?_; rintro e w5 ⟨hc5, v', er, y, rfl, hv, hcase⟩))
  have hg5 := (hg3.trans0 hc4).trans0 hc5
  have hX5 := (hX3.c0 hc4).c0 hc5
  have hR5 := hR3.c0 (hc4.trans0 hc5)
  have hs5 := hg5.size
  have hv2 := hv.rd
  clear hX3 hR3 hg3 hs3 hA hN hC hG hc4 hc5
  have y0 : w5.cell? ⟨p, 0, none⟩ = some (.int .i64 x.kind) := hX5.cell 0
  go_upto_region 5 with fail
  obtain ⟨kb, hkb⟩ : ∃ kb : Bool, kb = true ↔ (x.kind < 1 ∨ 11 < x.kind) := ⟨decide (x.kind < 1 ∨ 11 < x.kind), decide_eq_true_iff⟩
  have HKB := hide hkb
  clear hkb
  go_cut [28] from 21 (fun v wx => v = .bool kb ∧ wx = w5)
  case first =>
    by_cases h1 : x.kind < 1
    · have hM := hide (show kb = true from HKB.out.2 (.inl h1))
      have d1 : decide (x.kind < 1) = true := decide_eq_true h1
      go_wp2_with fail
      go_meet
      case rel => rw [hM.out]; exact ⟨rfl, rfl⟩
    · have d1 : decide (x.kind < 1) = false := decide_eq_false h1
      by_cases h2 : 11 < x.kind
      · have hM := hide (show kb = true from HKB.out.2 (.inr h2))
        have d2 : decide (11 < x.kind) = true := decide_eq_true h2
        go_wp2_with fail
        go_meet
        case rel => rw [hM.out]; exact ⟨rfl, rfl⟩
      · have hM := hide (show kb = false by cases hh : kb; rfl; exact absurd (HKB.out.1 hh) (by omega))
        have d2 : decide (11 < x.kind) = false := decide_eq_false h2
        go_wp2_with fail
        go_meet
        case rel => rw [hM.out]; exact ⟨rfl, rfl⟩
  case rest =>
  obtain ⟨rfl, hq⟩ := hcut
  replace hq := hq.symm
  subst hq
  go_upto_if 28 with fail
  go_cut [24] from 29 (fun vv wx => Chg Non W wx)
  case first =>
    rcases hcase with ⟨hk, rfl, rfl⟩ | ⟨⟨hk1, hk2⟩, rfl, rfl, hlen⟩ | ⟨⟨hk1, hk2⟩, rfl, hy, hlen⟩
    · obtain ⟨A, n, c, rfl⟩ : ∃ A m c, v' = .slice A m c := hv2.sl_
      have hn : n = 0 := by obtain ⟨A', c', e, _⟩ := hv2.shape; injection e
      subst hn
      have hkt : kb = true := HKB.out.2 hk
      subst hkt
      go_wp2_with fail
      go_meet
      exact hg5
    · have hkf : kb = false := by cases hh : kb; rfl; exact absurd (HKB.out.1 hh) (by omega)
      subst hkf
      go_wp2_with fail
      go_meet
      exact hg5
    · have hkf : kb = false := by cases hh : kb; rfl; exact absurd (HKB.out.1 hh) (by omega)
      subst hkf
      have hyl : y.length ≤ 2000000 := by rw [hy, sealB_length]; omega
      have HRS := hide (read_same (c0 := (x.fr, x.tt, payS x)) hv2 (by omega) hy hlen (payS_D HWZ.out.1 HWZ.out.2 hk1 hk2))
      have HK := hide (And.intro hk1 hk2)
      clear hy hlen hyl hk1 hk2
      go_upto_region 10 with (first
        | (go_at_call 10; refine HRS.out.mono ?_; rintro e w6 ⟨hc6, q1, q2, q3, rfl, hV⟩; have hZ := Blk.new w6 63 zeroP; have hcZ := (Chg.refl Non w6).alloc (.cells zeroP 63); have hone := pktA_one (fr := x.fr) (tt := x.tt) hV; have hsz := pktA_size x.fr x.tt (payS x) q1 q2 q3)
        | (refine wpList_store_pkt rfl (.tmp 7) (.tmp 41) rfl w6.heap.size (pktA x.fr x.tt (payS x) q1 q2 q3) rfl rfl _ hZ zeroP_size hsz hone fun w7 hP7 hc7 => ?_))
      have hs6 := hc6.size
      obtain ⟨g, hg⟩ : ∃ g, g = w6.heap.size := ⟨_, rfl⟩
      rw [← hg] at hP7 hc7 ⊢
      have hX7 := ((hX5.c0 hc6).c0 hcZ).chg hc7 (fun e => by have := hX5.lt; omega)
      have hg7 : Chg Non W w7 := ((hg5.trans0 hc6).trans0 hcZ).trans hc7 fun k hk e => by omega
      have hR7 := senRd_chg (hR5.c0 (hc6.trans0 hcZ)) hc7 (fun k hk e => by omega)
      have hV7 : PayV w7 w5.heap.size q1 q2 q3 (payS x) := hV.chg (hcZ.trans hc7 fun k hk e => by omega) fun _ _ _ h => h
      have hs7 := senA_size x va' vb' vc' vd ve
      clear hZ hcZ hone hc6 hc7 hX5 hR5 hV y0
      go_wp2_with (first
        | (refine wpList_step fun K hK => ?_; rw [if_pos (by rfl)]; refine wp_load_row 36 (.tmp 2) rfl p rfl 36 (senA x va' vb' vc' vd ve) (0, 0) _ hX7 Try.underlying36 rfl (by rw [hs7]; exact info_sen) (hK _ _ ?_); clear hK K)
        | (refine wpList_step fun K hK => ?_; rw [if_pos (by rfl)]; refine wp_load_row 63 (.tmp 7) rfl g rfl 63 (pktA x.fr x.tt (payS x) q1 q2 q3) (0, 0) _ hP7 Try.underlying63 rfl (by rw [hsz]; exact info_pkt) (hK _ _ ?_); clear hK K)
        | (go_at_call 11; refine (sentRead hR7 (fun k hk => by have := hg7.size; omega) HWZ.out.1 HK.out.1 HK.out.2 hV7).mono ?_; rintro e w8 ⟨rfl, hc8⟩))
      go_meet
      exact hg7.trans0 hc8
  case rest =>
    clear hg5 hX5 hR5 hs5 hv2 hv hcase y0 hpl HWZ
    have hg := hcut
    have hbc := hb.c0 hg
    go_upto_region 15 with (first
      | (go_at_call 12; refine (refCopy hbc (by omega)).mono ?_; rintro e w6 ⟨t, rfl, ht, hc6⟩)
      | (go_at_call 10; refine (read_some ht.rd (by omega)).mono ?_; rintro e w7 ⟨hc7, arr, er, rfl, hsz, hone, hcase⟩; have hZ := Blk.new w7 63 zeroP; have hcZ := (Chg.refl Non w7).alloc (.cells zeroP 63))
      | (refine wpList_store_pkt rfl (.tmp 9) (.tmp 57) rfl w7.heap.size arr rfl rfl _ hZ zeroP_size hsz hone fun w8 hP8 hc8 => ?_))
    have hg7 := (hg.trans0 hc6).trans0 hc7
    have hgs := hg7.size
    have hg8 : Chg Non W w8 := (hg7.trans0 hcZ).trans hc8 fun k hk e => by omega
    obtain ⟨g, hgg⟩ : ∃ g, g = w7.heap.size := ⟨_, rfl⟩
    rw [← hgg] at hP8 hc8 ⊢
    rcases hcase with ⟨rfl, fr, tt, pp, q1, q2, q3, rfl, hV, hD, hbe, hbl⟩ | ⟨her, rfl⟩
    · have hV8 : PayV w8 w6.heap.size q1 q2 q3 pp := hV.chg (hcZ.trans hc8 fun k hk e => by omega) fun _ _ _ h => h
      have hb8 := hb.c0 hg8
      have HB := hide hbe
      have HV := hide (And.intro hV8 (And.intro hD hbl))
      clear hZ hcZ hone hc6 hc7 hc8 hV hD hbe hbl hV8 ht hbc
      go_wp2_with (first
        | (refine wpList_load_row rfl 63 (.tmp 9) rfl g rfl 63 (pktA fr tt pp q1 q2 q3) (0, 0) _ hP8 Try.underlying63 rfl (by rw [hsz]; exact info_pkt) ?_)
        | (go_at_call 9; refine (bytes_back HV.out.1 HV.out.2.1 HV.out.2.2).mono ?_; rintro e w9 ⟨v9, rfl, h9, hc9⟩; rw [← HB.out] at h9)
        | (go_at_call 13; refine (refEqual_true h9.rd (hb8.c0 hc9)).mono ?_; rintro e wz ⟨rfl, hqz⟩))
      go_ret
      exact ⟨rfl, (hg8.trans0 hc9).quiet hqz⟩
    · have hne : (er != 0) = true := by simp [her]
      have y0 : w8.cell? ⟨g, 0, none⟩ = some (.int .i64 0) := hP8.cell 0
      have y1 : w8.cell? ⟨g, 10, none⟩ = some (.slice none 0 0) := hP8.cell 10
      clear hZ hcZ hone hc6 hc7 hc8 ht hbc hgg
      go_wp2_with fail
      go_ret
      exact ⟨rfl, hg8⟩
set_option maxRecDepth 100000 in
theorem contract (H : Type) (enc : TypeId × Value → H) (W : World) (base : Nat) (args : Array Value) (ds gs : List (DataW H)) (before : List MemPlace)
    (hval : ∀ (j : Nat) t v, Try.f3.params[j]? = some t → args[j]? = some v → Value.okWide Try.prog W .any base t v)
    (hW : DataW.Whole enc Try.prog Try.f3.params.toList Rows.rpcPacketsSpec.vars false W args.toList ds gs before) (hk : Rows.uptoSmall H (ds ++ gs) = true) :
    Calls Try.prog 3 args W fun e W' => ∃ v, e = .returned v ∧ Rows.rpcPacketsSpec.post enc Try.prog Try.f3 false true false false W args v W' := by
  have hW' := hW
  obtain ⟨p, q, hA0, hV, rfl, hfz, hnd⟩ := hW
  have hA : DataW.TrodAll enc Try.prog W 0 (fun _ => true) true Try.f3.params.toList args.toList ds p := hA0
  rw [Try.params3] at hA hval
  obtain ⟨v0, vs0, d0, ds0, p0, q0, hargs, rfl, rfl, h0, r0⟩ := trodAll_cons hA
  obtain ⟨v1, vs1, d1, ds1, p1, q1, rfl, rfl, rfl, h1, r1⟩ := trodAll_cons r0
  obtain ⟨rfl, rfl, rfl⟩ := trodAll_nil r1
  obtain rfl : args = #[v0, v1] := by cases args; simp_all
  obtain ⟨rfl, rfl⟩ := trodVars_none hV
  have k0 := h0
  have lt0 : ∀ x ∈ p0, x.block < W.heap.size := by obtain ⟨m, hm⟩ := k0; exact DataW.trod_lt m _ _ _ hm
  obtain ⟨x0, ra0, rb0, rc0, rd0, re0, rfl, wf0, sm0⟩ := openSen (hval 0 36 v0 rfl rfl) h0
  have k1 := h1
  have lt1 : ∀ x ∈ p1, x.block < W.heap.size := by obtain ⟨m, hm⟩ := k1; exact DataW.trod_lt m _ _ _ hm
  obtain ⟨l1, w1, z1⟩ := openB (hval 1 26 v1 rfl rfl) h1
  have hb := of_decide_eq_true hk
  simp only [List.append_nil, Rows.uptoBulkAll] at hb
  have z11 := z1.1
  refine (walk wf0 w1 (sm0 (by omega)) (by omega)).mono fun e W' ⟨he, bel0⟩ => ?_
  have bel := bel0.below
  subst he
  exact ⟨_, rfl, _, _, _, [], _, [], hW', trodAll_mk1 (shut_bool Try.underlying4 _), (trodAll_cons_mk (Below.trod laidOut (by kernel_rfl) (of_decide_eq_true (by kernel_rfl)) k0 bel lt0) (trodAll_cons_mk (Below.trod laidOut (by kernel_rfl) (of_decide_eq_true (by kernel_rfl)) k1 bel lt1) trodAll_mk0)), rfl, bel.frame _, fun h => by cases h⟩

set_option maxRecDepth 100000 in
theorem lifted (os : Os) (started : os.Started) (H : Type) (enc : TypeId × Value → H) (F : Stop.Interp) :
    ReturnsInHanded {} Try.checked os 3 .any ((Rows.OpenSpec.upto Rows.rpcPacketsSpec).pre6 enc Try.prog Try.f3 Rows.rpcPacketsUptoRow.domain false) (((Rows.OpenSpec.upto Rows.rpcPacketsSpec).at F).post enc Try.prog Try.f3 false true false false) := by
  refine returnsInHanded_of_cond (C := Try.checked) (s := Rows.OpenSpec.upto Rows.rpcPacketsSpec) (k := Rows.uptoSmall) rfl own started (by kernel_rfl) Try.func3
    (OpenSpec.witness (enc := enc) (C := Try.checked) (s := Rows.OpenSpec.upto Rows.rpcPacketsSpec) (k := Rows.uptoSmall) rfl false ⟨#[], #[.agg #[.int .i64 0, .int .u64 0, .int .u64 0, .int .i64 0, .int .u64 0, .int .u64 0, .int .u64 0, .int .u64 0, .int .u64 0, .int .u64 0, .slice none 0 0, .bool false, .slice none 0 0, .int .u64 0, .string ⟨#[]⟩, .int .i64 0, .int .u64 0, .int .u64 0, .int .u64 0, .int .u64 0, .int .u64 0, .int .u64 0, .int .i64 0, .int .i64 0, .int .i64 0, .slice none 0 0, .slice none 0 0, .bool false, .slice none 0 0, .int .u64 0, .string ⟨#[]⟩, .int .i64 0, .int .u64 0, .int .u64 0], .slice none 0 0], []⟩ 8 (by kernel_rfl) (by kernel_rfl) (by kernel_rfl)
      (x := ([.agg [.lit (.int .i64 0), .lit (.int .u64 0), .lit (.int .u64 0), .agg [.lit (.int .i64 0), .lit (.int .u64 0), .lit (.int .u64 0), .lit (.int .u64 0), .agg [.lit (.int .u64 0), .lit (.int .u64 0), .lit (.int .u64 0)], .nil, .lit (.bool false), .nil, .lit (.int .u64 0), .lit (.string [])], .agg [.lit (.int .i64 0), .lit (.int .u64 0), .lit (.int .u64 0), .agg [.lit (.int .u64 0), .lit (.int .u64 0), .lit (.int .u64 0)], .lit (.int .u64 0), .lit (.int .i64 0), .agg [.lit (.int .i64 0), .lit (.int .i64 0), .nil, .nil], .lit (.bool false), .nil, .lit (.int .u64 0)], .lit (.string []), .lit (.int .i64 0), .lit (.int .u64 0), .lit (.int .u64 0)], .nil], [], [])) (by kernel_rfl) rfl (by kernel_rfl)) ?_
  intro W base args ds gs before hval hW _ hk _
  exact contract H enc W base args ds gs before hval hW hk

theorem over : Rows.rpcPacketsUptoRow.holds Try.pinned (Rows.OpenSpec.upto Rows.rpcPacketsSpec) :=
  OpenClaim.holds_of_cond 3 Try.f3 rfl rfl rfl rfl rfl rfl rfl ⟨rfl, rfl, rfl, rfl, rfl⟩ rfl rfl rfl rfl rfl (by kernel_rfl) Try.func3 (by kernel_rfl)
    (of_decide_eq_true (by kernel_rfl)) (by unfold Func.isWrapper; first | (rw [if_pos (by decide +kernel)]; kernel_rfl) | (rw [if_neg (by decide +kernel)]; exact ⟨rfl, rfl⟩))
    (fun os started H enc _ F => lifted os started H enc F)

theorem proved : Rows.RpcPacketsUptoSaid := over
end Go.Proofs.Ytncchbcoldgpbaa.rpcPackets
