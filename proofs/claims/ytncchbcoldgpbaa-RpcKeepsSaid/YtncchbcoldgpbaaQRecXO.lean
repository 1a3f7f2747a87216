/- The walk of rec.Read, a shape of its records. -/
import Derived.Test.YtncchbcoldgpbaaQcM
namespace Go.Proofs.Ytncchbcoldgpbaa
open Go.RowKit
set_option linter.unusedVariables false

set_option maxHeartbeats 16000000 in
set_option maxRecDepth 100000 in
theorem recRead_O {w : World} {F : Nat → Prop} {v : Value} {x : RcS} (hr : RdB w F v (recY x)) (hs : RcSm x) (hwf : RcWf x) (hk : x.kind = 4) :
    Calls Try.prog 86 #[v] w fun e w' => ∃ a b c d xs ys, e = .returned (.tuple #[.agg (recC (trimR x) a b c d), .int .i64 0]) ∧ RecOwn w' w.heap.size (trimR x) a b c d xs ys ∧ Chg Non w w' := by
  have hfd : fldR x = [txB x, triB x.ws, x.reply] := by rw [fldR, if_neg (by omega), if_neg (by omega), if_pos hk]
  have hfs : fldS x.kind = ⟨#[84, 87, 65]⟩ := by rw [fldS, if_neg (by omega), if_neg (by omega), if_pos hk]
  have hsp : splitB (recY x) = ([kiB x.kind] :: fldR x, 0) := splitB_join _ (fits_rec hs)
  have hyl := recY_len x hs
  have hkb : ((kiB x.kind).toNat : Int) = x.kind := by rw [← kiB_int, IntKind.wrap_u8]; omega
  rw [hfd] at hsp
  have hwk : IntKind.i64.wrap x.kind = x.kind := IntWalk.i64_in _ (by omega)
  have HKK := hide hk
  clear hk
  obtain ⟨hz0, hg0, hk0⟩ := box2 w zeroC #[.slice none 0 0, .int .i64 0] 129 205
  have hr0 := hr.c0 hk0
  have HF := hide (fun (w' : World) => recFields (k := x.kind) (w := w'))
  rw [hfs] at HF
  obtain ⟨s, HS, hse, HF⟩ : ∃ s : ByteArray, Hid (s = ⟨#[84, 87, 65]⟩) ∧ s.toList.isEmpty = false ∧ Hid (∀ w' : World, Calls Try.prog 71 #[.int .i64 x.kind] w' fun e w2 => e = .returned (.string s) ∧ w2 = w') := ⟨_, hide rfl, by rw [ByteArray.toList_eq]; rfl, HF⟩
  clear hr hfs
  unfold zeroC at *
  go_enter Try.func86, Try.ntmps86
  go_upto_region 2 with fail
  obtain ⟨g, hg⟩ : ∃ g, g = w.heap.size + 1 := ⟨_, rfl⟩
  have hszg : ((w.alloc (.cells #[.int .i64 0, .int .u64 0, .int .u64 0, .int .u64 0, .slice none 0 0, .slice none 0 0, .bool false, .slice none 0 0, .slice none 0 0, .int .u64 0, .string ⟨#[]⟩] 129)).alloc (.cells #[.slice none 0 0, .int .i64 0] 205)).heap.size = g + 1 := by rw [hg]; simp
  rw [← hg] at hg0 ⊢
  have hgw : w.heap.size < g := by omega
  clear hg
  generalize World.alloc _ _ = w2 at hz0 hg0 hk0 hr0 hszg ⊢
  have hspl := packSplit hr0 (by omega)
  rw [hsp] at hspl
  clear hr0
  go_upto_region 3 with (go_at_call 84; refine hspl.mono ?_; rintro e w3 ⟨u3, rfl, hO3, hc3⟩; obtain ⟨U3, m3, rfl, hm3, hmm3⟩ := hO3.shape; have f0 := (hg0.c0 hc3).frozen 0; have f1 := (hg0.c0 hc3).frozen 1; have z0 : w3.cell? ⟨g, 0, none⟩ = some (.slice none 0 0) := (hg0.c0 hc3).cell 0; have z1 : w3.cell? ⟨g, 1, none⟩ = some (.int .i64 0) := (hg0.c0 hc3).cell 1)
  obtain ⟨vs0, hvl, hRd5, hP5, hPl5, hc5⟩ := readStart hO3 rfl (hg0.c0 hc3) hszg
  have hz5 := (hz0.c0 hc3).chg hc5 (by omega)
  have hk5 : Chg Non w _ := (hk0.trans0 hc3).trans hc5 fun k hk e => by omega
  have hs5 := hc5.size
  have hs3 := hc3.size
  obtain ⟨v0, v1, v2, v3, rfl⟩ : ∃ v0 v1 v2 v3, vs0 = [v0, v1, v2, v3] := by
    match vs0, hvl with
    | [v0, v1, v2, v3], _ => exact ⟨v0, v1, v2, v3, rfl⟩
  simp only [List.zip_cons_cons, List.zip_nil_right] at hP5 hPl5
  change RdOk ((w3.setCell ⟨g, 0, none⟩ (.slice U3 4 m3)).setCell ⟨g, 1, none⟩ (.int .i64 0)) _ _ _ at hRd5
  change OwnPs ((w3.setCell ⟨g, 0, none⟩ (.slice U3 4 m3)).setCell ⟨g, 1, none⟩ (.int .i64 0)) _ _ at hP5
  change Blk ((w3.setCell ⟨g, 0, none⟩ (.slice U3 4 m3)).setCell ⟨g, 1, none⟩ (.int .i64 0)) _ _ _ at hz5
  change Chg _ _ ((w3.setCell ⟨g, 0, none⟩ (.slice U3 4 m3)).setCell ⟨g, 1, none⟩ (.int .i64 0)) at hk5
  change w3.heap.size ≤ ((w3.setCell ⟨g, 0, none⟩ (.slice U3 4 m3)).setCell ⟨g, 1, none⟩ (.int .i64 0)).heap.size at hs5
  clear hspl hO3 f0 f1 z0 z1 hg0 hz0 hc5 hvl
  generalize World.setCell _ _ _ = w5 at hRd5 hP5 hz5 hk5 hs5 ⊢
  have hh0 : OwnB w5 (g + 1) v0 [kiB x.kind] := hP5.1 (v0, [kiB x.kind]) (by simp)
  obtain ⟨A0, m0, e0, hm0, hmm0⟩ := hh0.shape
  rw [List.length_singleton] at e0 hm0
  subst e0
  obtain ⟨ad, rfl, _, hcell⟩ := hh0.rd.at_ (k := 0) (by simp)
  have hcell : w5.cell? ad = some (.int .u8 ((kiB x.kind).toNat : Int)) := by simpa [Addr.add] using hcell
  rw [hkb] at hcell
  have hadb : g < ad.block ∧ ad.block < w3.heap.size := ⟨(hh0.lt ad.block rfl).1, hPl5 (.slice (some ad) 1 m0, [kiB x.kind]) (List.mem_cons_self ..) ad.block rfl⟩
  have hn5 := recNext hRd5 ⟨_, _, _, rfl⟩ (by simp)
  go_wp2_with fail
  refine hn5.mono ?_
  rintro e w6 ⟨rfl, hRd6, hc6⟩
  have hcell6 := hc6.cell hcell (by omega)
  have hz6 := hz5.chg hc6 (by omega)
  have hP6 := (hP5.chg hc6 fun k hk _ e => by omega).sub (List.sublist_cons_self _ _)
  have HPl6 := hide (fun p hp => hPl5 p (List.mem_cons_of_mem _ hp))
  have hk6 := hk5.trans hc6 fun k hk e => by omega
  have hs6 := hc6.size
  have hRd6' := hRd6
  obtain ⟨vv, hb6, _, _⟩ := hRd6'
  have d1 := hb6.cell 1
  simp at d1
  clear hn5 hcell hh0 hP5 hPl5 hRd5 hz5 hk5 hb6
  go_upto_region 6 with (go_at_call 71; refine (HF.out _).mono ?_; rintro e w7 ⟨rfl, rfl⟩)
  have ho8 := Blk.new w7 129 #[.int .i64 x.kind, .int .u64 0, .int .u64 0, .int .u64 0, .slice none 0 0, .slice none 0 0, .bool false, .slice none 0 0, .slice none 0 0, .int .u64 0, .string ⟨#[]⟩]
  have hc8 := (Chg.refl Non w7).alloc (.cells #[.int .i64 x.kind, .int .u64 0, .int .u64 0, .int .u64 0, .slice none 0 0, .slice none 0 0, .bool false, .slice none 0 0, .slice none 0 0, .int .u64 0, .string ⟨#[]⟩] 129)
  have hs8 : (w7.alloc (.cells #[.int .i64 x.kind, .int .u64 0, .int .u64 0, .int .u64 0, .slice none 0 0, .slice none 0 0, .bool false, .slice none 0 0, .slice none 0 0, .int .u64 0, .string ⟨#[]⟩] 129)).heap.size = w7.heap.size + 1 := by simp
  go_upto_region 9 with fail
  obtain ⟨o, ho⟩ : ∃ o, o = w7.heap.size := ⟨_, rfl⟩
  rw [← ho] at ho8 hs8 ⊢
  have hgo : g < o := by omega
  have hoh : w3.heap.size ≤ o := by omega
  have hRd8 := hRd6.c0 hc8
  have hP8 := hP6.c0 hc8
  have hz8 := hz6.c0 hc8
  have hk8 := hk6.trans0 hc8
  generalize World.alloc _ _ = w8 at ho8 hc8 hs8 hRd8 hP8 hz8 hk8 ⊢
  have o0 := ho8.cell 0
  simp at o0
  clear hcell6 d1 hRd6 hP6 hz6 hk6 hc8 hc6 ho
  go_upto_region 10 with (go_at_call 71; refine (HF.out _).mono ?_; rintro e w9 ⟨rfl, rfl⟩)
  have hit : (w9.iter s 0).heap[w9.heap.size]? = some (.stringIter s 0) := heap_alloc_new w9 _
  have hc10 : Chg Non w9 (w9.iter s 0) := (Chg.refl Non w9).alloc _
  obtain ⟨it, hi⟩ : ∃ it, it = o + 1 := ⟨_, rfl⟩
  rw [hs8, ← hi] at hit
  rw [← hi]
  have hoi : o < it := by omega
  have hRd10 := hRd8.c0 hc10
  have hP10 := hP8.c0 hc10
  have hz10 := hz8.c0 hc10
  have hk10 := hk8.trans0 hc10
  have ho10 := ho8.c0 hc10
  have hs10 := hc10.size
  generalize World.iter _ _ _ = w10 at hit hc10 hRd10 hP10 hz10 hk10 ho10 hs10 ⊢
  have hil : it < w10.heap.size := (Array.getElem?_eq_some_iff.1 hit).1
  clear o0 hRd8 hP8 hz8 hk8 ho8 hc10 hi HF
  have hit10 := hit
  clear hit
  refine wp_loop_rounds 4 ?_
  rw [rounds_succ]
  have hnx0 : ∀ ty, (Instr.next (.pointer (some ⟨it, 0, none⟩)) true ty).run Try.prog w10 = .ok (.tuple #[.bool true, .int .i64 0, .int .i32 84]) (w10.iterAt it s 1) := by
    have hx := HS.out
    subst hx
    exact fun ty => Lib.run_next_ascii_at w10 it _ 0 ty hit10 (by decide) (by decide)
  have hitI := Lib.iterAt_heap w10 it s 0 1 hit10
  have hRdI := hRd10.iterAt hit10 1
  have hPI := hP10.iterAt hit10 1
  have hzI := hz10.iterAt hit10 1
  have hoI := ho10.iterAt hit10 1
  have hkI := hk10.trans (chg_iterAt w10 it s 1) fun k hk e => by omega
  have hilI : it < (w10.iterAt it s 1).heap.size := (Array.getElem?_eq_some_iff.1 hitI).1
  have hv1 : OwnB (w10.iterAt it s 1) (g + 1) v1 (txB x) := hPI.1 (v1, txB x) (by simp)
  have hG1 : ¬ (v1.ownBlock = some g) := fun e => by have := (hv1.lt g e).1; omega
  have hFw1 : ∀ k, (g < k ∧ k < w3.heap.size) → k < (w10.iterAt it s 1).heap.size ∧ k ≠ o := fun k hk => ⟨by omega, by omega⟩
  have hcall1 := recFieldT (G := fun k => v1.ownBlock = some k) hRdI hG1 (by simp) hFw1 hoI (by omega) hv1.rd hwf.u.1 hwf.u.2.1 hwf.u.2.2.1
  clear hRd10 hP10 hz10 hk10 hRdI ho10 hoI
  go_wp2_with fail
  refine hcall1.mono ?_
  rintro e w11 ⟨rfl, ho11, hRd11, hc11⟩
  clear hcall1 hnx0 hit10
  have hit11 := hc11.heap hitI (by rintro (e | e) <;> omega)
  have hP11 := (OwnPs.chg' hPI hc11 fun p hp k hk => by
    have := HPl6.out p (by first | exact hp | exact List.mem_cons_of_mem _ hp | exact List.mem_cons_of_mem _ (List.mem_cons_of_mem _ hp) | exact List.mem_cons_of_mem _ (List.mem_cons_of_mem _ (List.mem_cons_of_mem _ hp))) k hk
    have h2 := ((hPI.1 p hp).lt k hk).1
    rintro (e | e) <;> omega).sub (List.sublist_cons_self _ _)
  have hz11 := hzI.chg hc11 (by rintro (e | e) <;> omega)
  have hk11 := hkI.trans hc11 fun k hk => by rintro (e | e) <;> omega
  clear hPI hzI hkI hitI hilI hc11 hv1
  go_wp2_with fail
  rw [rounds_succ]
  have hnx1 : ∀ ty, (Instr.next (.pointer (some ⟨it, 0, none⟩)) true ty).run Try.prog w11 = .ok (.tuple #[.bool true, .int .i64 1, .int .i32 87]) (w11.iterAt it s 2) := by
    have hx := HS.out
    subst hx
    exact fun ty => Lib.run_next_ascii_at w11 it _ 1 ty hit11 (by decide) (by decide)
  have hitI := Lib.iterAt_heap w11 it s 1 2 hit11
  have hRdI := hRd11.iterAt hit11 2
  have hPI := hP11.iterAt hit11 2
  have hzI := hz11.iterAt hit11 2
  have hoI := ho11.iterAt hit11 2
  have hkI := hk11.trans (chg_iterAt w11 it s 2) fun k hk e => by omega
  have hilI : it < (w11.iterAt it s 2).heap.size := (Array.getElem?_eq_some_iff.1 hitI).1
  have hv2 : OwnB (w11.iterAt it s 2) (g + 1) v2 (triB x.ws) := hPI.1 (v2, triB x.ws) (by simp)
  have hG2 : ¬ (v2.ownBlock = some g) := fun e => by have := (hv2.lt g e).1; omega
  have hFw2 : ∀ k, (g < k ∧ k < w3.heap.size) → k < (w11.iterAt it s 2).heap.size ∧ k ≠ o := fun k hk => ⟨by omega, by omega⟩
  have hcall2 := recFieldW (G := fun k => v2.ownBlock = some k) hRdI hG2 (by simp) hFw2 hoI (by omega) hv2.rd hs.ws hs.wn
  clear hRd11 hP11 hz11 hk11 hRdI ho11 hoI
  go_wp2_with fail
  refine hcall2.mono ?_
  rintro e w12 ⟨rfl, wv, xs, hxl, ho12, hrw, hpw, hRd12, hc12⟩
  clear hcall2 hnx1 hit11
  have hit12 := hc12.heap hitI (by rintro (e | e) <;> omega)
  have hP12 := (OwnPs.chg' hPI hc12 fun p hp k hk => by
    have := HPl6.out p (by first | exact hp | exact List.mem_cons_of_mem _ hp | exact List.mem_cons_of_mem _ (List.mem_cons_of_mem _ hp) | exact List.mem_cons_of_mem _ (List.mem_cons_of_mem _ (List.mem_cons_of_mem _ hp))) k hk
    have h2 := ((hPI.1 p hp).lt k hk).1
    rintro (e | e) <;> omega).sub (List.sublist_cons_self _ _)
  have hz12 := hzI.chg hc12 (by rintro (e | e) <;> omega)
  have hk12 := hkI.trans hc12 fun k hk => by rintro (e | e) <;> omega
  have hrw12 := row_low hrw (Nat.le_of_lt hilI)
  have hpw12 := hpw.low (Nat.le_of_lt hilI)
  clear hPI hzI hkI hitI hilI hc12 hv2
  go_wp2_with fail
  rw [rounds_succ]
  have hnx2 : ∀ ty, (Instr.next (.pointer (some ⟨it, 0, none⟩)) true ty).run Try.prog w12 = .ok (.tuple #[.bool true, .int .i64 2, .int .i32 65]) (w12.iterAt it s 3) := by
    have hx := HS.out
    subst hx
    exact fun ty => Lib.run_next_ascii_at w12 it _ 2 ty hit12 (by decide) (by decide)
  have hitI := Lib.iterAt_heap w12 it s 2 3 hit12
  have hRdI := hRd12.iterAt hit12 3
  have hPI := hP12.iterAt hit12 3
  have hzI := hz12.iterAt hit12 3
  have hoI := ho12.iterAt hit12 3
  have hkI := hk12.trans (chg_iterAt w12 it s 3) fun k hk e => by omega
  have hilI : it < (w12.iterAt it s 3).heap.size := (Array.getElem?_eq_some_iff.1 hitI).1
  have hv3 : OwnB (w12.iterAt it s 3) (g + 1) v3 (x.reply) := hPI.1 (v3, x.reply) (by simp)
  have hG3 : ¬ (v3.ownBlock = some g) := fun e => by have := (hv3.lt g e).1; omega
  have hFw3 : ∀ k, (g < k ∧ k < w3.heap.size) → k < (w12.iterAt it s 3).heap.size ∧ k ≠ o := fun k hk => ⟨by omega, by omega⟩
  have hrwI := row_iterAt hrw12 hit12 3
  have hpwI := hpw12.iterAt hit12 3
  have hcall3 := recFieldA (G := fun k => v3.ownBlock = some k) hRdI hG3 (by simp) hFw3 hoI (by omega) hv3.sl
  obtain ⟨P8, n8, k8, rfl⟩ := hv3.sl
  clear hRd12 hP12 hz12 hk12 hRdI ho12 hoI
  go_wp2_with fail
  refine hcall3.mono ?_
  rintro e w13 ⟨rfl, ho13, hRd13, hc13⟩
  clear hcall3 hnx2 hit12
  have hit13 := hc13.heap hitI (by rintro (e | e) <;> omega)
  have hP13 := (OwnPs.chg' hPI hc13 fun p hp k hk => by
    have := HPl6.out p (by first | exact hp | exact List.mem_cons_of_mem _ hp | exact List.mem_cons_of_mem _ (List.mem_cons_of_mem _ hp) | exact List.mem_cons_of_mem _ (List.mem_cons_of_mem _ (List.mem_cons_of_mem _ hp))) k hk
    have h2 := ((hPI.1 p hp).lt k hk).1
    rintro (e | e) <;> omega)
  have hz13 := hzI.chg hc13 (by rintro (e | e) <;> omega)
  have hk13 := hkI.trans hc13 fun k hk => by rintro (e | e) <;> omega
  have hrw13 := row_chg hrwI hc13 fun k hk => by
    have := (World.ownsRow.lt hrwI k hk).1
    rintro (e | e) <;> omega
  have hpw13 := hpwI.chg hc13 fun k hk _ => by rintro (e | e) <;> omega
  clear hPI hzI hkI hitI hilI hc13 hv3
  go_wp2_with fail
  rw [rounds_succ]
  have hnx3 : ∀ ty, (Instr.next (.pointer (some ⟨it, 0, none⟩)) true ty).run Try.prog w13 = .ok (.tuple #[.bool false]) w13 := by
    have hx := HS.out
    subst hx
    exact fun ty => Lib.run_next_end_at w13 it _ 3 ty hit13 (by decide)
  obtain ⟨vv2, hb9, hv9, _⟩ := hRd13
  obtain ⟨U9, c9, rfl, _, _⟩ := hv9.shape
  have r0 := hb9.cell 0
  have r1 := hb9.cell 1
  simp at r0 r1
  obtain ⟨W1, W2, W3, rfl⟩ := RdV.sl (RdV.of_own hrw13)
  obtain ⟨a0, a1, a2, a3, a4, a5, a6, a7, a8, a9, a10⟩ := rblk ho13
  obtain ⟨z0, z1, z2, z3, z4, z5, z6, z7, z8, z9, z10⟩ := rblk hz13
  obtain ⟨f0, f1, f2, f3, f4, f5, f6, f7, f8, f9, f10⟩ := rfrz hz13
  obtain ⟨hB9, hC9⟩ := rput hz13 (.int .i64 x.kind) (.int .u64 (x.boot : Int)) (.int .u64 (x.sess : Int)) (.int .u64 (x.seq : Int)) (.slice W1 W2 W3) (.slice none 0 0) (.bool false) (.slice none 0 0) (.slice P8 n8 k8) (.int .u64 0) (.string ⟨#[]⟩)
  clear hb9 hv9 ho13 hz13
  go_wp2_with fail
  generalize World.setCell _ _ _ = wz at hB9 hC9 ⊢
  clear a0 a1 a2 a3 a4 a5 a6 a7 a8 a9 a10 z0 z1 z2 z3 z4 z5 z6 z7 z8 z9 z10 f0 f1 f2 f3 f4 f5 f6 f7 f8 f9 f10
  obtain ⟨a0, a1, a2, a3, a4, a5, a6, a7, a8, a9, a10⟩ := rblk hB9
  refine bodyPost_ret (v := .tuple #[.agg #[.int .i64 x.kind, .int .u64 (x.boot : Int), .int .u64 (x.sess : Int), .int .u64 (x.seq : Int), .slice W1 W2 W3, .slice none 0 0, .bool false, .slice none 0 0, .slice P8 n8 k8, .int .u64 0, .string ⟨#[]⟩], .int .i64 0]) (by simp [results, Try.results86, go_sem, a0, a1, a2, a3, a4, a5, a6, a7, a8, a9, a10]) rfl ?_
  have hk := HKK.out
  have hT : trimR x = { zeroR with kind := x.kind, boot := x.boot, sess := x.sess, seq := x.seq, ws := x.ws, reply := x.reply } := by rw [trimR, if_neg (by omega), if_neg (by omega), if_pos hk]
  refine ⟨.slice W1 W2 W3, .slice none 0 0, .slice none 0 0, .slice P8 n8 k8, ret_rec (by rw [hT]; rfl), ⟨xs, [], ?_⟩, ?_⟩
  · rw [hT]
    exact ⟨hxl, rfl, row_low (row_chg hrw13 hC9 fun k hk e => by have := (World.ownsRow.lt hrw13 k hk).1; omega) (by omega), World.ownsRow_nil _ _ _ 3, World.ownsRow_nil _ _ _ 1, ((OwnPs.app (OwnPs.one ((hP13.chg hC9 fun k hk _ e => by omega).1 (.slice P8 n8 k8, x.reply) (by simp))) (hpw13.chg hC9 fun k hk _ e => by omega) (m := it) (fun p hp k hk => by simp at hp; subst hp; have := HPl6.out (.slice P8 n8 k8, x.reply) (by simp) k hk; omega) (Nat.le_refl _) (by omega) (by omega)).perm (List.perm_append_comm)).perm (by simp [pcW])⟩
  · exact hk13.trans hC9 fun k hk e => by omega
end Go.Proofs.Ytncchbcoldgpbaa
