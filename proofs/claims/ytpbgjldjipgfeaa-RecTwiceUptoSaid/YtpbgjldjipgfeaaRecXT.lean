/- The walk of rec.Read, a shape of its records. -/
import Derived.Test.YtpbgjldjipgfeaaRecW
namespace Go.Proofs.Ytpbgjldjipgfeaa
open Go.RowKit
set_option linter.unusedVariables false

set_option maxHeartbeats 16000000 in
set_option maxRecDepth 100000 in
theorem recRead_T {w : World} {F : Nat → Prop} {v : Value} {x : RcS} (hr : RdB w F v (recY x)) (hs : RcSm x) (hwf : RcWf x) (hk : x.kind = 2 ∨ x.kind = 3 ∨ x.kind = 9) :
    Calls Try.prog 14 #[v] w fun e w' => ∃ a b c d xs ys, e = .returned (.tuple #[.agg (recC (trimR x) a b c d), .int .i64 0]) ∧ RecOwn w' w.heap.size (trimR x) a b c d xs ys ∧ Chg Non w w' := by
  have hfd : fldR x = [txB x] := by rw [fldR, if_neg (by omega), if_pos hk]
  have hfs : fldS x.kind = ⟨#[84]⟩ := by rw [fldS, if_neg (by omega), if_pos hk]
  have hsp : splitB (recY x) = ([kiB x.kind] :: fldR x, 0) := splitB_join _ (fits_rec hs)
  have hyl := recY_len x hs
  have hkb : ((kiB x.kind).toNat : Int) = x.kind := by rw [← kiB_int, IntKind.wrap_u8]; omega
  rw [hfd] at hsp
  have hwk : IntKind.i64.wrap x.kind = x.kind := IntWalk.i64_in _ (by omega)
  have HKK := hide hk
  clear hk
  obtain ⟨hz0, hg0, hk0⟩ := box2 w zeroC #[.slice none 0 0, .int .i64 0] 32 78
  have hr0 := hr.c0 hk0
  have HF := hide (fun (w' : World) => recFields (k := x.kind) (w := w'))
  rw [hfs] at HF
  obtain ⟨s, HS, hse, HF⟩ : ∃ s : ByteArray, Hid (s = ⟨#[84]⟩) ∧ s.toList.isEmpty = false ∧ Hid (∀ w' : World, Calls Try.prog 23 #[.int .i64 x.kind] w' fun e w2 => e = .returned (.string s) ∧ w2 = w') := ⟨_, hide rfl, by rw [ByteArray.toList_eq]; rfl, HF⟩
  clear hr hfs
  unfold zeroC at *
  go_enter Try.func14, Try.ntmps14
  go_upto_region 2 with fail
  obtain ⟨g, hg⟩ : ∃ g, g = w.heap.size + 1 := ⟨_, rfl⟩
  have hszg : ((w.alloc (.cells #[.int .i64 0, .int .u64 0, .int .u64 0, .int .u64 0, .slice none 0 0, .slice none 0 0, .bool false, .slice none 0 0, .slice none 0 0, .int .u64 0, .string ⟨#[]⟩] 32)).alloc (.cells #[.slice none 0 0, .int .i64 0] 78)).heap.size = g + 1 := by rw [hg]; simp
  rw [← hg] at hg0 ⊢
  have hgw : w.heap.size < g := by omega
  clear hg
  generalize World.alloc _ _ = w2 at hz0 hg0 hk0 hr0 hszg ⊢
  have hspl := packSplit hr0 (by omega)
  rw [hsp] at hspl
  clear hr0
  go_upto_region 3 with (go_at_call 35; refine hspl.mono ?_; rintro e w3 ⟨u3, rfl, hO3, hc3⟩; obtain ⟨U3, m3, rfl, hm3, hmm3⟩ := hO3.shape; have f0 := (hg0.c0 hc3).frozen 0; have f1 := (hg0.c0 hc3).frozen 1; have z0 : w3.cell? ⟨g, 0, none⟩ = some (.slice none 0 0) := (hg0.c0 hc3).cell 0; have z1 : w3.cell? ⟨g, 1, none⟩ = some (.int .i64 0) := (hg0.c0 hc3).cell 1)
  obtain ⟨vs0, hvl, hRd5, hP5, hPl5, hc5⟩ := readStart hO3 rfl (hg0.c0 hc3) hszg
  have hz5 := (hz0.c0 hc3).chg hc5 (by omega)
  have hk5 : Chg Non w _ := (hk0.trans0 hc3).trans hc5 fun k hk e => by omega
  have hs5 := hc5.size
  have hs3 := hc3.size
  obtain ⟨v0, v1, rfl⟩ : ∃ v0 v1, vs0 = [v0, v1] := by
    match vs0, hvl with
    | [v0, v1], _ => exact ⟨v0, v1, rfl⟩
  simp only [List.zip_cons_cons, List.zip_nil_right] at hP5 hPl5
  change RdOk ((w3.setCell ⟨g, 0, none⟩ (.slice U3 2 m3)).setCell ⟨g, 1, none⟩ (.int .i64 0)) _ _ _ at hRd5
  change OwnPs ((w3.setCell ⟨g, 0, none⟩ (.slice U3 2 m3)).setCell ⟨g, 1, none⟩ (.int .i64 0)) _ _ at hP5
  change Blk ((w3.setCell ⟨g, 0, none⟩ (.slice U3 2 m3)).setCell ⟨g, 1, none⟩ (.int .i64 0)) _ _ _ at hz5
  change Chg _ _ ((w3.setCell ⟨g, 0, none⟩ (.slice U3 2 m3)).setCell ⟨g, 1, none⟩ (.int .i64 0)) at hk5
  change w3.heap.size ≤ ((w3.setCell ⟨g, 0, none⟩ (.slice U3 2 m3)).setCell ⟨g, 1, none⟩ (.int .i64 0)).heap.size at hs5
  clear hspl hO3 f0 f1 z0 z1 hg0 hz0 hc5 hvl
  generalize World.setCell _ _ _ = w5 at hRd5 hP5 hz5 hk5 hs5 ⊢
  have hh0 : OwnB w5 (g + 1) v0 [kiB x.kind] := hP5.1 (v0, [kiB x.kind]) (by simp)
  obtain ⟨A0, m0, e0, hm0, hmm0⟩ := hh0.shape
  rw [List.length_singleton] at e0 hm0
  subst e0
  obtain ⟨ad, rfl, _, hcell⟩ := hh0.rd.at_ (k := 0) (by simp)
  have hcell : w5.cell? ad = some (.int .u8 ((kiB x.kind).toNat : Int)) := by simpa [Addr.add] using hcell
  rw [hkb] at hcell
  have hadb : g < ad.block ∧ ad.block < w3.heap.size := ⟨(hh0.lt ad.block rfl).1, hPl5 (.slice (some ad) 1 m0, [kiB x.kind]) (List.mem_cons_self ..) ad.block rfl⟩
  have hn5 := recNext hRd5 ⟨_, _, _, rfl⟩ (by simp)
  go_wp2_with fail
  refine hn5.mono ?_
  rintro e w6 ⟨rfl, hRd6, hc6⟩
  have hcell6 := hc6.cell hcell (by omega)
  have hz6 := hz5.chg hc6 (by omega)
  have hP6 := (hP5.chg hc6 fun k hk _ e => by omega).sub (List.sublist_cons_self _ _)
  have HPl6 := hide (fun p hp => hPl5 p (List.mem_cons_of_mem _ hp))
  have hk6 := hk5.trans hc6 fun k hk e => by omega
  have hs6 := hc6.size
  have hRd6' := hRd6
  obtain ⟨vv, hb6, _, _⟩ := hRd6'
  have d1 := hb6.cell 1
  simp at d1
  clear hn5 hcell hh0 hP5 hPl5 hRd5 hz5 hk5 hb6
  go_upto_region 6 with (go_at_call 23; refine (HF.out _).mono ?_; rintro e w7 ⟨rfl, rfl⟩)
  have ho8 := Blk.new w7 32 #[.int .i64 x.kind, .int .u64 0, .int .u64 0, .int .u64 0, .slice none 0 0, .slice none 0 0, .bool false, .slice none 0 0, .slice none 0 0, .int .u64 0, .string ⟨#[]⟩]
  have hc8 := (Chg.refl Non w7).alloc (.cells #[.int .i64 x.kind, .int .u64 0, .int .u64 0, .int .u64 0, .slice none 0 0, .slice none 0 0, .bool false, .slice none 0 0, .slice none 0 0, .int .u64 0, .string ⟨#[]⟩] 32)
  have hs8 : (w7.alloc (.cells #[.int .i64 x.kind, .int .u64 0, .int .u64 0, .int .u64 0, .slice none 0 0, .slice none 0 0, .bool false, .slice none 0 0, .slice none 0 0, .int .u64 0, .string ⟨#[]⟩] 32)).heap.size = w7.heap.size + 1 := by simp
  go_upto_region 9 with fail
  obtain ⟨o, ho⟩ : ∃ o, o = w7.heap.size := ⟨_, rfl⟩
  rw [← ho] at ho8 hs8 ⊢
  have hgo : g < o := by omega
  have hoh : w3.heap.size ≤ o := by omega
  have hRd8 := hRd6.c0 hc8
  have hP8 := hP6.c0 hc8
  have hz8 := hz6.c0 hc8
  have hk8 := hk6.trans0 hc8
  generalize World.alloc _ _ = w8 at ho8 hc8 hs8 hRd8 hP8 hz8 hk8 ⊢
  have o0 := ho8.cell 0
  simp at o0
  clear hcell6 d1 hRd6 hP6 hz6 hk6 hc8 hc6 ho
  go_upto_region 10 with (go_at_call 23; refine (HF.out _).mono ?_; rintro e w9 ⟨rfl, rfl⟩)
  have hit : (w9.iter s 0).heap[w9.heap.size]? = some (.stringIter s 0) := heap_alloc_new w9 _
  have hc10 : Chg Non w9 (w9.iter s 0) := (Chg.refl Non w9).alloc _
  obtain ⟨it, hi⟩ : ∃ it, it = o + 1 := ⟨_, rfl⟩
  rw [hs8, ← hi] at hit
  rw [← hi]
  have hoi : o < it := by omega
  have hRd10 := hRd8.c0 hc10
  have hP10 := hP8.c0 hc10
  have hz10 := hz8.c0 hc10
  have hk10 := hk8.trans0 hc10
  have ho10 := ho8.c0 hc10
  have hs10 := hc10.size
  generalize World.iter _ _ _ = w10 at hit hc10 hRd10 hP10 hz10 hk10 ho10 hs10 ⊢
  have hil : it < w10.heap.size := (Array.getElem?_eq_some_iff.1 hit).1
  clear o0 hRd8 hP8 hz8 hk8 ho8 hc10 hi HF
  have hit10 := hit
  clear hit
  refine wp_loop_rounds 2 ?_
  rw [rounds_succ]
  have hnx0 : ∀ ty, (Instr.next (.pointer (some ⟨it, 0, none⟩)) true ty).run Try.prog w10 = .ok (.tuple #[.bool true, .int .i64 0, .int .i32 84]) (w10.iterAt it s 1) := by
    have hx := HS.out
    subst hx
    exact fun ty => Lib.run_next_ascii_at w10 it _ 0 ty hit10 (by decide) (by decide)
  have hitI := Lib.iterAt_heap w10 it s 0 1 hit10
  have hRdI := hRd10.iterAt hit10 1
  have hPI := hP10.iterAt hit10 1
  have hzI := hz10.iterAt hit10 1
  have hoI := ho10.iterAt hit10 1
  have hkI := hk10.trans (chg_iterAt w10 it s 1) fun k hk e => by omega
  have hilI : it < (w10.iterAt it s 1).heap.size := (Array.getElem?_eq_some_iff.1 hitI).1
  have hv1 : OwnB (w10.iterAt it s 1) (g + 1) v1 (txB x) := hPI.1 (v1, txB x) (by simp)
  have hG1 : ¬ (v1.ownBlock = some g) := fun e => by have := (hv1.lt g e).1; omega
  have hFw1 : ∀ k, (g < k ∧ k < w3.heap.size) → k < (w10.iterAt it s 1).heap.size ∧ k ≠ o := fun k hk => ⟨by omega, by omega⟩
  have hcall1 := recFieldT (G := fun k => v1.ownBlock = some k) hRdI hG1 (by simp) hFw1 hoI (by omega) hv1.rd hwf.u.1 hwf.u.2.1 hwf.u.2.2.1
  clear hRd10 hP10 hz10 hk10 hRdI ho10 hoI
  go_wp2_with fail
  refine hcall1.mono ?_
  rintro e w11 ⟨rfl, ho11, hRd11, hc11⟩
  clear hcall1 hnx0 hit10
  have hit11 := hc11.heap hitI (by rintro (e | e) <;> omega)
  have hP11 := (OwnPs.chg' hPI hc11 fun p hp k hk => by
    have := HPl6.out p (by first | exact hp | exact List.mem_cons_of_mem _ hp | exact List.mem_cons_of_mem _ (List.mem_cons_of_mem _ hp) | exact List.mem_cons_of_mem _ (List.mem_cons_of_mem _ (List.mem_cons_of_mem _ hp))) k hk
    have h2 := ((hPI.1 p hp).lt k hk).1
    rintro (e | e) <;> omega).sub (List.sublist_cons_self _ _)
  have hz11 := hzI.chg hc11 (by rintro (e | e) <;> omega)
  have hk11 := hkI.trans hc11 fun k hk => by rintro (e | e) <;> omega
  clear hPI hzI hkI hitI hilI hc11 hv1
  go_wp2_with fail
  rw [rounds_succ]
  have hnx1 : ∀ ty, (Instr.next (.pointer (some ⟨it, 0, none⟩)) true ty).run Try.prog w11 = .ok (.tuple #[.bool false]) w11 := by
    have hx := HS.out
    subst hx
    exact fun ty => Lib.run_next_end_at w11 it _ 1 ty hit11 (by decide)
  obtain ⟨vv2, hb9, hv9, _⟩ := hRd11
  obtain ⟨U9, c9, rfl, _, _⟩ := hv9.shape
  have r0 := hb9.cell 0
  have r1 := hb9.cell 1
  simp at r0 r1
  obtain ⟨a0, a1, a2, a3, a4, a5, a6, a7, a8, a9, a10⟩ := rblk ho11
  obtain ⟨z0, z1, z2, z3, z4, z5, z6, z7, z8, z9, z10⟩ := rblk hz11
  obtain ⟨f0, f1, f2, f3, f4, f5, f6, f7, f8, f9, f10⟩ := rfrz hz11
  obtain ⟨hB9, hC9⟩ := rput hz11 (.int .i64 x.kind) (.int .u64 (x.boot : Int)) (.int .u64 (x.sess : Int)) (.int .u64 (x.seq : Int)) (.slice none 0 0) (.slice none 0 0) (.bool false) (.slice none 0 0) (.slice none 0 0) (.int .u64 0) (.string ⟨#[]⟩)
  clear hb9 hv9 ho11 hz11
  go_wp2_with fail
  generalize World.setCell _ _ _ = wz at hB9 hC9 ⊢
  clear a0 a1 a2 a3 a4 a5 a6 a7 a8 a9 a10 z0 z1 z2 z3 z4 z5 z6 z7 z8 z9 z10 f0 f1 f2 f3 f4 f5 f6 f7 f8 f9 f10
  obtain ⟨a0, a1, a2, a3, a4, a5, a6, a7, a8, a9, a10⟩ := rblk hB9
  refine bodyPost_ret (v := .tuple #[.agg #[.int .i64 x.kind, .int .u64 (x.boot : Int), .int .u64 (x.sess : Int), .int .u64 (x.seq : Int), .slice none 0 0, .slice none 0 0, .bool false, .slice none 0 0, .slice none 0 0, .int .u64 0, .string ⟨#[]⟩], .int .i64 0]) (by simp [results, Try.results14, go_sem, a0, a1, a2, a3, a4, a5, a6, a7, a8, a9, a10]) rfl ?_
  have hk := HKK.out
  have hT : trimR x = { zeroR with kind := x.kind, boot := x.boot, sess := x.sess, seq := x.seq } := by rw [trimR, if_neg (by omega), if_pos hk]
  refine ⟨.slice none 0 0, .slice none 0 0, .slice none 0 0, .slice none 0 0, ret_rec (by rw [hT]; rfl), ⟨[], [], ?_⟩, ?_⟩
  · rw [hT]
    exact ⟨rfl, rfl, World.ownsRow_nil _ _ _ 3, World.ownsRow_nil _ _ _ 3, World.ownsRow_nil _ _ _ 1, OwnPs.one (OwnB.nil_ wz _)⟩
  · exact hk11.trans hC9 fun k hk e => by omega
end Go.Proofs.Ytpbgjldjipgfeaa
