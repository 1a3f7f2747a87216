/- The walk of rec.Read where it refuses. -/
import Derived.Test.YtpbgjldjipgfeaaRecSM
import Derived.Test.YtpbgjldjipgfeaaRecX
import Derived.Test.YtpbgjldjipgfeaaRecN
namespace Go.Proofs.Ytpbgjldjipgfeaa
open Go.RowKit
set_option linter.unusedVariables false

theorem recFieldB {w : World} {g o : Nat} {c : Int} (h : RdBad w g) (hbx : RecBox w o) (hog : o ≠ g) (hc : c ∈ ([84, 87, 82, 67, 83, 65, 73, 78] : List Int)) :
    Calls Try.prog 37 #[.pointer (some ⟨g, 0, none⟩), .pointer (some ⟨o, 0, none⟩), .int .i32 c] w fun e w' => e = .returned (.tuple #[]) ∧ ∃ er, RecBox w' o ∧ RdErr w' g er ∧ Chg (fun k => k = g ∨ k = o) w w' := by
  simp only [List.mem_cons, List.mem_nil_iff, or_false] at hc
  rcases hc with rfl | rfl | rfl | rfl | rfl | rfl | rfl | rfl
  · exact recFieldTB h hbx hog
  · exact recFieldWB h hbx hog
  · exact recFieldRB h hbx hog
  · exact recFieldCB h hbx hog
  · exact recFieldSB h hbx hog
  · exact recFieldAB h hbx hog
  · exact recFieldIB h hbx hog
  · exact recFieldNB h hbx hog
set_option maxHeartbeats 16000000 in
set_option maxRecDepth 100000 in
theorem fldS_letters (k : Int) : ∀ (i : Nat) (h : i < (fldS k).size), ((((fldS k)[i]'h).toNat : Nat) : Int) ∈ ([84, 87, 82, 67, 83, 65, 73, 78] : List Int) := by
  have q0 : ∀ (i : Nat) (h : i < (⟨#[84, 87, 82]⟩ : ByteArray).size), (((((⟨#[84, 87, 82]⟩ : ByteArray)[i]'h).toNat : Nat) : Int)) ∈ ([84, 87, 82, 67, 83, 65, 73, 78] : List Int) := by decide
  have q1 : ∀ (i : Nat) (h : i < (⟨#[84]⟩ : ByteArray).size), (((((⟨#[84]⟩ : ByteArray)[i]'h).toNat : Nat) : Int)) ∈ ([84, 87, 82, 67, 83, 65, 73, 78] : List Int) := by decide
  have q2 : ∀ (i : Nat) (h : i < (⟨#[84, 87, 65]⟩ : ByteArray).size), (((((⟨#[84, 87, 65]⟩ : ByteArray)[i]'h).toNat : Nat) : Int)) ∈ ([84, 87, 82, 67, 83, 65, 73, 78] : List Int) := by decide
  have q3 : ∀ (i : Nat) (h : i < (⟨#[73, 78]⟩ : ByteArray).size), (((((⟨#[73, 78]⟩ : ByteArray)[i]'h).toNat : Nat) : Int)) ∈ ([84, 87, 82, 67, 83, 65, 73, 78] : List Int) := by decide
  have q4 : ∀ (i : Nat) (h : i < (⟨#[84, 67, 83, 65]⟩ : ByteArray).size), (((((⟨#[84, 67, 83, 65]⟩ : ByteArray)[i]'h).toNat : Nat) : Int)) ∈ ([84, 87, 82, 67, 83, 65, 73, 78] : List Int) := by decide
  have q5 : ∀ (i : Nat) (h : i < (⟨#[]⟩ : ByteArray).size), (((((⟨#[]⟩ : ByteArray)[i]'h).toNat : Nat) : Int)) ∈ ([84, 87, 82, 67, 83, 65, 73, 78] : List Int) := by decide
  unfold fldS
  split
  · exact q0
  split
  · exact q1
  split
  · exact q2
  split
  · exact q3
  split
  · exact q4
  · exact q5
theorem RdErr.iterAt {w : World} {g : Nat} {er : Int} {k : Nat} {s : ByteArray} {pos : Nat} (h : RdErr w g er) (hk : w.heap[k]? = some (.stringIter s pos)) (pos' : Nat) : RdErr (w.iterAt k s pos') g er := by
  obtain ⟨v, h1, h2⟩ := h
  exact ⟨v, h1.iterAt hk pos', h2⟩
/-- what is no frame is refused -/
theorem recReadE {w : World} {F : Nat → Prop} {v : Value} {b : List UInt8} {er : Int} (hr : RdB w F v b) (hl : b.length < 1000000000000) (hsp : splitB b = ([], er)) (he : er ≠ 0) :
    Calls Try.prog 14 #[v] w fun e w' => ∃ er, er ≠ 0 ∧ e = .returned (.tuple #[.agg zeroC, .int .i64 er]) ∧ Chg Non w w' := by
  obtain ⟨hz0, hg0, hk0⟩ := box2 w zeroC #[.slice none 0 0, .int .i64 0] 32 78
  have hr0 := hr.c0 hk0
  clear hr
  unfold zeroC at *
  go_enter Try.func14, Try.ntmps14
  go_upto_region 2 with fail
  obtain ⟨g, hg⟩ : ∃ g, g = w.heap.size + 1 := ⟨_, rfl⟩
  have hszg : ((w.alloc (.cells #[.int .i64 0, .int .u64 0, .int .u64 0, .int .u64 0, .slice none 0 0, .slice none 0 0, .bool false, .slice none 0 0, .slice none 0 0, .int .u64 0, .string ⟨#[]⟩] 32)).alloc (.cells #[.slice none 0 0, .int .i64 0] 78)).heap.size = g + 1 := by rw [hg]; simp
  rw [← hg] at hg0 ⊢
  have hgw : w.heap.size < g := by omega
  clear hg
  generalize World.alloc _ _ = w2 at hz0 hg0 hk0 hr0 hszg ⊢
  have hspl := packSplit hr0 (by omega)
  rw [hsp] at hspl
  clear hr0
  go_upto_region 3 with (go_at_call 35; refine hspl.mono ?_; rintro e w3 ⟨u3, rfl, hO3, hc3⟩; obtain ⟨U3, m3, rfl, hm3, hmm3⟩ := hO3.shape; have f0 := (hg0.c0 hc3).frozen 0; have f1 := (hg0.c0 hc3).frozen 1; have z0 : w3.cell? ⟨g, 0, none⟩ = some (.slice none 0 0) := (hg0.c0 hc3).cell 0; have z1 : w3.cell? ⟨g, 1, none⟩ = some (.int .i64 0) := (hg0.c0 hc3).cell 1)
  have hB5 := ((hg0.c0 hc3).set_ 0 (.slice U3 0 m3)).set_ 1 (.int .i64 er)
  simp only [List.setIfInBounds_toArray, List.set_cons_succ, List.set_cons_zero] at hB5
  have hc5 : Chg (fun k => k = g) w3 ((w3.setCell ⟨g, 0, none⟩ (.slice U3 0 m3)).setCell ⟨g, 1, none⟩ (.int .i64 er)) := ((Chg.refl (fun k => k = g) w3).setCell (p := ⟨g, 0, none⟩) (fun _ => rfl) _).setCell (p := ⟨g, 1, none⟩) (fun _ => rfl) _
  have hz5 := (hz0.c0 hc3).chg hc5 (by omega)
  have hk5 : Chg Non w _ := (hk0.trans0 hc3).trans hc5 fun k hk e => by omega
  clear hspl hO3 f0 f1 z0 z1 hg0 hz0
  generalize World.setCell _ _ _ = w5 at hB5 hc5 hz5 hk5 ⊢
  have hE5 : RdErr w5 g er := ⟨_, hB5, he⟩
  have hn5 := recNextE hE5
  have e1 : (er == 0) = false := beq_eq_false_iff_ne.2 he
  have e2 : (er != 0) = true := by simp [he]
  have d5 : w5.cell? ⟨g, 1, none⟩ = some (.int .i64 er) := hB5.cell 1
  clear hB5
  go_wp2_with fail
  refine hn5.mono ?_
  rintro e w6 ⟨rfl, rfl⟩
  clear hn5
  have HKZ := hide hk5
  have hzz := hz5
  obtain ⟨vq, hbq, heq⟩ := hE5
  have dq : w6.cell? ⟨g, 1, none⟩ = some (.int .i64 er) := by have := hbq.cell 1; simpa using this
  obtain ⟨z0, z1, z2, z3, z4, z5, z6, z7, z8, z9, z10⟩ := rblk hzz
  obtain ⟨f0, f1, f2, f3, f4, f5, f6, f7, f8, f9, f10⟩ := rfrz hzz
  obtain ⟨hB9, hC9⟩ := rput hzz (.int .i64 0) (.int .u64 0) (.int .u64 0) (.int .u64 0) (.slice none 0 0) (.slice none 0 0) (.bool false) (.slice none 0 0) (.slice none 0 0) (.int .u64 0) (.string ⟨#[]⟩)
  have HB9 := hide hB9
  have HC9 := hide hC9
  clear hbq hzz hB9 hC9
  go_upto_region 7 with fail
  go_region
  all_goals
    generalize World.setCell _ _ _ = wz at HB9 HC9 ⊢
    clear z0 z1 z2 z3 z4 z5 z6 z7 z8 z9 z10 f0 f1 f2 f3 f4 f5 f6 f7 f8 f9 f10 dq
    go_wp2_with fail
    have hB9 := HB9.out
    obtain ⟨a0, a1, a2, a3, a4, a5, a6, a7, a8, a9, a10⟩ := rblk hB9
    refine bodyPost_ret (v := .tuple #[.agg #[.int .i64 0, .int .u64 0, .int .u64 0, .int .u64 0, .slice none 0 0, .slice none 0 0, .bool false, .slice none 0 0, .slice none 0 0, .int .u64 0, .string ⟨#[]⟩], .int .i64 er]) (by simp [results, Try.results14, go_sem, a0, a1, a2, a3, a4, a5, a6, a7, a8, a9, a10]) rfl ?_
    exact ⟨er, heq, rfl, (HKZ.out.trans HC9.out fun k hk e => by omega).drew⟩
end Go.Proofs.Ytpbgjldjipgfeaa

namespace Go.Proofs.Ytpbgjldjipgfeaa
open Go.RowKit
set_option linter.unusedVariables false

set_option maxHeartbeats 16000000 in
set_option maxRecDepth 100000 in
/-- a record of a kind that is none, or of one part alone, is refused -/
theorem recReadK {w : World} {F : Nat → Prop} {v : Value} {b : List UInt8} {k : UInt8} (hr : RdB w F v b) (hl : b.length < 1000000000000) (hsp : splitB b = ([[k]], 0)) :
    Calls Try.prog 14 #[v] w fun e w' => ∃ er, er ≠ 0 ∧ e = .returned (.tuple #[.agg zeroC, .int .i64 er]) ∧ Chg Non w w' := by
  obtain ⟨hz0, hg0, hk0⟩ := box2 w zeroC #[.slice none 0 0, .int .i64 0] 32 78
  have hr0 := hr.c0 hk0
  clear hr
  unfold zeroC at *
  go_enter Try.func14, Try.ntmps14
  go_upto_region 2 with fail
  obtain ⟨g, hg⟩ : ∃ g, g = w.heap.size + 1 := ⟨_, rfl⟩
  have hszg : ((w.alloc (.cells #[.int .i64 0, .int .u64 0, .int .u64 0, .int .u64 0, .slice none 0 0, .slice none 0 0, .bool false, .slice none 0 0, .slice none 0 0, .int .u64 0, .string ⟨#[]⟩] 32)).alloc (.cells #[.slice none 0 0, .int .i64 0] 78)).heap.size = g + 1 := by rw [hg]; simp
  rw [← hg] at hg0 ⊢
  have hgw : w.heap.size < g := by omega
  clear hg
  generalize World.alloc _ _ = w2 at hz0 hg0 hk0 hr0 hszg ⊢
  have hspl := packSplit hr0 (by omega)
  rw [hsp] at hspl
  clear hr0
  go_upto_region 3 with (go_at_call 35; refine hspl.mono ?_; rintro e w3 ⟨u3, rfl, hO3, hc3⟩; obtain ⟨U3, m3, rfl, hm3, hmm3⟩ := hO3.shape; have f0 := (hg0.c0 hc3).frozen 0; have f1 := (hg0.c0 hc3).frozen 1; have z0 : w3.cell? ⟨g, 0, none⟩ = some (.slice none 0 0) := (hg0.c0 hc3).cell 0; have z1 : w3.cell? ⟨g, 1, none⟩ = some (.int .i64 0) := (hg0.c0 hc3).cell 1)
  obtain ⟨vs0, hvl, hRd5, hP5, hPl5, hc5⟩ := readStart hO3 rfl (hg0.c0 hc3) hszg
  have hz5 := (hz0.c0 hc3).chg hc5 (by omega)
  have hk5 : Chg Non w _ := (hk0.trans0 hc3).trans hc5 fun k hk e => by omega
  have hs5 := hc5.size
  have hs3 := hc3.size
  obtain ⟨v0, rfl⟩ : ∃ v0, vs0 = [v0] := by
    match vs0, hvl with
    | [v0], _ => exact ⟨v0, rfl⟩
  simp only [List.zip_cons_cons, List.zip_nil_right] at hP5 hPl5
  change RdOk ((w3.setCell ⟨g, 0, none⟩ (.slice U3 1 m3)).setCell ⟨g, 1, none⟩ (.int .i64 0)) _ _ _ at hRd5
  change OwnPs ((w3.setCell ⟨g, 0, none⟩ (.slice U3 1 m3)).setCell ⟨g, 1, none⟩ (.int .i64 0)) _ _ at hP5
  change Blk ((w3.setCell ⟨g, 0, none⟩ (.slice U3 1 m3)).setCell ⟨g, 1, none⟩ (.int .i64 0)) _ _ _ at hz5
  change Chg _ _ ((w3.setCell ⟨g, 0, none⟩ (.slice U3 1 m3)).setCell ⟨g, 1, none⟩ (.int .i64 0)) at hk5
  change w3.heap.size ≤ ((w3.setCell ⟨g, 0, none⟩ (.slice U3 1 m3)).setCell ⟨g, 1, none⟩ (.int .i64 0)).heap.size at hs5
  clear hspl hO3 f0 f1 z0 z1 hg0 hz0 hc5 hvl
  generalize World.setCell _ _ _ = w5 at hRd5 hP5 hz5 hk5 hs5 ⊢
  have hh0 : OwnB w5 (g + 1) v0 [k] := hP5.1 (v0, [k]) (by simp)
  obtain ⟨A0, m0, e0, hm0, hmm0⟩ := hh0.shape
  rw [List.length_singleton] at e0 hm0
  subst e0
  obtain ⟨ad, rfl, _, hcell⟩ := hh0.rd.at_ (k := 0) (by simp)
  have hcell : w5.cell? ad = some (.int .u8 (k.toNat : Int)) := by simpa [Addr.add] using hcell
  have hadb : g < ad.block ∧ ad.block < w3.heap.size := ⟨(hh0.lt ad.block rfl).1, hPl5 (.slice (some ad) 1 m0, [k]) (List.mem_cons_self ..) ad.block rfl⟩
  have hn5 := recNext hRd5 ⟨_, _, _, rfl⟩ (by simp)
  have hk8 := k.toNat_lt
  obtain ⟨n, hn⟩ : ∃ n : Int, n = (k.toNat : Int) := ⟨_, rfl⟩
  rw [← hn] at hcell
  have hwk : IntKind.i64.wrap n = n := IntWalk.i64_in _ (by omega)
  clear hk8
  go_wp2_with fail
  refine hn5.mono ?_
  rintro e w6 ⟨rfl, hRd6, hc6⟩
  have hcell6 := hc6.cell hcell (by omega)
  have hz6 := hz5.chg hc6 (by omega)
  have hk6 := hk5.trans hc6 fun k hk e => by omega
  have hs6 := hc6.size
  have hRd6' := hRd6
  obtain ⟨vv, hb6, _, _⟩ := hRd6'
  have d1 := hb6.cell 1
  simp at d1
  have hb6f := hb6.frozen 1
  clear hn5 hcell hh0 hP5 hPl5 hRd5 hz5 hk5 hn
  by_cases hfe : (fldS n).toList.isEmpty = true
  · have HF := hide (fun (w' : World) => recFields (k := n) (w := w'))
    obtain ⟨s, hfe, HF⟩ : ∃ s : ByteArray, s.toList.isEmpty = true ∧ Hid (∀ w' : World, Calls Try.prog 23 #[.int .i64 n] w' fun e w2 => e = .returned (.string s) ∧ w2 = w') := ⟨_, hfe, HF⟩
    have hB7 := hb6.set_ 1 (.int .i64 3)
    simp only [List.setIfInBounds_toArray, List.set_cons_succ, List.set_cons_zero] at hB7
    have hc7 : Chg (fun k => k = g) w6 (w6.setCell ⟨g, 1, none⟩ (.int .i64 3)) := (Chg.refl (fun k => k = g) w6).setCell (p := ⟨g, 1, none⟩) (fun _ => rfl) _
    have hz7 := hz6.chg hc7 (by omega)
    have hk7 := hk6.trans hc7 fun k hk e => by omega
    have HB7 := hide hB7
    have HZ7 := hide hz7
    have HK7 := hide hk7
    clear hb6 hz6 hk6 hRd6 hB7 hc7 hz7 hk7
    go_upto_region 6 with (go_at_call 23; refine (HF.out _).mono ?_; rintro e w7 ⟨rfl, rfl⟩)
    generalize World.setCell _ _ _ = w8 at HB7 HZ7 HK7 ⊢
    have hE8 : RdErr w8 g 3 := ⟨_, HB7.out, by decide⟩
    have hz8 := HZ7.out
    have hk8 := HK7.out
    clear hcell6 d1
    have HKZ := hide hk8
    have hzz := hz8
    obtain ⟨vq, hbq, heq⟩ := hE8
    have dq : w8.cell? ⟨g, 1, none⟩ = some (.int .i64 3) := by have := hbq.cell 1; simpa using this
    obtain ⟨z0, z1, z2, z3, z4, z5, z6, z7, z8, z9, z10⟩ := rblk hzz
    obtain ⟨f0, f1, f2, f3, f4, f5, f6, f7, f8, f9, f10⟩ := rfrz hzz
    obtain ⟨hB9, hC9⟩ := rput hzz (.int .i64 0) (.int .u64 0) (.int .u64 0) (.int .u64 0) (.slice none 0 0) (.slice none 0 0) (.bool false) (.slice none 0 0) (.slice none 0 0) (.int .u64 0) (.string ⟨#[]⟩)
    have HB9 := hide hB9
    have HC9 := hide hC9
    clear hbq hzz hB9 hC9
    go_upto_region 7 with fail
    go_region
    all_goals
      generalize World.setCell _ _ _ = wz at HB9 HC9 ⊢
      clear z0 z1 z2 z3 z4 z5 z6 z7 z8 z9 z10 f0 f1 f2 f3 f4 f5 f6 f7 f8 f9 f10 dq
      go_wp2_with fail
      have hB9 := HB9.out
      obtain ⟨a0, a1, a2, a3, a4, a5, a6, a7, a8, a9, a10⟩ := rblk hB9
      refine bodyPost_ret (v := .tuple #[.agg #[.int .i64 0, .int .u64 0, .int .u64 0, .int .u64 0, .slice none 0 0, .slice none 0 0, .bool false, .slice none 0 0, .slice none 0 0, .int .u64 0, .string ⟨#[]⟩], .int .i64 3]) (by simp [results, Try.results14, go_sem, a0, a1, a2, a3, a4, a5, a6, a7, a8, a9, a10]) rfl ?_
      exact ⟨3, heq, rfl, (HKZ.out.trans HC9.out fun k hk e => by omega).drew⟩
  · have hfe : (fldS n).toList.isEmpty = false := by simpa using hfe
    obtain ⟨hsl, hsa⟩ := fldS_small n
    have hsb := fldS_letters n
    have hs0 : 0 < (fldS n).size := by
      rw [ByteArray.toList_eq] at hfe
      rcases Nat.eq_zero_or_pos (fldS n).size with h | h
      · have : (fldS n).data.toList = [] := List.eq_nil_of_length_eq_zero (by rw [Array.length_toList]; exact h)
        rw [this] at hfe
        cases hfe
      · exact h
    obtain ⟨s, hfe, hs0, hsa, HSB, HF⟩ : ∃ s : ByteArray, s.toList.isEmpty = false ∧ 0 < s.size ∧ (∀ (i : Nat) (h : i < s.size), (s[i]'h).toNat < 128) ∧ Hid (∀ (i : Nat) (h : i < s.size), (((s[i]'h).toNat : Nat) : Int) ∈ ([84, 87, 82, 67, 83, 65, 73, 78] : List Int)) ∧
        Hid (∀ w' : World, Calls Try.prog 23 #[.int .i64 n] w' fun e w2 => e = .returned (.string s) ∧ w2 = w') := ⟨fldS n, hfe, hs0, hsa, hide hsb, hide (fun w' => recFields)⟩
    have HRd6 := hide hRd6
    clear hb6 hRd6
    go_upto_region 6 with (go_at_call 23; refine (HF.out _).mono ?_; rintro e w7 ⟨rfl, rfl⟩)
    have ho8 := Blk.new w7 32 #[.int .i64 n, .int .u64 0, .int .u64 0, .int .u64 0, .slice none 0 0, .slice none 0 0, .bool false, .slice none 0 0, .slice none 0 0, .int .u64 0, .string ⟨#[]⟩]
    have hc8 := (Chg.refl Non w7).alloc (.cells #[.int .i64 n, .int .u64 0, .int .u64 0, .int .u64 0, .slice none 0 0, .slice none 0 0, .bool false, .slice none 0 0, .slice none 0 0, .int .u64 0, .string ⟨#[]⟩] 32)
    have hs8 : (w7.alloc (.cells #[.int .i64 n, .int .u64 0, .int .u64 0, .int .u64 0, .slice none 0 0, .slice none 0 0, .bool false, .slice none 0 0, .slice none 0 0, .int .u64 0, .string ⟨#[]⟩] 32)).heap.size = w7.heap.size + 1 := by simp
    go_upto_region 9 with fail
    obtain ⟨o, ho⟩ : ∃ o, o = w7.heap.size := ⟨_, rfl⟩
    rw [← ho] at ho8 hs8 ⊢
    have hgo : g < o := by omega
    have hoh : w3.heap.size ≤ o := by omega
    have HRd8 := hide (HRd6.out.c0 hc8)
    have hz8 := hz6.c0 hc8
    have hk8 := hk6.trans0 hc8
    generalize World.alloc _ _ = w8 at ho8 hc8 hs8 HRd8 hz8 hk8 ⊢
    have o0 := ho8.cell 0
    simp at o0
    clear hcell6 d1 hz6 hk6 hc8 hc6 ho
    go_upto_region 10 with (go_at_call 23; refine (HF.out _).mono ?_; rintro e w9 ⟨rfl, rfl⟩)
    have hit : (w9.iter s 0).heap[w9.heap.size]? = some (.stringIter s 0) := heap_alloc_new w9 _
    have hc10 : Chg Non w9 (w9.iter s 0) := (Chg.refl Non w9).alloc _
    obtain ⟨it, hi⟩ : ∃ it, it = o + 1 := ⟨_, rfl⟩
    rw [hs8, ← hi] at hit
    rw [← hi]
    have hoi : o < it := by omega
    have HRd10 := hide (HRd8.out.c0 hc10)
    have hz10 := hz8.c0 hc10
    have hk10 := hk8.trans0 hc10
    have ho10 : RecBox (w9.iter s 0) o := ⟨_, _, _, _, _, _, _, _, _, _, _, ho8.c0 hc10⟩
    have hs10 := hc10.size
    generalize World.iter _ _ _ = w10 at hit hc10 HRd10 hz10 hk10 ho10 hs10 ⊢
    clear o0 hz8 hk8 ho8 hc10 hi HF
    go_loopw [] (fun wr => ∃ k, k ≤ s.size ∧ wr.heap[it]? = some (.stringIter s k) ∧ ((k = 0 ∧ RdOk wr (fun b => g < b ∧ b < w3.heap.size) g []) ∨ ∃ er, RdErr wr g er) ∧ RecBox wr o ∧ Blk wr w.heap.size 32 #[.int .i64 0, .int .u64 0, .int .u64 0, .int .u64 0, .slice none 0 0, .slice none 0 0, .bool false, .slice none 0 0, .slice none 0 0, .int .u64 0, .string ⟨#[]⟩] ∧ Chg Non w wr) (fun wr => s.size - wr.iterPos it)
    case atStart => exact ⟨0, Nat.zero_le _, hit, .inl ⟨rfl, HRd10.out⟩, ho10, hz10, hk10⟩
    case round =>
      clear hit HRd10 ho10 hz10 hk10
      obtain ⟨k, hk, hit, hRd, ho, hz, hkw⟩ := hrel
      have HSA := hide hsa
      clear hsa
      by_cases h1 : k < s.size
      · have hnx : ∀ ty, (Instr.next (.pointer (some ⟨it, 0, none⟩)) true ty).run Try.prog wr = _ := fun ty => Lib.run_next_ascii_at wr it s k ty hit h1 (HSA.out k h1)
        have hitI := Lib.iterAt_heap wr it s k (k + 1) hit
        have hbad : RdBad (wr.iterAt it s (k + 1)) g := by
          rcases hRd with ⟨_, h⟩ | ⟨er, h⟩
          · exact (h.iterAt hit (k + 1)).bad
          · exact (h.iterAt hit (k + 1)).bad
        have hoI : RecBox (wr.iterAt it s (k + 1)) o := by
          obtain ⟨b0, b1, b2, b3, b4, b5, b6, b7, b8, b9, b10, h⟩ := ho
          exact ⟨_, _, _, _, _, _, _, _, _, _, _, h.iterAt hit (k + 1)⟩
        have hzI := hz.iterAt hit (k + 1)
        have hkI := hkw.trans (chg_iterAt wr it s (k + 1)) fun k hk e => by omega
        have hm := HSB.out k h1
        have HIT := hide hit
        have hcall := recFieldB hbad hoI (by omega) hm
        obtain ⟨c, hc⟩ : ∃ c : Int, c = (((s[k]'h1).toNat : Nat) : Int) := ⟨_, rfl⟩
        rw [← hc] at hcall
        have HC := hide hcall
        simp only [← hc] at hnx
        clear hcall hbad hoI hRd ho hz hkw hm hc
        go_wp2_with fail
        refine HC.out.mono ?_
        rintro e w11 ⟨rfl, er, ho11, hE11, hc11⟩
        have hit11 := hc11.heap hitI (by rintro (e | e) <;> omega)
        have hz11 := hzI.chg hc11 (by rintro (e | e) <;> omega)
        have hk11 := hkI.trans hc11 fun k hk => by rintro (e | e) <;> omega
        clear hnx hit hitI hc11
        go_wp2_with fail
        go_roundw
        case rel => exact ⟨k + 1, by omega, hit11, .inr ⟨er, hE11⟩, ho11, hz11, hk11⟩
        case measure => simp only [World.iterPos, hit11, HIT.out]; omega
      · have hnx : ∀ ty, (Instr.next (.pointer (some ⟨it, 0, none⟩)) true ty).run Try.prog wr = _ := fun ty => Lib.run_next_end_at wr it s k ty hit h1
        obtain ⟨er, hE⟩ : ∃ er, RdErr wr g er := by
          rcases hRd with ⟨h, _⟩ | h
          · omega
          · exact h
        have HE := hide hE
        obtain ⟨vE, hbE, heE⟩ := hE
        have dE : wr.cell? ⟨g, 1, none⟩ = some (.int .i64 er) := by have := hbE.cell 1; simpa using this
        have e1 : (er == 0) = false := beq_eq_false_iff_ne.2 heE
        have e2 : (er != 0) = true := by simp [heE]
        clear hbE hRd
        have HKZ := hide hkw
        have hzz := hz
        obtain ⟨vq, hbq, heq⟩ := HE.out
        have dq : wr.cell? ⟨g, 1, none⟩ = some (.int .i64 er) := by have := hbq.cell 1; simpa using this
        obtain ⟨z0, z1, z2, z3, z4, z5, z6, z7, z8, z9, z10⟩ := rblk hzz
        obtain ⟨f0, f1, f2, f3, f4, f5, f6, f7, f8, f9, f10⟩ := rfrz hzz
        obtain ⟨hB9, hC9⟩ := rput hzz (.int .i64 0) (.int .u64 0) (.int .u64 0) (.int .u64 0) (.slice none 0 0) (.slice none 0 0) (.bool false) (.slice none 0 0) (.slice none 0 0) (.int .u64 0) (.string ⟨#[]⟩)
        have HB9 := hide hB9
        have HC9 := hide hC9
        clear hbq hzz hB9 hC9
        go_upto_region 16 with fail
        go_region
        all_goals
          generalize World.setCell _ _ _ = wz at HB9 HC9 ⊢
          clear z0 z1 z2 z3 z4 z5 z6 z7 z8 z9 z10 f0 f1 f2 f3 f4 f5 f6 f7 f8 f9 f10 dq
          go_wp2_with fail
          have hB9 := HB9.out
          obtain ⟨a0, a1, a2, a3, a4, a5, a6, a7, a8, a9, a10⟩ := rblk hB9
          refine bodyPost_ret (v := .tuple #[.agg #[.int .i64 0, .int .u64 0, .int .u64 0, .int .u64 0, .slice none 0 0, .slice none 0 0, .bool false, .slice none 0 0, .slice none 0 0, .int .u64 0, .string ⟨#[]⟩], .int .i64 er]) (by simp [results, Try.results14, go_sem, a0, a1, a2, a3, a4, a5, a6, a7, a8, a9, a10]) rfl ?_
          exact ⟨er, heq, rfl, (HKZ.out.trans HC9.out fun k hk e => by omega).drew⟩
end Go.Proofs.Ytpbgjldjipgfeaa

namespace Go.Proofs.Ytpbgjldjipgfeaa
open Go.RowKit
set_option linter.unusedVariables false

theorem recRead {w : World} {F : Nat → Prop} {v : Value} {x : RcS} (hr : RdB w F v (recY x)) (hs : RcSm x) (hwf : RcWf x) (hk : 1 ≤ x.kind ∧ x.kind ≤ 9) :
    Calls Try.prog 14 #[v] w fun e w' => ∃ a b c d xs ys, e = .returned (.tuple #[.agg (recC (trimR x) a b c d), .int .i64 0]) ∧ RecOwn w' w.heap.size (trimR x) a b c d xs ys ∧ Chg Non w w' := by
  rcases (show x.kind = 1 ∨ (x.kind = 2 ∨ x.kind = 3 ∨ x.kind = 9) ∨ x.kind = 4 ∨ (x.kind = 5 ∨ x.kind = 7 ∨ x.kind = 8) ∨ x.kind = 6 by omega) with h | h | h | h | h
  · exact recRead_W hr hs hwf h
  · exact recRead_T hr hs hwf h
  · exact recRead_O hr hs hwf h
  · exact recRead_I hr hs hwf h
  · exact recRead_D hr hs hwf h
theorem recReadN {w : World} {F : Nat → Prop} {v : Value} {x : RcS} (hr : RdB w F v (recY x)) (hk : ¬ (1 ≤ x.kind ∧ x.kind ≤ 9)) :
    Calls Try.prog 14 #[v] w fun e w' => ∃ er, er ≠ 0 ∧ e = .returned (.tuple #[.agg zeroC, .int .i64 er]) ∧ Chg Non w w' := by
  have hy : recY x = joinB [[kiB x.kind]] := by rw [recY, fldR_not hk]
  rw [hy] at hr
  refine recReadK (k := kiB x.kind) hr ?_ (splitB_join _ ⟨by simp, fun l hl => by simp at hl; subst hl; simp⟩)
  have := joinB_len [[kiB x.kind]]
  simp at this
  omega
/-- the record of the fixed fact -/
def aw6 : RcS := { zeroR with kind := 2, boot := 1, sess := 2, seq := 300 }
theorem RecOwn.sl {w : World} {base : Nat} {x : RcS} {a b c d : Value} {xs ys : List (Value × Value)} (h : RecOwn w base x a b c d xs ys) : (∃ A n c, a = .slice A n c) ∧ (∃ A n c, b = .slice A n c) ∧ (∃ A n e, c = .slice A n e) ∧ ∃ A n c, d = .slice A n c :=
  ⟨RdV.sl (RdV.of_own h.ws), RdV.sl (RdV.of_own h.rs), RdV.sl (RdV.of_own h.sh), (h.ps.1 (d, x.reply) (by simp)).sl⟩

set_option maxHeartbeats 4000000 in
set_option maxRecDepth 100000 in
theorem awake06 {w : World} : Calls Try.prog 7 #[] w fun e w' => e = .returned (.bool true) ∧ Chg Non w w' := by
  have hs : RcSm aw6 := ⟨by decide, by decide, by decide, by decide, by decide, by decide, by decide⟩
  have hwf : RcWf aw6 := ⟨⟨by unfold U64; decide, by unfold U64; decide, by unfold U64; decide, by unfold U64; decide⟩, fun s hs => by cases hs⟩
  have hr : RecR w Non aw6 (.slice none 0 0) (.slice none 0 0) (.slice none 0 0) (.slice none 0 0) := ⟨RdW.nil_ _ _, RdW.nil_ _ _, RdV.nil_ _ _ _, RdB.nil_ _ _, hwf.u.1, hwf.u.2.1, hwf.u.2.2.1, hwf.u.2.2.2, by decide⟩
  have hb := recBytes hr hs
  have hy : recY aw6 = [2, 1, 2, 5, 1, 2, 249, 1, 44] := by decide +kernel
  have ht : trimR aw6 = aw6 := by rfl
  have hrd := fun (w' : World) (F : Nat → Prop) (v : Value) (h : RdB w' F v (recY aw6)) => recRead_T h hs hwf (.inl rfl)
  rw [hy] at hb
  simp only [ht, hy] at hrd
  have HB := hide hb
  have HR := hide hrd
  clear hr hb hrd hy ht hs hwf
  unfold recC at HB HR
  simp only [aw6, zeroR] at HB HR
  go_enter Try.func7, Try.ntmps7
  go_wp2_with fail
  refine HB.out.mono ?_
  rintro e w1 ⟨u, rfl, hu, hc1⟩
  go_wp2_with fail
  refine (HR.out w1 _ u hu.rd).mono ?_
  rintro e w2 ⟨a, b, c, d, xs, ys, rfl, hO, hc2⟩
  obtain ⟨⟨a1, a2, a3, rfl⟩, ⟨b1, b2, b3, rfl⟩, ⟨c1, c2, c3, rfl⟩, ⟨d1, d2, d3, rfl⟩⟩ := hO.sl
  have hu2 := hu.c0 hc2
  have hc12 := hc1.trans0 hc2
  clear hO hu
  go_upto_region 3 with fail
  have hB := Blk.new w2 32 #[.int .i64 2, .int .u64 ((1 : Nat) : Int), .int .u64 ((2 : Nat) : Int), .int .u64 ((300 : Nat) : Int), .slice a1 a2 a3, .slice b1 b2 b3, .bool false, .slice c1 c2 c3, .slice d1 d2 d3, .int .u64 ((0 : Nat) : Int), .string ⟨#[]⟩]
  have hk3 := hc12.alloc (.cells #[.int .i64 2, .int .u64 ((1 : Nat) : Int), .int .u64 ((2 : Nat) : Int), .int .u64 ((300 : Nat) : Int), .slice a1 a2 a3, .slice b1 b2 b3, .bool false, .slice c1 c2 c3, .slice d1 d2 d3, .int .u64 ((0 : Nat) : Int), .string ⟨#[]⟩] 32)
  have hu3 := hu2.al (.cells #[.int .i64 2, .int .u64 ((1 : Nat) : Int), .int .u64 ((2 : Nat) : Int), .int .u64 ((300 : Nat) : Int), .slice a1 a2 a3, .slice b1 b2 b3, .bool false, .slice c1 c2 c3, .slice d1 d2 d3, .int .u64 ((0 : Nat) : Int), .string ⟨#[]⟩] 32)
  generalize World.alloc _ _ = w3 at hB hk3 hu3 ⊢
  have hlit := RdB.lit w3 5 (0, 0) #[.int .u8 2, .int .u8 1, .int .u8 2, .int .u8 5, .int .u8 1, .int .u8 2, .int .u8 249, .int .u8 1, .int .u8 44] [2, 1, 2, 5, 1, 2, 249, 1, 44] 9 rfl rfl (by simp [maxLen])
  have heq := refEqual_true (hu3.al (.cells #[.int .u8 2, .int .u8 1, .int .u8 2, .int .u8 5, .int .u8 1, .int .u8 2, .int .u8 249, .int .u8 1, .int .u8 44] 5)).rd hlit
  have hk4 := hk3.alloc (.cells #[.int .u8 2, .int .u8 1, .int .u8 2, .int .u8 5, .int .u8 1, .int .u8 2, .int .u8 249, .int .u8 1, .int .u8 44] 5)
  have hB4 := hB.al (.cells #[.int .u8 2, .int .u8 1, .int .u8 2, .int .u8 5, .int .u8 1, .int .u8 2, .int .u8 249, .int .u8 1, .int .u8 44] 5)
  have HE := hide heq
  have HK := hide hk4
  have HB4 := hide hB4
  clear heq hk4 hB4 hlit hu2 hu3 hB hk3 hc12
  go_wp2_with (go_at_call 10; refine HE.out.mono ?_; rintro e w5 ⟨rfl, hq⟩; have hB5 := HB4.out.c0 ((Chg.refl Non _).quiet hq); have q3 := hB5.cell 3; simp at q3)
  go_ret
  exact ⟨rfl, HK.out.quiet hq⟩
end Go.Proofs.Ytpbgjldjipgfeaa

namespace Go.Proofs.Ytpbgjldjipgfeaa
open Go.RowKit
set_option linter.unusedVariables false

theorem trimR_kind (x : RcS) : (trimR x).kind = x.kind := by
  unfold trimR
  split
  · rfl
  split
  · rfl
  split
  · rfl
  split
  · rfl
  split
  · rfl
  · rfl
theorem trimR_fld {x : RcS} (hk : 1 ≤ x.kind ∧ x.kind ≤ 9) : fldR (trimR x) = fldR x := by
  obtain ⟨k, a1, a2, a3, a4, a5, a6, a7, a8, a9, a10⟩ := x
  simp only at hk
  rcases (show k = 1 ∨ k = 2 ∨ k = 3 ∨ k = 4 ∨ k = 5 ∨ k = 6 ∨ k = 7 ∨ k = 8 ∨ k = 9 by omega) with rfl | rfl | rfl | rfl | rfl | rfl | rfl | rfl | rfl <;> rfl
theorem trimR_Y {x : RcS} (hk : 1 ≤ x.kind ∧ x.kind ≤ 9) : recY (trimR x) = recY x := by rw [recY, recY, trimR_fld hk, trimR_kind]
theorem RcSm.trim {x : RcS} (h : RcSm x) : RcSm (trimR x) := by
  have z1 : triW [] ≤ 1048576 := by decide
  have z2 : ([] : List WrS).length ≤ 1048576 := by decide
  have z3 : ([] : List Int).length ≤ 1048576 := by decide
  have z4 : ([] : List UInt8).length ≤ 1048576 := by decide
  have z5 : (ByteArray.mk #[]).size ≤ 1048576 := by decide
  unfold trimR
  split
  · exact ⟨h.ws, h.rs, h.wn, h.rn, z3, z4, z5⟩
  split
  · exact ⟨z1, z1, z2, z2, z3, z4, z5⟩
  split
  · exact ⟨h.ws, z1, h.wn, z2, z3, h.rep, z5⟩
  split
  · exact ⟨z1, z1, z2, z2, z3, z4, h.nm⟩
  split
  · exact ⟨z1, z1, z2, z2, h.sh, h.rep, z5⟩
  · exact ⟨z1, z1, z2, z2, z3, z4, z5⟩
theorem RcWf.trim {x : RcS} (h : RcWf x) : U64 (trimR x).boot ∧ U64 (trimR x).sess ∧ U64 (trimR x).seq ∧ U64 (trimR x).id := by
  have z : U64 0 := by unfold U64; decide
  obtain ⟨u1, u2, u3, u4⟩ := h.u
  unfold trimR
  split
  · exact ⟨u1, u2, u3, z⟩
  split
  · exact ⟨u1, u2, u3, z⟩
  split
  · exact ⟨u1, u2, u3, z⟩
  split
  · exact ⟨z, z, z, u4⟩
  split
  · exact ⟨u1, u2, u3, z⟩
  · exact ⟨z, z, z, z⟩
theorem RecOwn.rdT {w : World} {base : Nat} {x : RcS} {a b c d : Value} {xs ys : List (Value × Value)} (h : RecOwn w base (trimR x) a b c d xs ys) (hwf : RcWf x) (hk : (Lit.int .i64 x.kind).wf = true) : RecR w (fun k => base ≤ k) (trimR x) a b c d :=
  h.rd hwf.trim (by rw [trimR_kind]; exact hk)

theorem readPost {w : World} {F : Nat → Prop} {v : Value} {x : RcS} {l : List UInt8} (hr : RdB w F v (recY x ++ l)) (hs : RcSm x) (hwf : RcWf x) (hl : l.length ≤ 1048576) :
    Calls Try.prog 14 #[v] w fun e w' => ∃ y A1 n1 k1 A2 n2 k2 A3 n3 k3 A4 n4 k4 er, e = .returned (.tuple #[.agg (recC y (.slice A1 n1 k1) (.slice A2 n2 k2) (.slice A3 n3 k3) (.slice A4 n4 k4)), .int .i64 er]) ∧ (0 < l.length → er ≠ 0 ∧ y.kind = 0) ∧ Chg Non w w' := by
  have hy := recY_len x hs
  by_cases h : 0 < l.length
  · refine (recReadE (er := 3) hr (by rw [List.length_append]; omega) (by rw [recY, splitB_joinB _ (fits_rec hs), if_pos h]) (by decide)).mono ?_
    rintro e w' ⟨er, he, rfl, hc⟩
    exact ⟨zeroR, none, 0, 0, none, 0, 0, none, 0, 0, none, 0, 0, er, rfl, fun _ => ⟨he, rfl⟩, hc⟩
  · have h0 : l = [] := List.eq_nil_of_length_eq_zero (by omega)
    subst h0
    rw [List.append_nil] at hr
    by_cases hk : 1 ≤ x.kind ∧ x.kind ≤ 9
    · refine (recRead hr hs hwf hk).mono ?_
      rintro e w' ⟨a, b, c, d, xs, ys, rfl, hO, hc⟩
      obtain ⟨⟨A1, n1, k1, rfl⟩, ⟨A2, n2, k2, rfl⟩, ⟨A3, n3, k3, rfl⟩, ⟨A4, n4, k4, rfl⟩⟩ := hO.sl
      exact ⟨_, _, _, _, _, _, _, _, _, _, _, _, _, _, rfl, fun h => absurd h (by simp), hc⟩
    · refine (recReadN hr hk).mono ?_
      rintro e w' ⟨er, he, rfl, hc⟩
      exact ⟨zeroR, none, 0, 0, none, 0, 0, none, 0, 0, none, 0, 0, er, rfl, fun h => absurd h (by simp), hc⟩
end Go.Proofs.Ytpbgjldjipgfeaa
