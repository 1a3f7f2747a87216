/- The walk of rec.Read where it refuses. -/
import Derived.Test.YtpbgjldjipgfeaaRecW
namespace Go.Proofs.Ytpbgjldjipgfeaa
open Go.RowKit
set_option linter.unusedVariables false

theorem recFieldB {w : World} {g o : Nat} {c : Int} (h : RdBad w g) (hbx : RecBox w o) (hog : o ≠ g) (hc : c ∈ ([84, 87, 82, 67, 83, 65, 73, 78] : List Int)) :
    Calls Try.prog 37 #[.pointer (some ⟨g, 0, none⟩), .pointer (some ⟨o, 0, none⟩), .int .i32 c] w fun e w' => e = .returned (.tuple #[]) ∧ ∃ er, RecBox w' o ∧ RdErr w' g er ∧ Chg (fun k => k = g ∨ k = o) w w' := by
  simp only [List.mem_cons, List.mem_nil_iff, or_false] at hc
  rcases hc with rfl | rfl | rfl | rfl | rfl | rfl | rfl | rfl
  · exact recFieldTB h hbx hog
  · exact recFieldWB h hbx hog
  · exact recFieldRB h hbx hog
  · exact recFieldCB h hbx hog
  · exact recFieldSB h hbx hog
  · exact recFieldAB h hbx hog
  · exact recFieldIB h hbx hog
  · exact recFieldNB h hbx hog
set_option maxHeartbeats 16000000 in
set_option maxRecDepth 100000 in
theorem fldS_letters (k : Int) : ∀ (i : Nat) (h : i < (fldS k).size), ((((fldS k)[i]'h).toNat : Nat) : Int) ∈ ([84, 87, 82, 67, 83, 65, 73, 78] : List Int) := by
  have q0 : ∀ (i : Nat) (h : i < (⟨#[84, 87, 82]⟩ : ByteArray).size), (((((⟨#[84, 87, 82]⟩ : ByteArray)[i]'h).toNat : Nat) : Int)) ∈ ([84, 87, 82, 67, 83, 65, 73, 78] : List Int) := by decide
  have q1 : ∀ (i : Nat) (h : i < (⟨#[84]⟩ : ByteArray).size), (((((⟨#[84]⟩ : ByteArray)[i]'h).toNat : Nat) : Int)) ∈ ([84, 87, 82, 67, 83, 65, 73, 78] : List Int) := by decide
  have q2 : ∀ (i : Nat) (h : i < (⟨#[84, 87, 65]⟩ : ByteArray).size), (((((⟨#[84, 87, 65]⟩ : ByteArray)[i]'h).toNat : Nat) : Int)) ∈ ([84, 87, 82, 67, 83, 65, 73, 78] : List Int) := by decide
  have q3 : ∀ (i : Nat) (h : i < (⟨#[73, 78]⟩ : ByteArray).size), (((((⟨#[73, 78]⟩ : ByteArray)[i]'h).toNat : Nat) : Int)) ∈ ([84, 87, 82, 67, 83, 65, 73, 78] : List Int) := by decide
  have q4 : ∀ (i : Nat) (h : i < (⟨#[84, 67, 83, 65]⟩ : ByteArray).size), (((((⟨#[84, 67, 83, 65]⟩ : ByteArray)[i]'h).toNat : Nat) : Int)) ∈ ([84, 87, 82, 67, 83, 65, 73, 78] : List Int) := by decide
  have q5 : ∀ (i : Nat) (h : i < (⟨#[]⟩ : ByteArray).size), (((((⟨#[]⟩ : ByteArray)[i]'h).toNat : Nat) : Int)) ∈ ([84, 87, 82, 67, 83, 65, 73, 78] : List Int) := by decide
  unfold fldS
  split
  · exact q0
  split
  · exact q1
  split
  · exact q2
  split
  · exact q3
  split
  · exact q4
  · exact q5
theorem RdErr.iterAt {w : World} {g : Nat} {er : Int} {k : Nat} {s : ByteArray} {pos : Nat} (h : RdErr w g er) (hk : w.heap[k]? = some (.stringIter s pos)) (pos' : Nat) : RdErr (w.iterAt k s pos') g er := by
  obtain ⟨v, h1, h2⟩ := h
  exact ⟨v, h1.iterAt hk pos', h2⟩
/-- what is no frame is refused -/
theorem recReadE {w : World} {F : Nat → Prop} {v : Value} {b : List UInt8} {er : Int} (hr : RdB w F v b) (hl : b.length < 1000000000000) (hsp : splitB b = ([], er)) (he : er ≠ 0) :
    Calls Try.prog 14 #[v] w fun e w' => ∃ er, er ≠ 0 ∧ e = .returned (.tuple #[.agg zeroC, .int .i64 er]) ∧ Chg Non w w' := by
  obtain ⟨hz0, hg0, hk0⟩ := box2 w zeroC #[.slice none 0 0, .int .i64 0] 32 78
  have hr0 := hr.c0 hk0
  clear hr
  unfold zeroC at *
  go_enter Try.func14, Try.ntmps14
  go_upto_region 2 with fail
  obtain ⟨g, hg⟩ : ∃ g, g = w.heap.size + 1 := ⟨_, rfl⟩
  have hszg : ((w.alloc (.cells #[.int .i64 0, .int .u64 0, .int .u64 0, .int .u64 0, .slice none 0 0, .slice none 0 0, .bool false, .slice none 0 0, .slice none 0 0, .int .u64 0, .string ⟨#[]⟩] 32)).alloc (.cells #[.slice none 0 0, .int .i64 0] 78)).heap.size = g + 1 := by rw [hg]; simp
  rw [← hg] at hg0 ⊢
  have hgw : w.heap.size < g := by omega
  clear hg
  generalize World.alloc _ _ = w2 at hz0 hg0 hk0 hr0 hszg ⊢
  have hspl := packSplit hr0 (by omega)
  rw [hsp] at hspl
  clear hr0
  go_upto_region 3 with (go_at_call 35; refine hspl.mono ?_; rintro e w3 ⟨u3, rfl, hO3, hc3⟩; obtain ⟨U3, m3, rfl, hm3, hmm3⟩ := hO3.shape; have f0 := (hg0.c0 hc3).frozen 0; have f1 := (hg0.c0 hc3).frozen 1; have z0 : w3.cell? ⟨g, 0, none⟩ = some (.slice none 0 0) := (hg0.c0 hc3).cell 0; have z1 : w3.cell? ⟨g, 1, none⟩ = some (.int .i64 0) := (hg0.c0 hc3).cell 1)
  have hB5 := ((hg0.c0 hc3).set_ 0 (.slice U3 0 m3)).set_ 1 (.int .i64 er)
  simp only [List.setIfInBounds_toArray, List.set_cons_succ, List.set_cons_zero] at hB5
  have hc5 : Chg (fun k => k = g) w3 ((w3.setCell ⟨g, 0, none⟩ (.slice U3 0 m3)).setCell ⟨g, 1, none⟩ (.int .i64 er)) := ((Chg.refl (fun k => k = g) w3).setCell (p := ⟨g, 0, none⟩) (fun _ => rfl) _).setCell (p := ⟨g, 1, none⟩) (fun _ => rfl) _
  have hz5 := (hz0.c0 hc3).chg hc5 (by omega)
  have hk5 : Chg Non w _ := (hk0.trans0 hc3).trans hc5 fun k hk e => by omega
  clear hspl hO3 f0 f1 z0 z1 hg0 hz0
  generalize World.setCell _ _ _ = w5 at hB5 hc5 hz5 hk5 ⊢
  have hE5 : RdErr w5 g er := ⟨_, hB5, he⟩
  have hn5 := recNextE hE5
  have e1 : (er == 0) = false := beq_eq_false_iff_ne.2 he
  have e2 : (er != 0) = true := by simp [he]
  have d5 : w5.cell? ⟨g, 1, none⟩ = some (.int .i64 er) := hB5.cell 1
  clear hB5
  go_wp2_with fail
  refine hn5.mono ?_
  rintro e w6 ⟨rfl, rfl⟩
  clear hn5
  have HKZ := hide hk5
  have hzz := hz5
  obtain ⟨vq, hbq, heq⟩ := hE5
  have dq : w6.cell? ⟨g, 1, none⟩ = some (.int .i64 er) := by have := hbq.cell 1; simpa using this
  obtain ⟨z0, z1, z2, z3, z4, z5, z6, z7, z8, z9, z10⟩ := rblk hzz
  obtain ⟨f0, f1, f2, f3, f4, f5, f6, f7, f8, f9, f10⟩ := rfrz hzz
  obtain ⟨hB9, hC9⟩ := rput hzz (.int .i64 0) (.int .u64 0) (.int .u64 0) (.int .u64 0) (.slice none 0 0) (.slice none 0 0) (.bool false) (.slice none 0 0) (.slice none 0 0) (.int .u64 0) (.string ⟨#[]⟩)
  have HB9 := hide hB9
  have HC9 := hide hC9
  clear hbq hzz hB9 hC9
  go_upto_region 7 with fail
  go_region
  all_goals
    generalize World.setCell _ _ _ = wz at HB9 HC9 ⊢
    clear z0 z1 z2 z3 z4 z5 z6 z7 z8 z9 z10 f0 f1 f2 f3 f4 f5 f6 f7 f8 f9 f10 dq
    go_wp2_with fail
    have hB9 := HB9.out
    obtain ⟨a0, a1, a2, a3, a4, a5, a6, a7, a8, a9, a10⟩ := rblk hB9
    refine bodyPost_ret (v := .tuple #[.agg #[.int .i64 0, .int .u64 0, .int .u64 0, .int .u64 0, .slice none 0 0, .slice none 0 0, .bool false, .slice none 0 0, .slice none 0 0, .int .u64 0, .string ⟨#[]⟩], .int .i64 er]) (by simp [results, Try.results14, go_sem, a0, a1, a2, a3, a4, a5, a6, a7, a8, a9, a10]) rfl ?_
    exact ⟨er, heq, rfl, (HKZ.out.trans HC9.out fun k hk e => by omega).drew⟩
end Go.Proofs.Ytpbgjldjipgfeaa
