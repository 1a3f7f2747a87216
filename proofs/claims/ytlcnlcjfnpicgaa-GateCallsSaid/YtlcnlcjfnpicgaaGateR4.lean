/- The walks of groyneref20's Begin and Answer. -/
import Derived.Test.YtlcnlcjfnpicgaaGateR2
namespace Go.Proofs.Ytlcnlcjfnpicgaa
open Go.RowKit Go.Maps

def z9 : Array Value := #[.int .i64 0, .bool false, .bool false, .int .u64 0, .string ⟨#[]⟩, .int .u64 0, .int .i64 0, .slice none 0 0, .slice none 0 0]
theorem box9 (w : World) (cs : Array Value) : Blk ((w.alloc (.cells cs 30)).alloc (.cells z9 30)) w.heap.size 30 cs ∧
    Blk ((w.alloc (.cells cs 30)).alloc (.cells z9 30)) (w.heap.size + 1) 30 z9 ∧ Chg Non w ((w.alloc (.cells cs 30)).alloc (.cells z9 30)) := by
  have h := Blk.new (w.alloc (.cells cs 30)) 30 z9
  rw [show (w.alloc (.cells cs 30)).heap.size = w.heap.size + 1 from by simp] at h
  exact ⟨(Blk.new w _ cs).al _, h, ((Chg.refl Non w).alloc _).alloc _⟩

set_option maxHeartbeats 2000000 in
set_option maxRecDepth 100000 in
theorem refBusy {w : World} {F : Nat → Prop} {v mw rw : Value} {s : GSt} {id : Nat} {name : ByteArray} (h : RefAt w F v mw rw s) (hs : s.shut = true) :
    Calls Try.prog 19 #[v, .int .u64 (id : Int), .string name] w fun e w' => e = .returned (.tuple #[v, .int .i64 14]) ∧ Chg Non w w' := by
  obtain ⟨rfl, hm, hr, hln, h20⟩ := h
  obtain ⟨A, c, rfl, hc, hmx⟩ := hm.shape
  obtain ⟨B, d, rfl, hd, hmd⟩ := hr.shape
  obtain ⟨b3, b6, k3⟩ := box9 w (rcells s (.slice A s.n c) (.slice B s.res.length d))
  unfold rcells z9 at *
  rw [hs] at *
  clear hm hr hln h20 hc hmx hd hmd hs
  generalize hWW : (w.alloc _).alloc _ = WW at b3 b6 k3
  obtain ⟨a0, a1, a2, a3, a4, a5, a6, a7, a8⟩ := blk9 b3
  obtain ⟨f0, f1, f2, f3, f4, f5, f6, f7, f8⟩ := frz9 b6
  obtain ⟨c0, c1, c2, c3, c4, c5, c6, c7, c8⟩ := blk9 b6
  have hp9 := put9 b6 (.int .i64 s.p) (.bool true) (.bool s.cut) (.int .u64 (s.id : Int)) (.string s.name) (.int .u64 (s.at_ : Int)) (.int .i64 s.age) (.slice A s.n c) (.slice B s.res.length d)
  obtain ⟨hB9, hC9⟩ := hp9
  have hk : Chg Non w _ := k3.trans hC9 fun k hk e => by omega
  clear b3 b6 k3 hC9
  go_enter Try.func19, Try.ntmps19
  go_wp2_with fail
  generalize World.setCell _ _ _ = w9 at hB9 hk ⊢
  clear a0 a1 a2 a3 a4 a5 a6 a7 a8 c0 c1 c2 c3 c4 c5 c6 c7 c8 f0 f1 f2 f3 f4 f5 f6 f7 f8
  obtain ⟨a0, a1, a2, a3, a4, a5, a6, a7, a8⟩ := blk9 hB9
  exact bodyPost_ret (v := .tuple #[.agg #[.int .i64 s.p, .bool true, .bool s.cut, .int .u64 (s.id : Int), .string s.name, .int .u64 (s.at_ : Int), .int .i64 s.age, .slice A s.n c, .slice B s.res.length d], .int .i64 14]) (by simp [results, Try.results19, go_sem, a0, a1, a2, a3, a4, a5, a6, a7, a8]) rfl ⟨rfl, hk⟩

set_option maxHeartbeats 4000000 in
set_option maxRecDepth 100000 in
theorem refBegin {w : World} {F : Nat → Prop} {v mw rw : Value} {s : GSt} {id : Nat} {name : ByteArray} (h : RefAt w F v mw rw s) (hs : s.shut = false) (hp : 1 ≤ s.p) :
    Calls Try.prog 19 #[v, .int .u64 (id : Int), .string name] w fun e w' => ∃ v' mw', e = .returned (.tuple #[v', .int .i64 0]) ∧
      RefAt w' (fun k => F k ∨ w.heap.size ≤ k) v' mw' rw { s with shut := true, cut := false, id := id, name := name, at_ := 0, age := 0, ms := List.replicate s.n none } ∧ Chg Non w w' := by
  have h0 := h
  obtain ⟨rfl, hm, hr, hln, h20⟩ := h
  obtain ⟨A, c, rfl, hc, hmx⟩ := hm.shape
  obtain ⟨B, d, rfl, hd, hmd⟩ := hr.shape
  obtain ⟨b3, b6, k3⟩ := box9 w (rcells s (.slice A s.n c) (.slice B s.res.length d))
  have hcall := refNew ((w.alloc (.cells (rcells s (.slice A s.n c) (.slice B s.res.length d)) 30)).alloc (.cells z9 30)) (s.n : Int) s.p (by omega)
  rw [Int.toNat_natCast, show max 1 s.p = s.p from by omega] at hcall
  have HP := hide hp
  unfold rcells z9 at *
  rw [hs] at *
  have HR := hide (hr.lt (by omega))
  have H20 := hide h20
  clear hm hr hln h20 hc hmx hd hmd hs h0 hp
  generalize hWW : (w.alloc _).alloc _ = WW at b3 b6 k3 hcall
  have HB6 := hide b6.lt
  obtain ⟨a0, a1, a2, a3, a4, a5, a6, a7, a8⟩ := blk9 b3
  go_enter Try.func19, Try.ntmps19
  go_wp2_with fail
  refine hcall.mono ?_
  rintro e w1 ⟨vn, mn, rfl, hn, k1⟩
  obtain ⟨An, cn, rfl, hcn, hmn⟩ := (show RdV w1 _ 2 mn s.n _ from hn.m).shape
  have hnv : vn = .agg #[.int .i64 s.p, .bool false, .bool false, .int .u64 0, .string ⟨#[]⟩, .int .u64 0, .int .i64 0, .slice An s.n cn, .slice none 0 0] := hn.v
  subst hnv
  have HN := hide (show RdV w1 (fun k => WW.heap.size ≤ k) 2 (.slice An s.n cn) s.n (mks (List.replicate s.n none)) from hn.m)
  have b3' := b3.c0 k1
  have b6' := b6.c0 k1
  have z1 := b6'.lt
  have hy8a := (b3'.al (.cells #[.int .i64 s.p, .bool false, .bool false, .int .u64 0, .string ⟨#[]⟩, .int .u64 0, .int .i64 0, .slice An s.n cn, .slice none 0 0] 30)).cell 8
  simp at hy8a
  have k1' := (k3.trans0 k1).alloc (.cells #[.int .i64 s.p, .bool true, .bool false, .int .u64 (id : Int), .string name, .int .u64 0, .int .i64 0, .slice An s.n cn, .slice B s.res.length d] 30)
  have y6 := b6'.al (.cells #[.int .i64 s.p, .bool true, .bool false, .int .u64 (id : Int), .string name, .int .u64 0, .int .i64 0, .slice An s.n cn, .slice B s.res.length d] 30)
  have y8 := Blk.new w1 30 #[.int .i64 s.p, .bool true, .bool false, .int .u64 (id : Int), .string name, .int .u64 0, .int .i64 0, .slice An s.n cn, .slice B s.res.length d]
  have r1 := HN.out.chg ((Chg.refl Non w1).alloc (.cells #[.int .i64 s.p, .bool true, .bool false, .int .u64 (id : Int), .string name, .int .u64 0, .int .i64 0, .slice An s.n cn, .slice B s.res.length d] 30)) fun _ _ h => h
  have r2 := HR.out.chg k1' fun _ _ h => h
  have HS := hide k3.size
  have Z1 := hide z1
  have Y6 := hide y6
  have Y8 := hide y8
  have K1 := hide k1'
  have R1 := hide r1
  have R2 := hide r2
  clear hWW a0 a1 a2 a3 a4 a5 a6 a7 a8 hn hcn hmn b3 b6 b3' b6' k1' k3 k1 r1 r2 y6 y8 z1 HN
  go_upto_region 8 with fail
  generalize w1.alloc _ = w2 at Y6 Y8 K1 R1 R2 ⊢
  clear hy8a
  obtain ⟨a0, a1, a2, a3, a4, a5, a6, a7, a8⟩ := blk9 Y8.out
  obtain ⟨c0, c1, c2, c3, c4, c5, c6, c7, c8⟩ := blk9 Y6.out
  obtain ⟨f0, f1, f2, f3, f4, f5, f6, f7, f8⟩ := frz9 Y6.out
  have hp9 := put9 Y6.out (.int .i64 s.p) (.bool true) (.bool false) (.int .u64 (id : Int)) (.string name) (.int .u64 0) (.int .i64 0) (.slice An s.n cn) (.slice B s.res.length d)
  obtain ⟨hB9, hC9⟩ := hp9
  go_wp2_with fail
  generalize World.setCell _ _ _ = w9 at hB9 hC9 ⊢
  clear a0 a1 a2 a3 a4 a5 a6 a7 a8 c0 c1 c2 c3 c4 c5 c6 c7 c8 f0 f1 f2 f3 f4 f5 f6 f7 f8
  obtain ⟨a0, a1, a2, a3, a4, a5, a6, a7, a8⟩ := blk9 hB9
  refine bodyPost_ret (v := .tuple #[.agg #[.int .i64 s.p, .bool true, .bool false, .int .u64 (id : Int), .string name, .int .u64 0, .int .i64 0, .slice An s.n cn, .slice B s.res.length d], .int .i64 0]) (by simp [results, Try.results19, go_sem, a0, a1, a2, a3, a4, a5, a6, a7, a8]) rfl ⟨_, .slice An s.n cn, rfl, ⟨rfl, ?_, ?_, by simp, H20.out⟩, ?_⟩
  · exact (R1.out.chg hC9 fun k hk e => by have := HB6.out; omega).mono fun k hk => .inr (by have := HS.out; omega)
  · exact (R2.out.chg hC9 fun k hk e => by have := hk.2; omega).mono fun k hk => .inl hk.1
  · exact K1.out.trans hC9 fun k hk e => by omega

theorem res9 {w : World} {a0 a1 a2 a3 a4 a5 a6 a7 a8 : Value} :
    Blk ((w.alloc (.cells #[a0, a1, a2, a3, a4, a5, a6, a7, a8] 30)).alloc (.cells #[a0, a1, a2, a3, a4, a5, a6, a7, a8] 30)) (w.heap.size + 1) 30 #[a0, a1, a2, a3, a4, a5, a6, a7, a8] := by
  have h := Blk.new (w.alloc (.cells #[a0, a1, a2, a3, a4, a5, a6, a7, a8] 30)) 30 #[a0, a1, a2, a3, a4, a5, a6, a7, a8]
  rw [show (w.alloc (.cells #[a0, a1, a2, a3, a4, a5, a6, a7, a8] 30)).heap.size = w.heap.size + 1 from by simp] at h
  exact h
set_option hygiene false in
local macro "ans_end" : tactic => `(tactic| (
  obtain ⟨a0, a1, a2, a3, a4, a5, a6, a7, a8⟩ := blk9 HB9.out
  generalize (w.alloc _).alloc _ = w9 at a0 a1 a2 a3 a4 a5 a6 a7 a8 HK ⊢
  refine bodyPost_ret (v := _) (by simp [results, Try.results23, go_sem, a0, a1, a2, a3, a4, a5, a6, a7, a8]) rfl ⟨rfl, HK.out⟩))
set_option maxHeartbeats 4000000 in
set_option maxRecDepth 100000 in
theorem refAnswerNo {w : World} {F : Nat → Prop} {v mw rw : Value} {s : GSt} (i kind : Int) (id : Nat) (err : Int) (a : Nat) (h : RefAt w F v mw rw s) (hno : ¬ (knownS s i kind id err ∧ mh s.ms i.toNat = false)) :
    Calls Try.prog 23 #[v, .int .i64 i, .int .i64 kind, .int .u64 (id : Int), .int .i64 err, .int .u64 (a : Int)] w fun e w' => e = .returned v ∧ Chg Non w w' := by
  obtain ⟨rfl, hm, hr, hln, h20⟩ := h
  obtain ⟨A, c, rfl, hc, hmx⟩ := hm.shape
  obtain ⟨B, d, rfl, hd, hmd⟩ := hr.shape
  have HR := hide hr
  have HL := hide hln
  have HM := hide hm
  have d0 : (decide (i < 0) = true) ∨ (decide (i < 0) = false ∧ decide ((s.n : Int) ≤ i) = true) ∨ (0 ≤ i ∧ i < s.n ∧ decide (i < 0) = false ∧ decide ((s.n : Int) ≤ i) = false) := by
    by_cases h1 : i < 0
    · exact .inl (decide_eq_true h1)
    · by_cases h2 : (s.n : Int) ≤ i
      · exact .inr (.inl ⟨decide_eq_false h1, decide_eq_true h2⟩)
      · exact .inr (.inr ⟨by omega, by omega, decide_eq_false h1, decide_eq_false h2⟩)
  have d1 : ((kind != 6) = false ∧ (((id : Int) != (s.id : Int)) = false ∧ (id != s.id) = false) ∧ (err != 0) = true) ∨ ((kind != 6) = false ∧ ((id : Int) != (s.id : Int)) = true ∧ (id != s.id) = true) ∨ (kind != 6) = true ∨ ((kind = 6 ∧ id = s.id ∧ err = 0) ∧ (kind != 6) = false ∧ (((id : Int) != (s.id : Int)) = false ∧ (id != s.id) = false) ∧ (err != 0) = false) := by
    by_cases h1 : kind = 6
    · by_cases h2 : id = s.id
      · by_cases h3 : err = 0
        · exact .inr (.inr (.inr ⟨⟨h1, h2, h3⟩, by simp [h1], ⟨by simp [h2], by simp [h2]⟩, by simp [h3]⟩))
        · exact .inl ⟨by simp [h1], ⟨by simp [h2], by simp [h2]⟩, by simp [h3]⟩
      · exact .inr (.inl ⟨by simp [h1], bne_iff_ne.2 (by omega), bne_iff_ne.2 h2⟩)
    · exact .inr (.inr (.inl (by simp [h1])))
  have main : ∀ (sh cu : Bool), sh = s.shut → cu = s.cut → ¬ (sh = true ∧ cu = true ∧ (0 ≤ i ∧ i < s.n) ∧ (kind = 6 ∧ id = s.id ∧ err = 0) ∧ mh s.ms i.toNat = false) := by
    rintro sh cu rfl rfl ⟨h1, h2, ⟨h3, h4⟩, ⟨h5, h6, h7⟩, h8⟩
    exact hno ⟨⟨h1, h2, h3, h4, h5, h6, h7⟩, h8⟩
  unfold rcells
  obtain ⟨sh, hsh⟩ : ∃ x, x = s.shut := ⟨_, rfl⟩
  obtain ⟨cu, hcu⟩ : ∃ x, x = s.cut := ⟨_, rfl⟩
  have MAIN := hide (main sh cu hsh hcu)
  rw [← hsh, ← hcu]
  have HB9 := hide (res9 (w := w) (a0 := .int .i64 s.p) (a1 := .bool sh) (a2 := .bool cu) (a3 := .int .u64 (s.id : Int)) (a4 := .string s.name) (a5 := .int .u64 (s.at_ : Int)) (a6 := .int .i64 s.age) (a7 := .slice A s.n c) (a8 := .slice B s.res.length d))
  have HK := hide (((Chg.refl Non w).alloc (.cells #[.int .i64 s.p, .bool sh, .bool cu, .int .u64 (s.id : Int), .string s.name, .int .u64 (s.at_ : Int), .int .i64 s.age, .slice A s.n c, .slice B s.res.length d] 30)).alloc (.cells #[.int .i64 s.p, .bool sh, .bool cu, .int .u64 (s.id : Int), .string s.name, .int .u64 (s.at_ : Int), .int .i64 s.age, .slice A s.n c, .slice B s.res.length d] 30))
  clear hm hr hln h20 hc hmx hd hmd hno main hsh hcu
  cases sh
  · clear MAIN d0 d1
    go_enter Try.func23, Try.ntmps23
    go_wp2_with fail
    ans_end
  · cases cu
    · clear MAIN d0 d1
      go_enter Try.func23, Try.ntmps23
      go_wp2_with fail
      ans_end
    · rcases d0 with e1 | ⟨e1, e2⟩ | ⟨h1, h2, e1, e2⟩
      · clear MAIN d1
        go_enter Try.func23, Try.ntmps23
        go_wp2_with fail
        ans_end
      · clear MAIN d1
        go_enter Try.func23, Try.ntmps23
        go_wp2_with fail
        ans_end
      · rcases d1 with ⟨x1, ⟨x2, x2'⟩, x3⟩ | ⟨x1, x2, x2'⟩ | x1 | ⟨hx, x1, ⟨x2, x2'⟩, x3⟩
        · clear MAIN h1 h2
          go_enter Try.func23, Try.ntmps23
          go_wp2_with fail
          ans_end
        · clear MAIN h1 h2
          go_enter Try.func23, Try.ntmps23
          go_wp2_with fail
          ans_end
        · clear MAIN h1 h2
          go_enter Try.func23, Try.ntmps23
          go_wp2_with fail
          ans_end
        · have hmh : mh s.ms i.toNat = true := by
            cases hq : mh s.ms i.toNat
            · exact absurd ⟨rfl, rfl, ⟨h1, h2⟩, hx, hq⟩ MAIN.out
            · rfl
          obtain ⟨k, rfl⟩ := Int.eq_ofNat_of_zero_le h1
          rw [Int.toNat_natCast] at hmh
          have hkn : k < s.n := by omega
          have hM2 := HM.out.chg (((Chg.refl Non w).alloc (.cells #[.int .i64 s.p, .bool true, .bool true, .int .u64 (s.id : Int), .string s.name, .int .u64 (s.at_ : Int), .int .i64 s.age, .slice A s.n c, .slice B s.res.length d] 30)).alloc (.cells z9 30)) fun _ _ h => h
          obtain ⟨ad, u, rfl, _, hu, hcell⟩ := hM2.at_ (i := 0) hkn (by omega)
          unfold z9 at hcell
          rw [Nat.add_zero] at hu hcell
          rw [(mks_get s.ms k (by rw [HL.out]; exact hkn)).1, hmh] at hu
          injection hu with hu
          subst hu
          clear MAIN hx hmh hM2
          go_enter Try.func23, Try.ntmps23
          go_wp2_with fail
          ans_end
end Go.Proofs.Ytlcnlcjfnpicgaa
