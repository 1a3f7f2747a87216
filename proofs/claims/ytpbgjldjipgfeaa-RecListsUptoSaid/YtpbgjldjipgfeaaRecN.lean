/- The walk of groyneref06.Trim, kind by kind. -/
import Derived.Test.YtpbgjldjipgfeaaRecK
namespace Go.Proofs.Ytpbgjldjipgfeaa
open Go.RowKit
set_option linter.unusedVariables false

theorem box3 (w : World) (cs zs ls : Array Value) (t u s : TypeId) : Blk (((w.alloc (.cells cs t)).alloc (.cells zs u)).alloc (.cells ls s)) w.heap.size t cs ∧ Blk (((w.alloc (.cells cs t)).alloc (.cells zs u)).alloc (.cells ls s)) (w.heap.size + 1) u zs ∧ Blk (((w.alloc (.cells cs t)).alloc (.cells zs u)).alloc (.cells ls s)) (w.heap.size + 1 + 1) s ls ∧ Chg Non w (((w.alloc (.cells cs t)).alloc (.cells zs u)).alloc (.cells ls s)) := by
  obtain ⟨h1, h2, h3⟩ := box2 w cs zs t u
  have h := Blk.new ((w.alloc (.cells cs t)).alloc (.cells zs u)) s ls
  rw [show ((w.alloc (.cells cs t)).alloc (.cells zs u)).heap.size = w.heap.size + 1 + 1 from by simp] at h
  exact ⟨h1.al _, h2.al _, h, h3.alloc _⟩
theorem trimR_not {x : RcS} (h : ¬ (1 ≤ x.kind ∧ x.kind ≤ 9)) : trimR x = { zeroR with kind := x.kind } := by
  rw [trimR, if_neg (by omega), if_neg (by omega), if_neg (by omega), if_neg (by omega), if_neg (by omega)]
theorem u64_0 : U64 0 := by unfold U64; decide
/-- one cell of the local box is set -/
theorem loc1 {w a : World} {gl gr : Nat} {t u : TypeId} {cs zs : Array Value} (h : Blk w gl t cs ∧ Blk w gr u zs ∧ Chg Non a w) (hne : gr ≠ gl) (hnew : a.heap.size ≤ gl) (i : Nat) (v : Value) :
    Blk (w.setCell ⟨gl, i, none⟩ v) gl t (cs.setIfInBounds i v) ∧ Blk (w.setCell ⟨gl, i, none⟩ v) gr u zs ∧ Chg Non a (w.setCell ⟨gl, i, none⟩ v) :=
  ⟨h.1.set_ i v, h.2.1.far (p := ⟨gl, i, none⟩) hne v, h.2.2.setCell (p := ⟨gl, i, none⟩) (fun hk => absurd hnew (by simpa using hk)) v⟩

set_option maxHeartbeats 4000000 in
set_option maxRecDepth 100000 in
theorem ref6Trim1 {x : RcS} {av bv cv dv : Value} {F : Nat → Prop} {w : World} (hr : RecR w F x av bv cv dv) (hk : x.kind = 1) :
    Calls Try.prog 15 #[.agg (recC x av bv cv dv)] w fun e w' => ∃ a b c d, e = .returned (.agg (recC (trimR x) a b c d)) ∧ RecR w' F (trimR x) a b c d ∧ Chg Non w w' := by
  obtain ⟨A1, n1, k1, rfl⟩ := hr.ws.sl
  obtain ⟨A2, n2, k2, rfl⟩ := hr.rs.sl
  obtain ⟨A3, n3, k3, rfl⟩ := RdV.sl hr.sh
  obtain ⟨A4, n4, k4, rfl⟩ := hr.rep.sl
  have HR := hide hr
  have HT := hide (show ∀ a b c d, recC (trimR x) a b c d = #[.int .i64 1, .int .u64 (x.boot : Int), .int .u64 (x.sess : Int), .int .u64 (x.seq : Int), a, b, .bool false, c, d, .int .u64 0, .string ⟨#[]⟩] from fun a b c d => by rw [trimR, hk]; rfl)
  have HX := hide (show ∀ w', Chg Non w w' → RecR w' F (trimR x) (.slice A1 n1 k1) (.slice A2 n2 k2) (.slice none 0 0) (.slice none 0 0) from fun w' hc => by
    have h := hr.c0 hc
    rw [trimR, hk]
    exact ⟨h.ws, h.rs, RdV.nil_ _ _ _, RdB.nil_ _ _, h.u1, h.u2, h.u3, u64_0, (show (Lit.int .i64 1).wf = true from by decide)⟩)
  have hh : hasT 1 = true := by decide
  have hhas := fun (w' : World) => ref6HasTxn (k := 1) (w := w')
  simp only [hh] at hhas
  have HH := hide hhas
  clear hr hhas hh
  obtain ⟨hb, hz, hl, hk0⟩ := box3 w #[.int .i64 1, .int .u64 (x.boot : Int), .int .u64 (x.sess : Int), .int .u64 (x.seq : Int), .slice A1 n1 k1, .slice A2 n2 k2, .bool x.commit, .slice A3 n3 k3, .slice A4 n4 k4, .int .u64 (x.id : Int), .string x.name] zeroC #[.int .i64 1, .int .u64 0, .int .u64 0, .int .u64 0, .slice none 0 0, .slice none 0 0, .bool false, .slice none 0 0, .slice none 0 0, .int .u64 0, .string ⟨#[]⟩] 30 30 30
  unfold recC
  rw [hk]
  unfold zeroC at *
  clear hk
  go_enter Try.func15, Try.ntmps15
  go_upto_region 2 with fail
  generalize World.alloc _ _ = w3 at hb hz hl hk0 ⊢
  have hszw := hk0.size
  obtain ⟨c0, c1, c2, c3, c4, c5, c6, c7, c8, c9, c10⟩ := rblk hb
  obtain ⟨e0, e1, e2, e3, e4, e5, e6, e7, e8, e9, e10⟩ := rblk hl
  obtain ⟨g0, g1, g2, g3, g4, g5, g6, g7, g8, g9, g10⟩ := rfrz hl
  obtain ⟨hL, hZ, hK⟩ := (loc1 (loc1 (loc1 (loc1 (loc1 (And.intro hl (And.intro hz hk0)) (by omega) (by omega) 1 (.int .u64 (x.boot : Int))) (by omega) (by omega) 2 (.int .u64 (x.sess : Int))) (by omega) (by omega) 3 (.int .u64 (x.seq : Int))) (by omega) (by omega) 4 (.slice A1 n1 k1)) (by omega) (by omega) 5 (.slice A2 n2 k2))
  simp only [List.setIfInBounds_toArray, List.set_cons_succ, List.set_cons_zero] at hL
  have HL := hide hL
  have HZ := hide hZ
  have HK := hide hK
  clear hL hZ hK
  go_upto_region 20 with (go_at_call 21; refine (HH.out _).mono ?_; rintro e w4 ⟨rfl, rfl⟩)
  generalize World.setCell _ _ _ = w5 at HL HZ HK ⊢
  clear c0 c1 c2 c3 c4 c5 c6 c7 c8 c9 c10 e0 e1 e2 e3 e4 e5 e6 e7 e8 e9 e10 g0 g1 g2 g3 g4 g5 g6 g7 g8 g9 g10 hb hz hl HH
  have hL := HL.out
  have hZ := HZ.out
  obtain ⟨e0, e1, e2, e3, e4, e5, e6, e7, e8, e9, e10⟩ := rblk hL
  obtain ⟨z0, z1, z2, z3, z4, z5, z6, z7, z8, z9, z10⟩ := rblk hZ
  obtain ⟨f0, f1, f2, f3, f4, f5, f6, f7, f8, f9, f10⟩ := rfrz hZ
  obtain ⟨hB9, hC9⟩ := rput hZ (.int .i64 1) (.int .u64 (x.boot : Int)) (.int .u64 (x.sess : Int)) (.int .u64 (x.seq : Int)) (.slice A1 n1 k1) (.slice A2 n2 k2) (.bool false) (.slice none 0 0) (.slice none 0 0) (.int .u64 0) (.string ⟨#[]⟩)
  go_wp2_with fail
  generalize World.setCell _ _ _ = w9 at hB9 hC9 ⊢
  clear e0 e1 e2 e3 e4 e5 e6 e7 e8 e9 e10 z0 z1 z2 z3 z4 z5 z6 z7 z8 z9 z10 f0 f1 f2 f3 f4 f5 f6 f7 f8 f9 f10
  obtain ⟨a0, a1, a2, a3, a4, a5, a6, a7, a8, a9, a10⟩ := rblk hB9
  refine bodyPost_ret (v := .agg #[.int .i64 1, .int .u64 (x.boot : Int), .int .u64 (x.sess : Int), .int .u64 (x.seq : Int), .slice A1 n1 k1, .slice A2 n2 k2, .bool false, .slice none 0 0, .slice none 0 0, .int .u64 0, .string ⟨#[]⟩]) (by simp [results, Try.results15, go_sem, a0, a1, a2, a3, a4, a5, a6, a7, a8, a9, a10]) rfl ⟨.slice A1 n1 k1, .slice A2 n2 k2, .slice none 0 0, .slice none 0 0, (congrArg (fun z => Ending.returned (.agg z)) (HT.out _ _ _ _)).symm, ?_, ?_⟩
  · exact HX.out _ (HK.out.trans hC9 fun k hk e => by omega)
  · exact HK.out.trans hC9 fun k hk e => by omega

set_option maxHeartbeats 4000000 in
set_option maxRecDepth 100000 in
theorem ref6Trim2 {x : RcS} {av bv cv dv : Value} {F : Nat → Prop} {w : World} (hr : RecR w F x av bv cv dv) (hk : x.kind = 2) :
    Calls Try.prog 15 #[.agg (recC x av bv cv dv)] w fun e w' => ∃ a b c d, e = .returned (.agg (recC (trimR x) a b c d)) ∧ RecR w' F (trimR x) a b c d ∧ Chg Non w w' := by
  obtain ⟨A1, n1, k1, rfl⟩ := hr.ws.sl
  obtain ⟨A2, n2, k2, rfl⟩ := hr.rs.sl
  obtain ⟨A3, n3, k3, rfl⟩ := RdV.sl hr.sh
  obtain ⟨A4, n4, k4, rfl⟩ := hr.rep.sl
  have HR := hide hr
  have HT := hide (show ∀ a b c d, recC (trimR x) a b c d = #[.int .i64 2, .int .u64 (x.boot : Int), .int .u64 (x.sess : Int), .int .u64 (x.seq : Int), a, b, .bool false, c, d, .int .u64 0, .string ⟨#[]⟩] from fun a b c d => by rw [trimR, hk]; rfl)
  have HX := hide (show ∀ w', Chg Non w w' → RecR w' F (trimR x) (.slice none 0 0) (.slice none 0 0) (.slice none 0 0) (.slice none 0 0) from fun w' hc => by
    have h := hr.c0 hc
    rw [trimR, hk]
    exact ⟨RdW.nil_ _ _, RdW.nil_ _ _, RdV.nil_ _ _ _, RdB.nil_ _ _, h.u1, h.u2, h.u3, u64_0, (show (Lit.int .i64 2).wf = true from by decide)⟩)
  have hh : hasT 2 = true := by decide
  have hhas := fun (w' : World) => ref6HasTxn (k := 2) (w := w')
  simp only [hh] at hhas
  have HH := hide hhas
  clear hr hhas hh
  obtain ⟨hb, hz, hl, hk0⟩ := box3 w #[.int .i64 2, .int .u64 (x.boot : Int), .int .u64 (x.sess : Int), .int .u64 (x.seq : Int), .slice A1 n1 k1, .slice A2 n2 k2, .bool x.commit, .slice A3 n3 k3, .slice A4 n4 k4, .int .u64 (x.id : Int), .string x.name] zeroC #[.int .i64 2, .int .u64 0, .int .u64 0, .int .u64 0, .slice none 0 0, .slice none 0 0, .bool false, .slice none 0 0, .slice none 0 0, .int .u64 0, .string ⟨#[]⟩] 30 30 30
  unfold recC
  rw [hk]
  unfold zeroC at *
  clear hk
  go_enter Try.func15, Try.ntmps15
  go_upto_region 2 with fail
  generalize World.alloc _ _ = w3 at hb hz hl hk0 ⊢
  have hszw := hk0.size
  obtain ⟨c0, c1, c2, c3, c4, c5, c6, c7, c8, c9, c10⟩ := rblk hb
  obtain ⟨e0, e1, e2, e3, e4, e5, e6, e7, e8, e9, e10⟩ := rblk hl
  obtain ⟨g0, g1, g2, g3, g4, g5, g6, g7, g8, g9, g10⟩ := rfrz hl
  obtain ⟨hL, hZ, hK⟩ := (loc1 (loc1 (loc1 (And.intro hl (And.intro hz hk0)) (by omega) (by omega) 1 (.int .u64 (x.boot : Int))) (by omega) (by omega) 2 (.int .u64 (x.sess : Int))) (by omega) (by omega) 3 (.int .u64 (x.seq : Int)))
  simp only [List.setIfInBounds_toArray, List.set_cons_succ, List.set_cons_zero] at hL
  have HL := hide hL
  have HZ := hide hZ
  have HK := hide hK
  clear hL hZ hK
  go_upto_region 20 with (go_at_call 21; refine (HH.out _).mono ?_; rintro e w4 ⟨rfl, rfl⟩)
  generalize World.setCell _ _ _ = w5 at HL HZ HK ⊢
  clear c0 c1 c2 c3 c4 c5 c6 c7 c8 c9 c10 e0 e1 e2 e3 e4 e5 e6 e7 e8 e9 e10 g0 g1 g2 g3 g4 g5 g6 g7 g8 g9 g10 hb hz hl HH
  have hL := HL.out
  have hZ := HZ.out
  obtain ⟨e0, e1, e2, e3, e4, e5, e6, e7, e8, e9, e10⟩ := rblk hL
  obtain ⟨z0, z1, z2, z3, z4, z5, z6, z7, z8, z9, z10⟩ := rblk hZ
  obtain ⟨f0, f1, f2, f3, f4, f5, f6, f7, f8, f9, f10⟩ := rfrz hZ
  obtain ⟨hB9, hC9⟩ := rput hZ (.int .i64 2) (.int .u64 (x.boot : Int)) (.int .u64 (x.sess : Int)) (.int .u64 (x.seq : Int)) (.slice none 0 0) (.slice none 0 0) (.bool false) (.slice none 0 0) (.slice none 0 0) (.int .u64 0) (.string ⟨#[]⟩)
  go_wp2_with fail
  generalize World.setCell _ _ _ = w9 at hB9 hC9 ⊢
  clear e0 e1 e2 e3 e4 e5 e6 e7 e8 e9 e10 z0 z1 z2 z3 z4 z5 z6 z7 z8 z9 z10 f0 f1 f2 f3 f4 f5 f6 f7 f8 f9 f10
  obtain ⟨a0, a1, a2, a3, a4, a5, a6, a7, a8, a9, a10⟩ := rblk hB9
  refine bodyPost_ret (v := .agg #[.int .i64 2, .int .u64 (x.boot : Int), .int .u64 (x.sess : Int), .int .u64 (x.seq : Int), .slice none 0 0, .slice none 0 0, .bool false, .slice none 0 0, .slice none 0 0, .int .u64 0, .string ⟨#[]⟩]) (by simp [results, Try.results15, go_sem, a0, a1, a2, a3, a4, a5, a6, a7, a8, a9, a10]) rfl ⟨.slice none 0 0, .slice none 0 0, .slice none 0 0, .slice none 0 0, (congrArg (fun z => Ending.returned (.agg z)) (HT.out _ _ _ _)).symm, ?_, ?_⟩
  · exact HX.out _ (HK.out.trans hC9 fun k hk e => by omega)
  · exact HK.out.trans hC9 fun k hk e => by omega

set_option maxHeartbeats 4000000 in
set_option maxRecDepth 100000 in
theorem ref6Trim3 {x : RcS} {av bv cv dv : Value} {F : Nat → Prop} {w : World} (hr : RecR w F x av bv cv dv) (hk : x.kind = 3) :
    Calls Try.prog 15 #[.agg (recC x av bv cv dv)] w fun e w' => ∃ a b c d, e = .returned (.agg (recC (trimR x) a b c d)) ∧ RecR w' F (trimR x) a b c d ∧ Chg Non w w' := by
  obtain ⟨A1, n1, k1, rfl⟩ := hr.ws.sl
  obtain ⟨A2, n2, k2, rfl⟩ := hr.rs.sl
  obtain ⟨A3, n3, k3, rfl⟩ := RdV.sl hr.sh
  obtain ⟨A4, n4, k4, rfl⟩ := hr.rep.sl
  have HR := hide hr
  have HT := hide (show ∀ a b c d, recC (trimR x) a b c d = #[.int .i64 3, .int .u64 (x.boot : Int), .int .u64 (x.sess : Int), .int .u64 (x.seq : Int), a, b, .bool false, c, d, .int .u64 0, .string ⟨#[]⟩] from fun a b c d => by rw [trimR, hk]; rfl)
  have HX := hide (show ∀ w', Chg Non w w' → RecR w' F (trimR x) (.slice none 0 0) (.slice none 0 0) (.slice none 0 0) (.slice none 0 0) from fun w' hc => by
    have h := hr.c0 hc
    rw [trimR, hk]
    exact ⟨RdW.nil_ _ _, RdW.nil_ _ _, RdV.nil_ _ _ _, RdB.nil_ _ _, h.u1, h.u2, h.u3, u64_0, (show (Lit.int .i64 3).wf = true from by decide)⟩)
  have hh : hasT 3 = true := by decide
  have hhas := fun (w' : World) => ref6HasTxn (k := 3) (w := w')
  simp only [hh] at hhas
  have HH := hide hhas
  clear hr hhas hh
  obtain ⟨hb, hz, hl, hk0⟩ := box3 w #[.int .i64 3, .int .u64 (x.boot : Int), .int .u64 (x.sess : Int), .int .u64 (x.seq : Int), .slice A1 n1 k1, .slice A2 n2 k2, .bool x.commit, .slice A3 n3 k3, .slice A4 n4 k4, .int .u64 (x.id : Int), .string x.name] zeroC #[.int .i64 3, .int .u64 0, .int .u64 0, .int .u64 0, .slice none 0 0, .slice none 0 0, .bool false, .slice none 0 0, .slice none 0 0, .int .u64 0, .string ⟨#[]⟩] 30 30 30
  unfold recC
  rw [hk]
  unfold zeroC at *
  clear hk
  go_enter Try.func15, Try.ntmps15
  go_upto_region 2 with fail
  generalize World.alloc _ _ = w3 at hb hz hl hk0 ⊢
  have hszw := hk0.size
  obtain ⟨c0, c1, c2, c3, c4, c5, c6, c7, c8, c9, c10⟩ := rblk hb
  obtain ⟨e0, e1, e2, e3, e4, e5, e6, e7, e8, e9, e10⟩ := rblk hl
  obtain ⟨g0, g1, g2, g3, g4, g5, g6, g7, g8, g9, g10⟩ := rfrz hl
  obtain ⟨hL, hZ, hK⟩ := (loc1 (loc1 (loc1 (And.intro hl (And.intro hz hk0)) (by omega) (by omega) 1 (.int .u64 (x.boot : Int))) (by omega) (by omega) 2 (.int .u64 (x.sess : Int))) (by omega) (by omega) 3 (.int .u64 (x.seq : Int)))
  simp only [List.setIfInBounds_toArray, List.set_cons_succ, List.set_cons_zero] at hL
  have HL := hide hL
  have HZ := hide hZ
  have HK := hide hK
  clear hL hZ hK
  go_upto_region 20 with (go_at_call 21; refine (HH.out _).mono ?_; rintro e w4 ⟨rfl, rfl⟩)
  generalize World.setCell _ _ _ = w5 at HL HZ HK ⊢
  clear c0 c1 c2 c3 c4 c5 c6 c7 c8 c9 c10 e0 e1 e2 e3 e4 e5 e6 e7 e8 e9 e10 g0 g1 g2 g3 g4 g5 g6 g7 g8 g9 g10 hb hz hl HH
  have hL := HL.out
  have hZ := HZ.out
  obtain ⟨e0, e1, e2, e3, e4, e5, e6, e7, e8, e9, e10⟩ := rblk hL
  obtain ⟨z0, z1, z2, z3, z4, z5, z6, z7, z8, z9, z10⟩ := rblk hZ
  obtain ⟨f0, f1, f2, f3, f4, f5, f6, f7, f8, f9, f10⟩ := rfrz hZ
  obtain ⟨hB9, hC9⟩ := rput hZ (.int .i64 3) (.int .u64 (x.boot : Int)) (.int .u64 (x.sess : Int)) (.int .u64 (x.seq : Int)) (.slice none 0 0) (.slice none 0 0) (.bool false) (.slice none 0 0) (.slice none 0 0) (.int .u64 0) (.string ⟨#[]⟩)
  go_wp2_with fail
  generalize World.setCell _ _ _ = w9 at hB9 hC9 ⊢
  clear e0 e1 e2 e3 e4 e5 e6 e7 e8 e9 e10 z0 z1 z2 z3 z4 z5 z6 z7 z8 z9 z10 f0 f1 f2 f3 f4 f5 f6 f7 f8 f9 f10
  obtain ⟨a0, a1, a2, a3, a4, a5, a6, a7, a8, a9, a10⟩ := rblk hB9
  refine bodyPost_ret (v := .agg #[.int .i64 3, .int .u64 (x.boot : Int), .int .u64 (x.sess : Int), .int .u64 (x.seq : Int), .slice none 0 0, .slice none 0 0, .bool false, .slice none 0 0, .slice none 0 0, .int .u64 0, .string ⟨#[]⟩]) (by simp [results, Try.results15, go_sem, a0, a1, a2, a3, a4, a5, a6, a7, a8, a9, a10]) rfl ⟨.slice none 0 0, .slice none 0 0, .slice none 0 0, .slice none 0 0, (congrArg (fun z => Ending.returned (.agg z)) (HT.out _ _ _ _)).symm, ?_, ?_⟩
  · exact HX.out _ (HK.out.trans hC9 fun k hk e => by omega)
  · exact HK.out.trans hC9 fun k hk e => by omega

set_option maxHeartbeats 4000000 in
set_option maxRecDepth 100000 in
theorem ref6Trim4 {x : RcS} {av bv cv dv : Value} {F : Nat → Prop} {w : World} (hr : RecR w F x av bv cv dv) (hk : x.kind = 4) :
    Calls Try.prog 15 #[.agg (recC x av bv cv dv)] w fun e w' => ∃ a b c d, e = .returned (.agg (recC (trimR x) a b c d)) ∧ RecR w' F (trimR x) a b c d ∧ Chg Non w w' := by
  obtain ⟨A1, n1, k1, rfl⟩ := hr.ws.sl
  obtain ⟨A2, n2, k2, rfl⟩ := hr.rs.sl
  obtain ⟨A3, n3, k3, rfl⟩ := RdV.sl hr.sh
  obtain ⟨A4, n4, k4, rfl⟩ := hr.rep.sl
  have HR := hide hr
  have HT := hide (show ∀ a b c d, recC (trimR x) a b c d = #[.int .i64 4, .int .u64 (x.boot : Int), .int .u64 (x.sess : Int), .int .u64 (x.seq : Int), a, b, .bool false, c, d, .int .u64 0, .string ⟨#[]⟩] from fun a b c d => by rw [trimR, hk]; rfl)
  have HX := hide (show ∀ w', Chg Non w w' → RecR w' F (trimR x) (.slice A1 n1 k1) (.slice none 0 0) (.slice none 0 0) (.slice A4 n4 k4) from fun w' hc => by
    have h := hr.c0 hc
    rw [trimR, hk]
    exact ⟨h.ws, RdW.nil_ _ _, RdV.nil_ _ _ _, h.rep, h.u1, h.u2, h.u3, u64_0, (show (Lit.int .i64 4).wf = true from by decide)⟩)
  have hh : hasT 4 = true := by decide
  have hhas := fun (w' : World) => ref6HasTxn (k := 4) (w := w')
  simp only [hh] at hhas
  have HH := hide hhas
  clear hr hhas hh
  obtain ⟨hb, hz, hl, hk0⟩ := box3 w #[.int .i64 4, .int .u64 (x.boot : Int), .int .u64 (x.sess : Int), .int .u64 (x.seq : Int), .slice A1 n1 k1, .slice A2 n2 k2, .bool x.commit, .slice A3 n3 k3, .slice A4 n4 k4, .int .u64 (x.id : Int), .string x.name] zeroC #[.int .i64 4, .int .u64 0, .int .u64 0, .int .u64 0, .slice none 0 0, .slice none 0 0, .bool false, .slice none 0 0, .slice none 0 0, .int .u64 0, .string ⟨#[]⟩] 30 30 30
  unfold recC
  rw [hk]
  unfold zeroC at *
  clear hk
  go_enter Try.func15, Try.ntmps15
  go_upto_region 2 with fail
  generalize World.alloc _ _ = w3 at hb hz hl hk0 ⊢
  have hszw := hk0.size
  obtain ⟨c0, c1, c2, c3, c4, c5, c6, c7, c8, c9, c10⟩ := rblk hb
  obtain ⟨e0, e1, e2, e3, e4, e5, e6, e7, e8, e9, e10⟩ := rblk hl
  obtain ⟨g0, g1, g2, g3, g4, g5, g6, g7, g8, g9, g10⟩ := rfrz hl
  obtain ⟨hL, hZ, hK⟩ := (loc1 (loc1 (loc1 (loc1 (loc1 (And.intro hl (And.intro hz hk0)) (by omega) (by omega) 1 (.int .u64 (x.boot : Int))) (by omega) (by omega) 2 (.int .u64 (x.sess : Int))) (by omega) (by omega) 3 (.int .u64 (x.seq : Int))) (by omega) (by omega) 4 (.slice A1 n1 k1)) (by omega) (by omega) 8 (.slice A4 n4 k4))
  simp only [List.setIfInBounds_toArray, List.set_cons_succ, List.set_cons_zero] at hL
  have HL := hide hL
  have HZ := hide hZ
  have HK := hide hK
  clear hL hZ hK
  go_upto_region 20 with (go_at_call 21; refine (HH.out _).mono ?_; rintro e w4 ⟨rfl, rfl⟩)
  generalize World.setCell _ _ _ = w5 at HL HZ HK ⊢
  clear c0 c1 c2 c3 c4 c5 c6 c7 c8 c9 c10 e0 e1 e2 e3 e4 e5 e6 e7 e8 e9 e10 g0 g1 g2 g3 g4 g5 g6 g7 g8 g9 g10 hb hz hl HH
  have hL := HL.out
  have hZ := HZ.out
  obtain ⟨e0, e1, e2, e3, e4, e5, e6, e7, e8, e9, e10⟩ := rblk hL
  obtain ⟨z0, z1, z2, z3, z4, z5, z6, z7, z8, z9, z10⟩ := rblk hZ
  obtain ⟨f0, f1, f2, f3, f4, f5, f6, f7, f8, f9, f10⟩ := rfrz hZ
  obtain ⟨hB9, hC9⟩ := rput hZ (.int .i64 4) (.int .u64 (x.boot : Int)) (.int .u64 (x.sess : Int)) (.int .u64 (x.seq : Int)) (.slice A1 n1 k1) (.slice none 0 0) (.bool false) (.slice none 0 0) (.slice A4 n4 k4) (.int .u64 0) (.string ⟨#[]⟩)
  go_wp2_with fail
  generalize World.setCell _ _ _ = w9 at hB9 hC9 ⊢
  clear e0 e1 e2 e3 e4 e5 e6 e7 e8 e9 e10 z0 z1 z2 z3 z4 z5 z6 z7 z8 z9 z10 f0 f1 f2 f3 f4 f5 f6 f7 f8 f9 f10
  obtain ⟨a0, a1, a2, a3, a4, a5, a6, a7, a8, a9, a10⟩ := rblk hB9
  refine bodyPost_ret (v := .agg #[.int .i64 4, .int .u64 (x.boot : Int), .int .u64 (x.sess : Int), .int .u64 (x.seq : Int), .slice A1 n1 k1, .slice none 0 0, .bool false, .slice none 0 0, .slice A4 n4 k4, .int .u64 0, .string ⟨#[]⟩]) (by simp [results, Try.results15, go_sem, a0, a1, a2, a3, a4, a5, a6, a7, a8, a9, a10]) rfl ⟨.slice A1 n1 k1, .slice none 0 0, .slice none 0 0, .slice A4 n4 k4, (congrArg (fun z => Ending.returned (.agg z)) (HT.out _ _ _ _)).symm, ?_, ?_⟩
  · exact HX.out _ (HK.out.trans hC9 fun k hk e => by omega)
  · exact HK.out.trans hC9 fun k hk e => by omega

set_option maxHeartbeats 4000000 in
set_option maxRecDepth 100000 in
theorem ref6Trim5 {x : RcS} {av bv cv dv : Value} {F : Nat → Prop} {w : World} (hr : RecR w F x av bv cv dv) (hk : x.kind = 5) :
    Calls Try.prog 15 #[.agg (recC x av bv cv dv)] w fun e w' => ∃ a b c d, e = .returned (.agg (recC (trimR x) a b c d)) ∧ RecR w' F (trimR x) a b c d ∧ Chg Non w w' := by
  obtain ⟨A1, n1, k1, rfl⟩ := hr.ws.sl
  obtain ⟨A2, n2, k2, rfl⟩ := hr.rs.sl
  obtain ⟨A3, n3, k3, rfl⟩ := RdV.sl hr.sh
  obtain ⟨A4, n4, k4, rfl⟩ := hr.rep.sl
  have HR := hide hr
  have HT := hide (show ∀ a b c d, recC (trimR x) a b c d = #[.int .i64 5, .int .u64 0, .int .u64 0, .int .u64 0, a, b, .bool false, c, d, .int .u64 (x.id : Int), .string x.name] from fun a b c d => by rw [trimR, hk]; rfl)
  have HX := hide (show ∀ w', Chg Non w w' → RecR w' F (trimR x) (.slice none 0 0) (.slice none 0 0) (.slice none 0 0) (.slice none 0 0) from fun w' hc => by
    have h := hr.c0 hc
    rw [trimR, hk]
    exact ⟨RdW.nil_ _ _, RdW.nil_ _ _, RdV.nil_ _ _ _, RdB.nil_ _ _, u64_0, u64_0, u64_0, h.u4, (show (Lit.int .i64 5).wf = true from by decide)⟩)
  have hh : hasT 5 = false := by decide
  have hhas := fun (w' : World) => ref6HasTxn (k := 5) (w := w')
  simp only [hh] at hhas
  have HH := hide hhas
  clear hr hhas hh
  obtain ⟨hb, hz, hl, hk0⟩ := box3 w #[.int .i64 5, .int .u64 (x.boot : Int), .int .u64 (x.sess : Int), .int .u64 (x.seq : Int), .slice A1 n1 k1, .slice A2 n2 k2, .bool x.commit, .slice A3 n3 k3, .slice A4 n4 k4, .int .u64 (x.id : Int), .string x.name] zeroC #[.int .i64 5, .int .u64 0, .int .u64 0, .int .u64 0, .slice none 0 0, .slice none 0 0, .bool false, .slice none 0 0, .slice none 0 0, .int .u64 0, .string ⟨#[]⟩] 30 30 30
  unfold recC
  rw [hk]
  unfold zeroC at *
  clear hk
  go_enter Try.func15, Try.ntmps15
  go_upto_region 2 with fail
  generalize World.alloc _ _ = w3 at hb hz hl hk0 ⊢
  have hszw := hk0.size
  obtain ⟨c0, c1, c2, c3, c4, c5, c6, c7, c8, c9, c10⟩ := rblk hb
  obtain ⟨e0, e1, e2, e3, e4, e5, e6, e7, e8, e9, e10⟩ := rblk hl
  obtain ⟨g0, g1, g2, g3, g4, g5, g6, g7, g8, g9, g10⟩ := rfrz hl
  obtain ⟨hL, hZ, hK⟩ := (loc1 (loc1 (And.intro hl (And.intro hz hk0)) (by omega) (by omega) 9 (.int .u64 (x.id : Int))) (by omega) (by omega) 10 (.string x.name))
  simp only [List.setIfInBounds_toArray, List.set_cons_succ, List.set_cons_zero] at hL
  have HL := hide hL
  have HZ := hide hZ
  have HK := hide hK
  clear hL hZ hK
  go_upto_region 20 with (go_at_call 21; refine (HH.out _).mono ?_; rintro e w4 ⟨rfl, rfl⟩)
  generalize World.setCell _ _ _ = w5 at HL HZ HK ⊢
  clear c0 c1 c2 c3 c4 c5 c6 c7 c8 c9 c10 e0 e1 e2 e3 e4 e5 e6 e7 e8 e9 e10 g0 g1 g2 g3 g4 g5 g6 g7 g8 g9 g10 hb hz hl HH
  have hL := HL.out
  have hZ := HZ.out
  obtain ⟨e0, e1, e2, e3, e4, e5, e6, e7, e8, e9, e10⟩ := rblk hL
  obtain ⟨z0, z1, z2, z3, z4, z5, z6, z7, z8, z9, z10⟩ := rblk hZ
  obtain ⟨f0, f1, f2, f3, f4, f5, f6, f7, f8, f9, f10⟩ := rfrz hZ
  obtain ⟨hB9, hC9⟩ := rput hZ (.int .i64 5) (.int .u64 0) (.int .u64 0) (.int .u64 0) (.slice none 0 0) (.slice none 0 0) (.bool false) (.slice none 0 0) (.slice none 0 0) (.int .u64 (x.id : Int)) (.string x.name)
  go_wp2_with fail
  generalize World.setCell _ _ _ = w9 at hB9 hC9 ⊢
  clear e0 e1 e2 e3 e4 e5 e6 e7 e8 e9 e10 z0 z1 z2 z3 z4 z5 z6 z7 z8 z9 z10 f0 f1 f2 f3 f4 f5 f6 f7 f8 f9 f10
  obtain ⟨a0, a1, a2, a3, a4, a5, a6, a7, a8, a9, a10⟩ := rblk hB9
  refine bodyPost_ret (v := .agg #[.int .i64 5, .int .u64 0, .int .u64 0, .int .u64 0, .slice none 0 0, .slice none 0 0, .bool false, .slice none 0 0, .slice none 0 0, .int .u64 (x.id : Int), .string x.name]) (by simp [results, Try.results15, go_sem, a0, a1, a2, a3, a4, a5, a6, a7, a8, a9, a10]) rfl ⟨.slice none 0 0, .slice none 0 0, .slice none 0 0, .slice none 0 0, (congrArg (fun z => Ending.returned (.agg z)) (HT.out _ _ _ _)).symm, ?_, ?_⟩
  · exact HX.out _ (HK.out.trans hC9 fun k hk e => by omega)
  · exact HK.out.trans hC9 fun k hk e => by omega

set_option maxHeartbeats 4000000 in
set_option maxRecDepth 100000 in
theorem ref6Trim6 {x : RcS} {av bv cv dv : Value} {F : Nat → Prop} {w : World} (hr : RecR w F x av bv cv dv) (hk : x.kind = 6) :
    Calls Try.prog 15 #[.agg (recC x av bv cv dv)] w fun e w' => ∃ a b c d, e = .returned (.agg (recC (trimR x) a b c d)) ∧ RecR w' F (trimR x) a b c d ∧ Chg Non w w' := by
  obtain ⟨A1, n1, k1, rfl⟩ := hr.ws.sl
  obtain ⟨A2, n2, k2, rfl⟩ := hr.rs.sl
  obtain ⟨A3, n3, k3, rfl⟩ := RdV.sl hr.sh
  obtain ⟨A4, n4, k4, rfl⟩ := hr.rep.sl
  have HR := hide hr
  have HT := hide (show ∀ a b c d, recC (trimR x) a b c d = #[.int .i64 6, .int .u64 (x.boot : Int), .int .u64 (x.sess : Int), .int .u64 (x.seq : Int), a, b, .bool x.commit, c, d, .int .u64 0, .string ⟨#[]⟩] from fun a b c d => by rw [trimR, hk]; rfl)
  have HX := hide (show ∀ w', Chg Non w w' → RecR w' F (trimR x) (.slice none 0 0) (.slice none 0 0) (.slice A3 n3 k3) (.slice A4 n4 k4) from fun w' hc => by
    have h := hr.c0 hc
    rw [trimR, hk]
    exact ⟨RdW.nil_ _ _, RdW.nil_ _ _, h.sh, h.rep, h.u1, h.u2, h.u3, u64_0, (show (Lit.int .i64 6).wf = true from by decide)⟩)
  have hh : hasT 6 = true := by decide
  have hhas := fun (w' : World) => ref6HasTxn (k := 6) (w := w')
  simp only [hh] at hhas
  have HH := hide hhas
  clear hr hhas hh
  obtain ⟨hb, hz, hl, hk0⟩ := box3 w #[.int .i64 6, .int .u64 (x.boot : Int), .int .u64 (x.sess : Int), .int .u64 (x.seq : Int), .slice A1 n1 k1, .slice A2 n2 k2, .bool x.commit, .slice A3 n3 k3, .slice A4 n4 k4, .int .u64 (x.id : Int), .string x.name] zeroC #[.int .i64 6, .int .u64 0, .int .u64 0, .int .u64 0, .slice none 0 0, .slice none 0 0, .bool false, .slice none 0 0, .slice none 0 0, .int .u64 0, .string ⟨#[]⟩] 30 30 30
  unfold recC
  rw [hk]
  unfold zeroC at *
  clear hk
  go_enter Try.func15, Try.ntmps15
  go_upto_region 2 with fail
  generalize World.alloc _ _ = w3 at hb hz hl hk0 ⊢
  have hszw := hk0.size
  obtain ⟨c0, c1, c2, c3, c4, c5, c6, c7, c8, c9, c10⟩ := rblk hb
  obtain ⟨e0, e1, e2, e3, e4, e5, e6, e7, e8, e9, e10⟩ := rblk hl
  obtain ⟨g0, g1, g2, g3, g4, g5, g6, g7, g8, g9, g10⟩ := rfrz hl
  obtain ⟨hL, hZ, hK⟩ := (loc1 (loc1 (loc1 (loc1 (loc1 (loc1 (And.intro hl (And.intro hz hk0)) (by omega) (by omega) 1 (.int .u64 (x.boot : Int))) (by omega) (by omega) 2 (.int .u64 (x.sess : Int))) (by omega) (by omega) 3 (.int .u64 (x.seq : Int))) (by omega) (by omega) 6 (.bool x.commit)) (by omega) (by omega) 7 (.slice A3 n3 k3)) (by omega) (by omega) 8 (.slice A4 n4 k4))
  simp only [List.setIfInBounds_toArray, List.set_cons_succ, List.set_cons_zero] at hL
  have HL := hide hL
  have HZ := hide hZ
  have HK := hide hK
  clear hL hZ hK
  go_upto_region 20 with (go_at_call 21; refine (HH.out _).mono ?_; rintro e w4 ⟨rfl, rfl⟩)
  generalize World.setCell _ _ _ = w5 at HL HZ HK ⊢
  clear c0 c1 c2 c3 c4 c5 c6 c7 c8 c9 c10 e0 e1 e2 e3 e4 e5 e6 e7 e8 e9 e10 g0 g1 g2 g3 g4 g5 g6 g7 g8 g9 g10 hb hz hl HH
  have hL := HL.out
  have hZ := HZ.out
  obtain ⟨e0, e1, e2, e3, e4, e5, e6, e7, e8, e9, e10⟩ := rblk hL
  obtain ⟨z0, z1, z2, z3, z4, z5, z6, z7, z8, z9, z10⟩ := rblk hZ
  obtain ⟨f0, f1, f2, f3, f4, f5, f6, f7, f8, f9, f10⟩ := rfrz hZ
  obtain ⟨hB9, hC9⟩ := rput hZ (.int .i64 6) (.int .u64 (x.boot : Int)) (.int .u64 (x.sess : Int)) (.int .u64 (x.seq : Int)) (.slice none 0 0) (.slice none 0 0) (.bool x.commit) (.slice A3 n3 k3) (.slice A4 n4 k4) (.int .u64 0) (.string ⟨#[]⟩)
  go_wp2_with fail
  generalize World.setCell _ _ _ = w9 at hB9 hC9 ⊢
  clear e0 e1 e2 e3 e4 e5 e6 e7 e8 e9 e10 z0 z1 z2 z3 z4 z5 z6 z7 z8 z9 z10 f0 f1 f2 f3 f4 f5 f6 f7 f8 f9 f10
  obtain ⟨a0, a1, a2, a3, a4, a5, a6, a7, a8, a9, a10⟩ := rblk hB9
  refine bodyPost_ret (v := .agg #[.int .i64 6, .int .u64 (x.boot : Int), .int .u64 (x.sess : Int), .int .u64 (x.seq : Int), .slice none 0 0, .slice none 0 0, .bool x.commit, .slice A3 n3 k3, .slice A4 n4 k4, .int .u64 0, .string ⟨#[]⟩]) (by simp [results, Try.results15, go_sem, a0, a1, a2, a3, a4, a5, a6, a7, a8, a9, a10]) rfl ⟨.slice none 0 0, .slice none 0 0, .slice A3 n3 k3, .slice A4 n4 k4, (congrArg (fun z => Ending.returned (.agg z)) (HT.out _ _ _ _)).symm, ?_, ?_⟩
  · exact HX.out _ (HK.out.trans hC9 fun k hk e => by omega)
  · exact HK.out.trans hC9 fun k hk e => by omega

set_option maxHeartbeats 4000000 in
set_option maxRecDepth 100000 in
theorem ref6Trim7 {x : RcS} {av bv cv dv : Value} {F : Nat → Prop} {w : World} (hr : RecR w F x av bv cv dv) (hk : x.kind = 7) :
    Calls Try.prog 15 #[.agg (recC x av bv cv dv)] w fun e w' => ∃ a b c d, e = .returned (.agg (recC (trimR x) a b c d)) ∧ RecR w' F (trimR x) a b c d ∧ Chg Non w w' := by
  obtain ⟨A1, n1, k1, rfl⟩ := hr.ws.sl
  obtain ⟨A2, n2, k2, rfl⟩ := hr.rs.sl
  obtain ⟨A3, n3, k3, rfl⟩ := RdV.sl hr.sh
  obtain ⟨A4, n4, k4, rfl⟩ := hr.rep.sl
  have HR := hide hr
  have HT := hide (show ∀ a b c d, recC (trimR x) a b c d = #[.int .i64 7, .int .u64 0, .int .u64 0, .int .u64 0, a, b, .bool false, c, d, .int .u64 (x.id : Int), .string x.name] from fun a b c d => by rw [trimR, hk]; rfl)
  have HX := hide (show ∀ w', Chg Non w w' → RecR w' F (trimR x) (.slice none 0 0) (.slice none 0 0) (.slice none 0 0) (.slice none 0 0) from fun w' hc => by
    have h := hr.c0 hc
    rw [trimR, hk]
    exact ⟨RdW.nil_ _ _, RdW.nil_ _ _, RdV.nil_ _ _ _, RdB.nil_ _ _, u64_0, u64_0, u64_0, h.u4, (show (Lit.int .i64 7).wf = true from by decide)⟩)
  have hh : hasT 7 = false := by decide
  have hhas := fun (w' : World) => ref6HasTxn (k := 7) (w := w')
  simp only [hh] at hhas
  have HH := hide hhas
  clear hr hhas hh
  obtain ⟨hb, hz, hl, hk0⟩ := box3 w #[.int .i64 7, .int .u64 (x.boot : Int), .int .u64 (x.sess : Int), .int .u64 (x.seq : Int), .slice A1 n1 k1, .slice A2 n2 k2, .bool x.commit, .slice A3 n3 k3, .slice A4 n4 k4, .int .u64 (x.id : Int), .string x.name] zeroC #[.int .i64 7, .int .u64 0, .int .u64 0, .int .u64 0, .slice none 0 0, .slice none 0 0, .bool false, .slice none 0 0, .slice none 0 0, .int .u64 0, .string ⟨#[]⟩] 30 30 30
  unfold recC
  rw [hk]
  unfold zeroC at *
  clear hk
  go_enter Try.func15, Try.ntmps15
  go_upto_region 2 with fail
  generalize World.alloc _ _ = w3 at hb hz hl hk0 ⊢
  have hszw := hk0.size
  obtain ⟨c0, c1, c2, c3, c4, c5, c6, c7, c8, c9, c10⟩ := rblk hb
  obtain ⟨e0, e1, e2, e3, e4, e5, e6, e7, e8, e9, e10⟩ := rblk hl
  obtain ⟨g0, g1, g2, g3, g4, g5, g6, g7, g8, g9, g10⟩ := rfrz hl
  obtain ⟨hL, hZ, hK⟩ := (loc1 (loc1 (And.intro hl (And.intro hz hk0)) (by omega) (by omega) 9 (.int .u64 (x.id : Int))) (by omega) (by omega) 10 (.string x.name))
  simp only [List.setIfInBounds_toArray, List.set_cons_succ, List.set_cons_zero] at hL
  have HL := hide hL
  have HZ := hide hZ
  have HK := hide hK
  clear hL hZ hK
  go_upto_region 20 with (go_at_call 21; refine (HH.out _).mono ?_; rintro e w4 ⟨rfl, rfl⟩)
  generalize World.setCell _ _ _ = w5 at HL HZ HK ⊢
  clear c0 c1 c2 c3 c4 c5 c6 c7 c8 c9 c10 e0 e1 e2 e3 e4 e5 e6 e7 e8 e9 e10 g0 g1 g2 g3 g4 g5 g6 g7 g8 g9 g10 hb hz hl HH
  have hL := HL.out
  have hZ := HZ.out
  obtain ⟨e0, e1, e2, e3, e4, e5, e6, e7, e8, e9, e10⟩ := rblk hL
  obtain ⟨z0, z1, z2, z3, z4, z5, z6, z7, z8, z9, z10⟩ := rblk hZ
  obtain ⟨f0, f1, f2, f3, f4, f5, f6, f7, f8, f9, f10⟩ := rfrz hZ
  obtain ⟨hB9, hC9⟩ := rput hZ (.int .i64 7) (.int .u64 0) (.int .u64 0) (.int .u64 0) (.slice none 0 0) (.slice none 0 0) (.bool false) (.slice none 0 0) (.slice none 0 0) (.int .u64 (x.id : Int)) (.string x.name)
  go_wp2_with fail
  generalize World.setCell _ _ _ = w9 at hB9 hC9 ⊢
  clear e0 e1 e2 e3 e4 e5 e6 e7 e8 e9 e10 z0 z1 z2 z3 z4 z5 z6 z7 z8 z9 z10 f0 f1 f2 f3 f4 f5 f6 f7 f8 f9 f10
  obtain ⟨a0, a1, a2, a3, a4, a5, a6, a7, a8, a9, a10⟩ := rblk hB9
  refine bodyPost_ret (v := .agg #[.int .i64 7, .int .u64 0, .int .u64 0, .int .u64 0, .slice none 0 0, .slice none 0 0, .bool false, .slice none 0 0, .slice none 0 0, .int .u64 (x.id : Int), .string x.name]) (by simp [results, Try.results15, go_sem, a0, a1, a2, a3, a4, a5, a6, a7, a8, a9, a10]) rfl ⟨.slice none 0 0, .slice none 0 0, .slice none 0 0, .slice none 0 0, (congrArg (fun z => Ending.returned (.agg z)) (HT.out _ _ _ _)).symm, ?_, ?_⟩
  · exact HX.out _ (HK.out.trans hC9 fun k hk e => by omega)
  · exact HK.out.trans hC9 fun k hk e => by omega

set_option maxHeartbeats 4000000 in
set_option maxRecDepth 100000 in
theorem ref6Trim8 {x : RcS} {av bv cv dv : Value} {F : Nat → Prop} {w : World} (hr : RecR w F x av bv cv dv) (hk : x.kind = 8) :
    Calls Try.prog 15 #[.agg (recC x av bv cv dv)] w fun e w' => ∃ a b c d, e = .returned (.agg (recC (trimR x) a b c d)) ∧ RecR w' F (trimR x) a b c d ∧ Chg Non w w' := by
  obtain ⟨A1, n1, k1, rfl⟩ := hr.ws.sl
  obtain ⟨A2, n2, k2, rfl⟩ := hr.rs.sl
  obtain ⟨A3, n3, k3, rfl⟩ := RdV.sl hr.sh
  obtain ⟨A4, n4, k4, rfl⟩ := hr.rep.sl
  have HR := hide hr
  have HT := hide (show ∀ a b c d, recC (trimR x) a b c d = #[.int .i64 8, .int .u64 0, .int .u64 0, .int .u64 0, a, b, .bool false, c, d, .int .u64 (x.id : Int), .string x.name] from fun a b c d => by rw [trimR, hk]; rfl)
  have HX := hide (show ∀ w', Chg Non w w' → RecR w' F (trimR x) (.slice none 0 0) (.slice none 0 0) (.slice none 0 0) (.slice none 0 0) from fun w' hc => by
    have h := hr.c0 hc
    rw [trimR, hk]
    exact ⟨RdW.nil_ _ _, RdW.nil_ _ _, RdV.nil_ _ _ _, RdB.nil_ _ _, u64_0, u64_0, u64_0, h.u4, (show (Lit.int .i64 8).wf = true from by decide)⟩)
  have hh : hasT 8 = false := by decide
  have hhas := fun (w' : World) => ref6HasTxn (k := 8) (w := w')
  simp only [hh] at hhas
  have HH := hide hhas
  clear hr hhas hh
  obtain ⟨hb, hz, hl, hk0⟩ := box3 w #[.int .i64 8, .int .u64 (x.boot : Int), .int .u64 (x.sess : Int), .int .u64 (x.seq : Int), .slice A1 n1 k1, .slice A2 n2 k2, .bool x.commit, .slice A3 n3 k3, .slice A4 n4 k4, .int .u64 (x.id : Int), .string x.name] zeroC #[.int .i64 8, .int .u64 0, .int .u64 0, .int .u64 0, .slice none 0 0, .slice none 0 0, .bool false, .slice none 0 0, .slice none 0 0, .int .u64 0, .string ⟨#[]⟩] 30 30 30
  unfold recC
  rw [hk]
  unfold zeroC at *
  clear hk
  go_enter Try.func15, Try.ntmps15
  go_upto_region 2 with fail
  generalize World.alloc _ _ = w3 at hb hz hl hk0 ⊢
  have hszw := hk0.size
  obtain ⟨c0, c1, c2, c3, c4, c5, c6, c7, c8, c9, c10⟩ := rblk hb
  obtain ⟨e0, e1, e2, e3, e4, e5, e6, e7, e8, e9, e10⟩ := rblk hl
  obtain ⟨g0, g1, g2, g3, g4, g5, g6, g7, g8, g9, g10⟩ := rfrz hl
  obtain ⟨hL, hZ, hK⟩ := (loc1 (loc1 (And.intro hl (And.intro hz hk0)) (by omega) (by omega) 9 (.int .u64 (x.id : Int))) (by omega) (by omega) 10 (.string x.name))
  simp only [List.setIfInBounds_toArray, List.set_cons_succ, List.set_cons_zero] at hL
  have HL := hide hL
  have HZ := hide hZ
  have HK := hide hK
  clear hL hZ hK
  go_upto_region 20 with (go_at_call 21; refine (HH.out _).mono ?_; rintro e w4 ⟨rfl, rfl⟩)
  generalize World.setCell _ _ _ = w5 at HL HZ HK ⊢
  clear c0 c1 c2 c3 c4 c5 c6 c7 c8 c9 c10 e0 e1 e2 e3 e4 e5 e6 e7 e8 e9 e10 g0 g1 g2 g3 g4 g5 g6 g7 g8 g9 g10 hb hz hl HH
  have hL := HL.out
  have hZ := HZ.out
  obtain ⟨e0, e1, e2, e3, e4, e5, e6, e7, e8, e9, e10⟩ := rblk hL
  obtain ⟨z0, z1, z2, z3, z4, z5, z6, z7, z8, z9, z10⟩ := rblk hZ
  obtain ⟨f0, f1, f2, f3, f4, f5, f6, f7, f8, f9, f10⟩ := rfrz hZ
  obtain ⟨hB9, hC9⟩ := rput hZ (.int .i64 8) (.int .u64 0) (.int .u64 0) (.int .u64 0) (.slice none 0 0) (.slice none 0 0) (.bool false) (.slice none 0 0) (.slice none 0 0) (.int .u64 (x.id : Int)) (.string x.name)
  go_wp2_with fail
  generalize World.setCell _ _ _ = w9 at hB9 hC9 ⊢
  clear e0 e1 e2 e3 e4 e5 e6 e7 e8 e9 e10 z0 z1 z2 z3 z4 z5 z6 z7 z8 z9 z10 f0 f1 f2 f3 f4 f5 f6 f7 f8 f9 f10
  obtain ⟨a0, a1, a2, a3, a4, a5, a6, a7, a8, a9, a10⟩ := rblk hB9
  refine bodyPost_ret (v := .agg #[.int .i64 8, .int .u64 0, .int .u64 0, .int .u64 0, .slice none 0 0, .slice none 0 0, .bool false, .slice none 0 0, .slice none 0 0, .int .u64 (x.id : Int), .string x.name]) (by simp [results, Try.results15, go_sem, a0, a1, a2, a3, a4, a5, a6, a7, a8, a9, a10]) rfl ⟨.slice none 0 0, .slice none 0 0, .slice none 0 0, .slice none 0 0, (congrArg (fun z => Ending.returned (.agg z)) (HT.out _ _ _ _)).symm, ?_, ?_⟩
  · exact HX.out _ (HK.out.trans hC9 fun k hk e => by omega)
  · exact HK.out.trans hC9 fun k hk e => by omega

set_option maxHeartbeats 4000000 in
set_option maxRecDepth 100000 in
theorem ref6Trim9 {x : RcS} {av bv cv dv : Value} {F : Nat → Prop} {w : World} (hr : RecR w F x av bv cv dv) (hk : x.kind = 9) :
    Calls Try.prog 15 #[.agg (recC x av bv cv dv)] w fun e w' => ∃ a b c d, e = .returned (.agg (recC (trimR x) a b c d)) ∧ RecR w' F (trimR x) a b c d ∧ Chg Non w w' := by
  obtain ⟨A1, n1, k1, rfl⟩ := hr.ws.sl
  obtain ⟨A2, n2, k2, rfl⟩ := hr.rs.sl
  obtain ⟨A3, n3, k3, rfl⟩ := RdV.sl hr.sh
  obtain ⟨A4, n4, k4, rfl⟩ := hr.rep.sl
  have HR := hide hr
  have HT := hide (show ∀ a b c d, recC (trimR x) a b c d = #[.int .i64 9, .int .u64 (x.boot : Int), .int .u64 (x.sess : Int), .int .u64 (x.seq : Int), a, b, .bool false, c, d, .int .u64 0, .string ⟨#[]⟩] from fun a b c d => by rw [trimR, hk]; rfl)
  have HX := hide (show ∀ w', Chg Non w w' → RecR w' F (trimR x) (.slice none 0 0) (.slice none 0 0) (.slice none 0 0) (.slice none 0 0) from fun w' hc => by
    have h := hr.c0 hc
    rw [trimR, hk]
    exact ⟨RdW.nil_ _ _, RdW.nil_ _ _, RdV.nil_ _ _ _, RdB.nil_ _ _, h.u1, h.u2, h.u3, u64_0, (show (Lit.int .i64 9).wf = true from by decide)⟩)
  have hh : hasT 9 = true := by decide
  have hhas := fun (w' : World) => ref6HasTxn (k := 9) (w := w')
  simp only [hh] at hhas
  have HH := hide hhas
  clear hr hhas hh
  obtain ⟨hb, hz, hl, hk0⟩ := box3 w #[.int .i64 9, .int .u64 (x.boot : Int), .int .u64 (x.sess : Int), .int .u64 (x.seq : Int), .slice A1 n1 k1, .slice A2 n2 k2, .bool x.commit, .slice A3 n3 k3, .slice A4 n4 k4, .int .u64 (x.id : Int), .string x.name] zeroC #[.int .i64 9, .int .u64 0, .int .u64 0, .int .u64 0, .slice none 0 0, .slice none 0 0, .bool false, .slice none 0 0, .slice none 0 0, .int .u64 0, .string ⟨#[]⟩] 30 30 30
  unfold recC
  rw [hk]
  unfold zeroC at *
  clear hk
  go_enter Try.func15, Try.ntmps15
  go_upto_region 2 with fail
  generalize World.alloc _ _ = w3 at hb hz hl hk0 ⊢
  have hszw := hk0.size
  obtain ⟨c0, c1, c2, c3, c4, c5, c6, c7, c8, c9, c10⟩ := rblk hb
  obtain ⟨e0, e1, e2, e3, e4, e5, e6, e7, e8, e9, e10⟩ := rblk hl
  obtain ⟨g0, g1, g2, g3, g4, g5, g6, g7, g8, g9, g10⟩ := rfrz hl
  obtain ⟨hL, hZ, hK⟩ := (loc1 (loc1 (loc1 (And.intro hl (And.intro hz hk0)) (by omega) (by omega) 1 (.int .u64 (x.boot : Int))) (by omega) (by omega) 2 (.int .u64 (x.sess : Int))) (by omega) (by omega) 3 (.int .u64 (x.seq : Int)))
  simp only [List.setIfInBounds_toArray, List.set_cons_succ, List.set_cons_zero] at hL
  have HL := hide hL
  have HZ := hide hZ
  have HK := hide hK
  clear hL hZ hK
  go_upto_region 20 with (go_at_call 21; refine (HH.out _).mono ?_; rintro e w4 ⟨rfl, rfl⟩)
  generalize World.setCell _ _ _ = w5 at HL HZ HK ⊢
  clear c0 c1 c2 c3 c4 c5 c6 c7 c8 c9 c10 e0 e1 e2 e3 e4 e5 e6 e7 e8 e9 e10 g0 g1 g2 g3 g4 g5 g6 g7 g8 g9 g10 hb hz hl HH
  have hL := HL.out
  have hZ := HZ.out
  obtain ⟨e0, e1, e2, e3, e4, e5, e6, e7, e8, e9, e10⟩ := rblk hL
  obtain ⟨z0, z1, z2, z3, z4, z5, z6, z7, z8, z9, z10⟩ := rblk hZ
  obtain ⟨f0, f1, f2, f3, f4, f5, f6, f7, f8, f9, f10⟩ := rfrz hZ
  obtain ⟨hB9, hC9⟩ := rput hZ (.int .i64 9) (.int .u64 (x.boot : Int)) (.int .u64 (x.sess : Int)) (.int .u64 (x.seq : Int)) (.slice none 0 0) (.slice none 0 0) (.bool false) (.slice none 0 0) (.slice none 0 0) (.int .u64 0) (.string ⟨#[]⟩)
  go_wp2_with fail
  generalize World.setCell _ _ _ = w9 at hB9 hC9 ⊢
  clear e0 e1 e2 e3 e4 e5 e6 e7 e8 e9 e10 z0 z1 z2 z3 z4 z5 z6 z7 z8 z9 z10 f0 f1 f2 f3 f4 f5 f6 f7 f8 f9 f10
  obtain ⟨a0, a1, a2, a3, a4, a5, a6, a7, a8, a9, a10⟩ := rblk hB9
  refine bodyPost_ret (v := .agg #[.int .i64 9, .int .u64 (x.boot : Int), .int .u64 (x.sess : Int), .int .u64 (x.seq : Int), .slice none 0 0, .slice none 0 0, .bool false, .slice none 0 0, .slice none 0 0, .int .u64 0, .string ⟨#[]⟩]) (by simp [results, Try.results15, go_sem, a0, a1, a2, a3, a4, a5, a6, a7, a8, a9, a10]) rfl ⟨.slice none 0 0, .slice none 0 0, .slice none 0 0, .slice none 0 0, (congrArg (fun z => Ending.returned (.agg z)) (HT.out _ _ _ _)).symm, ?_, ?_⟩
  · exact HX.out _ (HK.out.trans hC9 fun k hk e => by omega)
  · exact HK.out.trans hC9 fun k hk e => by omega

set_option maxHeartbeats 4000000 in
set_option maxRecDepth 100000 in
theorem ref6TrimO {x : RcS} {av bv cv dv : Value} {F : Nat → Prop} {w : World} (hr : RecR w F x av bv cv dv) (hk : ¬ (1 ≤ x.kind ∧ x.kind ≤ 9)) :
    Calls Try.prog 15 #[.agg (recC x av bv cv dv)] w fun e w' => ∃ a b c d, e = .returned (.agg (recC (trimR x) a b c d)) ∧ RecR w' F (trimR x) a b c d ∧ Chg Non w w' := by
  obtain ⟨A1, n1, k1, rfl⟩ := hr.ws.sl
  obtain ⟨A2, n2, k2, rfl⟩ := hr.rs.sl
  obtain ⟨A3, n3, k3, rfl⟩ := RdV.sl hr.sh
  obtain ⟨A4, n4, k4, rfl⟩ := hr.rep.sl
  have HR := hide hr
  have HT := hide (show ∀ a b c d, recC (trimR x) a b c d = #[.int .i64 x.kind, .int .u64 0, .int .u64 0, .int .u64 0, a, b, .bool false, c, d, .int .u64 0, .string ⟨#[]⟩] from fun a b c d => by rw [trimR_not hk]; rfl)
  have HX := hide (show ∀ w', Chg Non w w' → RecR w' F (trimR x) (.slice none 0 0) (.slice none 0 0) (.slice none 0 0) (.slice none 0 0) from fun w' hc => by
    have h := hr.c0 hc
    rw [trimR_not hk]
    exact ⟨RdW.nil_ _ _, RdW.nil_ _ _, RdV.nil_ _ _ _, RdB.nil_ _ _, u64_0, u64_0, u64_0, u64_0, h.ki⟩)
  have hh : hasT x.kind = false := hasT_not hk
  have q1 : (x.kind == 1) = false := beq_eq_false_iff_ne.2 (by omega)
  have q4 : (x.kind == 4) = false := beq_eq_false_iff_ne.2 (by omega)
  have q5 : (x.kind == 5) = false := beq_eq_false_iff_ne.2 (by omega)
  have q7 : (x.kind == 7) = false := beq_eq_false_iff_ne.2 (by omega)
  have q8 : (x.kind == 8) = false := beq_eq_false_iff_ne.2 (by omega)
  have q6 : (x.kind == 6) = false := beq_eq_false_iff_ne.2 (by omega)
  have hhas := fun (w' : World) => ref6HasTxn (k := x.kind) (w := w')
  simp only [hh] at hhas
  have HH := hide hhas
  clear hr hhas hh
  obtain ⟨hb, hz, hl, hk0⟩ := box3 w #[.int .i64 x.kind, .int .u64 (x.boot : Int), .int .u64 (x.sess : Int), .int .u64 (x.seq : Int), .slice A1 n1 k1, .slice A2 n2 k2, .bool x.commit, .slice A3 n3 k3, .slice A4 n4 k4, .int .u64 (x.id : Int), .string x.name] zeroC #[.int .i64 x.kind, .int .u64 0, .int .u64 0, .int .u64 0, .slice none 0 0, .slice none 0 0, .bool false, .slice none 0 0, .slice none 0 0, .int .u64 0, .string ⟨#[]⟩] 30 30 30
  unfold recC
  unfold zeroC at *
  clear hk
  go_enter Try.func15, Try.ntmps15
  go_upto_region 2 with fail
  generalize World.alloc _ _ = w3 at hb hz hl hk0 ⊢
  have hszw := hk0.size
  obtain ⟨c0, c1, c2, c3, c4, c5, c6, c7, c8, c9, c10⟩ := rblk hb
  obtain ⟨e0, e1, e2, e3, e4, e5, e6, e7, e8, e9, e10⟩ := rblk hl
  obtain ⟨g0, g1, g2, g3, g4, g5, g6, g7, g8, g9, g10⟩ := rfrz hl
  obtain ⟨hL, hZ, hK⟩ := (And.intro hl (And.intro hz hk0))
  skip
  have HL := hide hL
  have HZ := hide hZ
  have HK := hide hK
  clear hL hZ hK
  go_upto_region 20 with (go_at_call 21; refine (HH.out _).mono ?_; rintro e w4 ⟨rfl, rfl⟩)
  skip
  clear c0 c1 c2 c3 c4 c5 c6 c7 c8 c9 c10 e0 e1 e2 e3 e4 e5 e6 e7 e8 e9 e10 g0 g1 g2 g3 g4 g5 g6 g7 g8 g9 g10 hb hz hl HH
  have hL := HL.out
  have hZ := HZ.out
  obtain ⟨e0, e1, e2, e3, e4, e5, e6, e7, e8, e9, e10⟩ := rblk hL
  obtain ⟨z0, z1, z2, z3, z4, z5, z6, z7, z8, z9, z10⟩ := rblk hZ
  obtain ⟨f0, f1, f2, f3, f4, f5, f6, f7, f8, f9, f10⟩ := rfrz hZ
  obtain ⟨hB9, hC9⟩ := rput hZ (.int .i64 x.kind) (.int .u64 0) (.int .u64 0) (.int .u64 0) (.slice none 0 0) (.slice none 0 0) (.bool false) (.slice none 0 0) (.slice none 0 0) (.int .u64 0) (.string ⟨#[]⟩)
  go_wp2_with fail
  generalize World.setCell _ _ _ = w9 at hB9 hC9 ⊢
  clear e0 e1 e2 e3 e4 e5 e6 e7 e8 e9 e10 z0 z1 z2 z3 z4 z5 z6 z7 z8 z9 z10 f0 f1 f2 f3 f4 f5 f6 f7 f8 f9 f10
  obtain ⟨a0, a1, a2, a3, a4, a5, a6, a7, a8, a9, a10⟩ := rblk hB9
  refine bodyPost_ret (v := .agg #[.int .i64 x.kind, .int .u64 0, .int .u64 0, .int .u64 0, .slice none 0 0, .slice none 0 0, .bool false, .slice none 0 0, .slice none 0 0, .int .u64 0, .string ⟨#[]⟩]) (by simp [results, Try.results15, go_sem, a0, a1, a2, a3, a4, a5, a6, a7, a8, a9, a10]) rfl ⟨.slice none 0 0, .slice none 0 0, .slice none 0 0, .slice none 0 0, (congrArg (fun z => Ending.returned (.agg z)) (HT.out _ _ _ _)).symm, ?_, ?_⟩
  · exact HX.out _ (HK.out.trans hC9 fun k hk e => by omega)
  · exact HK.out.trans hC9 fun k hk e => by omega

theorem ref6Trim {x : RcS} {av bv cv dv : Value} {F : Nat → Prop} {w : World} (hr : RecR w F x av bv cv dv) :
    Calls Try.prog 15 #[.agg (recC x av bv cv dv)] w fun e w' => ∃ a b c d, e = .returned (.agg (recC (trimR x) a b c d)) ∧ RecR w' F (trimR x) a b c d ∧ Chg Non w w' := by
  by_cases h : 1 ≤ x.kind ∧ x.kind ≤ 9
  · rcases (show x.kind = 1 ∨ x.kind = 2 ∨ x.kind = 3 ∨ x.kind = 4 ∨ x.kind = 5 ∨ x.kind = 6 ∨ x.kind = 7 ∨ x.kind = 8 ∨ x.kind = 9 by omega) with h | h | h | h | h | h | h | h | h
    · exact ref6Trim1 hr h
    · exact ref6Trim2 hr h
    · exact ref6Trim3 hr h
    · exact ref6Trim4 hr h
    · exact ref6Trim5 hr h
    · exact ref6Trim6 hr h
    · exact ref6Trim7 hr h
    · exact ref6Trim8 hr h
    · exact ref6Trim9 hr h
  · exact ref6TrimO hr h
end Go.Proofs.Ytpbgjldjipgfeaa
