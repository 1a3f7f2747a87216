/- groynelaw23's (Sent).read: true of what was read of a packet's bytes. -/
import Derived.Test.YtncchbcoldgpbaaFlat
import Derived.Test.YtncchbcoldgpbaaSameB
import Derived.Deep.CutBlock
namespace Go.Proofs.Ytncchbcoldgpbaa
open Go.RowKit
set_option linter.unusedVariables false
set_option linter.unusedSimpArgs false
theorem info_rans : (Try.prog.info? 34).map (·.size) = some 15 := by kernel_rfl
theorem info_doubt : (Try.prog.info? 47).map (·.size) = some 5 := by kernel_rfl
/-- what is wanted of a packet, but for its ask and its answer -/
def wantA (f : PF) (c5 r7 : Value) : Array Value := flat 0 0 0 { f with ask := zAsk, ans := zAns } (.slice none 0 0) (.slice none 0 0) (.slice none 0 0) (.slice none 0 0) (.slice none 0 0) c5 r7
theorem wantA_size (f : PF) (c5 r7 : Value) : (wantA f c5 r7).size = 65 := rfl
structure WantRd (w : World) (F : Nat → Prop) (f : PF) (a1 a2 b1 b2 b3 c5 r7 : Value) : Prop where
  ops : RdOs w F a1 f.ask.ops
  rep : RdB w F a2 f.ask.reply
  rows : RdRows w F b1 f.ans.out.rows
  ws : RdWr w F b2 f.ans.out.ws
  nrep : RdB w F b3 f.ans.reply
  cops : RdOs w F c5 f.cops
  rdat : RdB w F r7 f.rdat
theorem WantRd.chg {w w' : World} {F S : Nat → Prop} {f : PF} {a1 a2 b1 b2 b3 c5 r7 : Value} (h : WantRd w F f a1 a2 b1 b2 b3 c5 r7) (hc : Chg S w w') (hF : ∀ k, F k → ¬ S k) : WantRd w' F f a1 a2 b1 b2 b3 c5 r7 :=
  ⟨h.ops.chg hc hF, h.rep.chg hc hF, h.rows.chg hc hF, h.ws.chg hc hF, h.nrep.chg hc hF, h.cops.chg hc hF, h.rdat.chg hc hF⟩
theorem RdOs.mono {w : World} {F F' : Nat → Prop} {v : Value} {l : List OpS} (h : RdOs w F v l) (hF : ∀ k, F k → F' k) : RdOs w F' v l := by
  obtain ⟨xs, h1, h2, h3⟩ := h
  exact ⟨xs, h1, h2.mono hF, fun i x y hx hy => ⟨(h3 i x y hx hy).1.mono hF, (h3 i x y hx hy).2.mono hF⟩⟩
theorem rdOs_nil (w : World) (F : Nat → Prop) : RdOs w F (.slice none 0 0) [] := ⟨[], rfl, RdV.nil_ _ _ _, fun i x y h => by simp at h⟩
theorem FlatRd.want {w : World} {F : Nat → Prop} {f : PF} {a1 a2 b1 b2 b3 c5 r7 : Value} (h : FlatRd w F f a1 a2 b1 b2 b3 c5 r7) : WantRd w F f a1 a2 b1 b2 b3 c5 r7 := by
  obtain ⟨⟨⟨xs, h1⟩, h2, h3⟩, ⟨h4, h5, h6⟩, ⟨ys, h7⟩, h8, h9⟩ := h
  exact ⟨h1.rdOs h2, h3, h4, h5, h6, h7.rdOs h8, h9⟩
theorem wantRd_nil {w : World} {F : Nat → Prop} {f : PF} (h1 : f.ask = zAsk) (h2 : f.ans = zAns) (h3 : f.cops = []) (h4 : f.rdat = []) : WantRd w F f (.slice none 0 0) (.slice none 0 0) (.slice none 0 0) (.slice none 0 0) (.slice none 0 0) (.slice none 0 0) (.slice none 0 0) := (flatRd_nil h1 h2 h3 h4).want
theorem RdB.sl_ {w : World} {F : Nat → Prop} {v : Value} {l : List UInt8} (h : RdB w F v l) : ∃ A m c, v = .slice A m c := by
  obtain ⟨A, c, e, _⟩ := h.shape; exact ⟨A, _, c, e⟩
theorem RdOs.sl_ {w : World} {F : Nat → Prop} {v : Value} {l : List OpS} (h : RdOs w F v l) : ∃ A m c, v = .slice A m c := by
  obtain ⟨A, c, e, _⟩ := h.shape; exact ⟨A, _, c, e⟩
theorem RdWr.sl_ {w : World} {F : Nat → Prop} {v : Value} {l : List WrO} (h : RdWr w F v l) : ∃ A m c, v = .slice A m c := by
  obtain ⟨A, c, e, _⟩ := h.shape; exact ⟨A, _, c, e⟩
theorem pkA_one {w : World} {G : Nat → Prop} {x : SenS} {o1 o2 n1 n2 n3 u4 u5 : Value} (hA : AskOwn w G x.ask o1 o2) (hN : AnsOwn w G x.ans n1 n2 n3) (hC : AskOwn w G x.ask u4 u5) : (pkA x o1 o2 n1 n2 n3 u4 u5).all (·.oneCell') = true := by
  obtain ⟨E1, a1, b1, rfl⟩ := hA.one1
  obtain ⟨E2, a2, b2, rfl⟩ := hA.rep.sl_
  obtain ⟨E3, a3, b3, rfl⟩ := hN.rows.sl
  obtain ⟨E4, a4, b4, rfl⟩ := hN.ws.sl_
  obtain ⟨E5, a5, b5, rfl⟩ := hN.rep.sl_
  obtain ⟨E6, a6, b6, rfl⟩ := hC.one1
  obtain ⟨E7, a7, b7, rfl⟩ := hC.rep.sl_
  simp [pkA, Value.oneCell']
theorem want3 {w : World} {g : Nat} {x : SenS} {u4 u5 : Value} (h : Blk w g 63 zeroP) : Blk (w.setCells g 30 [.int .u64 (x.a : Int), .int .u64 (x.b : Int), .int .u64 (x.ask.tb : Int), .int .u64 (x.ask.ts : Int), .int .u64 (x.ask.tq : Int)]) g 63 (wantA (pf (.doubt x.a x.b x.ask.tb x.ask.ts x.ask.tq)) (.slice none 0 0) (.slice none 0 0)) ∧ Chg (fun k => k = g) w (w.setCells g 30 [.int .u64 (x.a : Int), .int .u64 (x.b : Int), .int .u64 (x.ask.tb : Int), .int .u64 (x.ask.ts : Int), .int .u64 (x.ask.tq : Int)]) :=
  setCells_blk [.int .u64 (x.a : Int), .int .u64 (x.b : Int), .int .u64 (x.ask.tb : Int), .int .u64 (x.ask.ts : Int), .int .u64 (x.ask.tq : Int)] (zeroP.toList.take 30) ((zeroP.toList.drop 30).take 5) (zeroP.toList.drop 35) w rfl h
theorem want4 {w : World} {g : Nat} {x : SenS} {u4 u5 : Value} (h : Blk w g 63 zeroP) : Blk (w.setCells g 35 [.int .u64 (x.a : Int), .int .u64 (x.b : Int), .string x.name]) g 63 (wantA (pf (.mend x.a x.b x.name)) (.slice none 0 0) (.slice none 0 0)) ∧ Chg (fun k => k = g) w (w.setCells g 35 [.int .u64 (x.a : Int), .int .u64 (x.b : Int), .string x.name]) :=
  setCells_blk [.int .u64 (x.a : Int), .int .u64 (x.b : Int), .string x.name] (zeroP.toList.take 35) ((zeroP.toList.drop 35).take 3) (zeroP.toList.drop 38) w rfl h
theorem want6 {w : World} {g : Nat} {x : SenS} {u4 u5 : Value} (h : Blk w g 63 zeroP) : Blk (w.setCells g 38 [.int .u64 (x.a : Int), .int .u64 (x.ans.tb : Int), .int .u64 (x.ans.ts : Int), .int .u64 (x.ans.tq : Int), u4]) g 63 (wantA (pf (.call x.a x.ans.tb x.ans.ts x.ans.tq x.ask.ops)) u4 (.slice none 0 0)) ∧ Chg (fun k => k = g) w (w.setCells g 38 [.int .u64 (x.a : Int), .int .u64 (x.ans.tb : Int), .int .u64 (x.ans.ts : Int), .int .u64 (x.ans.tq : Int), u4]) :=
  setCells_blk [.int .u64 (x.a : Int), .int .u64 (x.ans.tb : Int), .int .u64 (x.ans.ts : Int), .int .u64 (x.ans.tq : Int), u4] (zeroP.toList.take 38) ((zeroP.toList.drop 38).take 5) (zeroP.toList.drop 43) w rfl h
theorem want7 {w : World} {g : Nat} {x : SenS} {u4 u5 : Value} (h : Blk w g 63 zeroP) : Blk (w.setCells g 43 [.int .u64 (x.a : Int), .int .u64 (x.b : Int), .int .u64 (x.ask.tb : Int), .int .u64 (x.ask.ts : Int), .int .u64 (x.ask.tq : Int), .int .i64 x.what, u5]) g 63 (wantA (pf (.reply x.a x.b x.ask.tb x.ask.ts x.ask.tq x.what x.ask.reply)) (.slice none 0 0) u5) ∧ Chg (fun k => k = g) w (w.setCells g 43 [.int .u64 (x.a : Int), .int .u64 (x.b : Int), .int .u64 (x.ask.tb : Int), .int .u64 (x.ask.ts : Int), .int .u64 (x.ask.tq : Int), .int .i64 x.what, u5]) :=
  setCells_blk [.int .u64 (x.a : Int), .int .u64 (x.b : Int), .int .u64 (x.ask.tb : Int), .int .u64 (x.ask.ts : Int), .int .u64 (x.ask.tq : Int), .int .i64 x.what, u5] (zeroP.toList.take 43) ((zeroP.toList.drop 43).take 7) (zeroP.toList.drop 50) w rfl h
theorem want8 {w : World} {g : Nat} {x : SenS} {u4 u5 : Value} (h : Blk w g 63 zeroP) : Blk (w.setCells g 50 [.int .u64 (x.a : Int), .int .u64 (x.fr : Int), .string x.name, .int .u64 (x.b : Int), .int .u64 (x.fr : Int), .int .i64 x.what, .int .u64 (x.tt : Int), .int .u64 (x.b : Int)]) g 63 (wantA (pf (.order x.a x.fr x.b x.fr x.tt x.b x.name x.what)) (.slice none 0 0) (.slice none 0 0)) ∧ Chg (fun k => k = g) w (w.setCells g 50 [.int .u64 (x.a : Int), .int .u64 (x.fr : Int), .string x.name, .int .u64 (x.b : Int), .int .u64 (x.fr : Int), .int .i64 x.what, .int .u64 (x.tt : Int), .int .u64 (x.b : Int)]) :=
  setCells_blk [.int .u64 (x.a : Int), .int .u64 (x.fr : Int), .string x.name, .int .u64 (x.b : Int), .int .u64 (x.fr : Int), .int .i64 x.what, .int .u64 (x.tt : Int), .int .u64 (x.b : Int)] (zeroP.toList.take 50) ((zeroP.toList.drop 50).take 8) (zeroP.toList.drop 58) w rfl h
theorem want9 {w : World} {g : Nat} {x : SenS} {u4 u5 : Value} (h : Blk w g 63 zeroP) : Blk (w.setCells g 58 [.int .u64 (x.a : Int), .int .u64 (x.b : Int), .int .u64 (x.fr : Int), .int .u64 (x.tt : Int), .int .i64 x.what]) g 63 (wantA (pf (.result x.a x.b x.fr x.tt x.what)) (.slice none 0 0) (.slice none 0 0)) ∧ Chg (fun k => k = g) w (w.setCells g 58 [.int .u64 (x.a : Int), .int .u64 (x.b : Int), .int .u64 (x.fr : Int), .int .u64 (x.tt : Int), .int .i64 x.what]) :=
  setCells_blk [.int .u64 (x.a : Int), .int .u64 (x.b : Int), .int .u64 (x.fr : Int), .int .u64 (x.tt : Int), .int .i64 x.what] (zeroP.toList.take 58) ((zeroP.toList.drop 58).take 5) (zeroP.toList.drop 63) w rfl h
theorem want11 {w : World} {g : Nat} {x : SenS} {u4 u5 : Value} (h : Blk w g 63 zeroP) : Blk (w.setCells g 63 [.int .u64 (x.a : Int), .int .u64 (x.b : Int)]) g 63 (wantA (pf (.welcome x.a x.b)) (.slice none 0 0) (.slice none 0 0)) ∧ Chg (fun k => k = g) w (w.setCells g 63 [.int .u64 (x.a : Int), .int .u64 (x.b : Int)]) :=
  setCells_blk [.int .u64 (x.a : Int), .int .u64 (x.b : Int)] (zeroP.toList.take 63) ((zeroP.toList.drop 63).take 2) (zeroP.toList.drop 65) w rfl h
theorem want5 {w : World} {g : Nat} {x : SenS} (h : Blk w g 63 zeroP) : Blk (w.setCell ⟨g, 63, none⟩ (.int .u64 (x.a : Int))) g 63 (wantA (pf (.mended x.a)) (.slice none 0 0) (.slice none 0 0)) ∧ Chg (fun k => k = g) w (w.setCell ⟨g, 63, none⟩ (.int .u64 (x.a : Int))) :=
  setCells_blk [.int .u64 (x.a : Int)] (zeroP.toList.take 63) ((zeroP.toList.drop 63).take 1) (zeroP.toList.drop 64) w rfl h
theorem want0 {w : World} {g : Nat} {x : SenS} (h : Blk w g 63 zeroP) : Blk w g 63 (wantA (pf .greet) (.slice none 0 0) (.slice none 0 0)) := h
theorem want1 {w : World} {g : Nat} {a : AskS} (h : Blk w g 63 zeroP) : Blk w g 63 (wantA (pf (.ask a)) (.slice none 0 0) (.slice none 0 0)) := h
theorem want2 {w : World} {g : Nat} {a : AnsS} (h : Blk w g 63 zeroP) : Blk w g 63 (wantA (pf (.answer a)) (.slice none 0 0) (.slice none 0 0)) := h
set_option maxHeartbeats 64000000 in
set_option maxRecDepth 100000 in
theorem sentRead {x : SenS} {va vb vc vd ve v1 v2 v3 : Value} {F : Nat → Prop} {base : Nat} {w : World} (hR : SenRd w F x va vb vc vd ve) (hF : ∀ k, F k → k < w.heap.size) (wf : SenWf x) (h1 : 1 ≤ x.kind) (h2 : x.kind ≤ 11) (hV : PayV w base v1 v2 v3 (payS x)) :
    Calls Try.prog 11 #[.agg (senA x va vb vc vd ve), .agg (pktA x.fr x.tt (payS x) v1 v2 v3)] w fun e w' => e = .returned (.bool true) ∧ Chg Non w w' := by
  obtain ⟨q1, q2, q3, q4, q5, q6, q7, hfl, hRd⟩ := pktA_flat (fr := x.fr) (tt := x.tt) hV
  rw [hfl, payS_kind h1 h2]
  obtain ⟨f, hf⟩ : ∃ f, f = pf (payS x) := ⟨_, rfl⟩
  rw [← hf] at hRd ⊢
  have HF := hide hf
  have HK := hide (And.intro h1 h2)
  clear hfl hV hf h1 h2
  have hW := hRd.want
  obtain ⟨A1, i1, k1, rfl⟩ := hW.ops.sl_
  obtain ⟨A2, i2, k2, rfl⟩ := hW.rep.sl_
  obtain ⟨A3, i3, k3, rfl⟩ := hW.rows.sl
  obtain ⟨A4, i4, k4, rfl⟩ := hW.ws.sl_
  obtain ⟨A5, i5, k5, rfl⟩ := hW.nrep.sl_
  obtain ⟨A6, i6, k6, rfl⟩ := hW.cops.sl_
  obtain ⟨A7, i7, k7, rfl⟩ := hW.rdat.sl_
  obtain ⟨A, an, ac, rfl⟩ := hR.ops.sl_
  obtain ⟨B, bn, bc, rfl⟩ := hR.rep.sl_
  obtain ⟨R, rn, rc, rfl⟩ := hR.rows.sl
  obtain ⟨V, vn, vc, rfl⟩ := hR.ws.sl_
  obtain ⟨P, pn, pc, rfl⟩ := hR.nrep.sl_
  have hlt : ∀ k, (base ≤ k ∧ k < w.heap.size) → k < w.heap.size := fun k h => h.2
  replace hW : WantRd w (fun k => k < w.heap.size) f (.slice A1 i1 k1) (.slice A2 i2 k2) (.slice A3 i3 k3) (.slice A4 i4 k4) (.slice A5 i5 k5) (.slice A6 i6 k6) (.slice A7 i7 k7) := ⟨hW.ops.mono hlt, hW.rep.mono hlt, hW.rows.mono hlt, hW.ws.mono hlt, hW.nrep.mono hlt, hW.cops.mono hlt, hW.rdat.mono hlt⟩
  clear hRd hlt
  have HWF := hide wf
  clear wf
  have hS := Blk.new w 36 (senA x (.slice A an ac) (.slice B bn bc) (.slice R rn rc) (.slice V vn vc) (.slice P pn pc))
  have hcA := (Chg.refl Non w).alloc (.cells (senA x (.slice A an ac) (.slice B bn bc) (.slice R rn rc) (.slice V vn vc) (.slice P pn pc)) 36)
  have hc0 := hcA.alloc (.cells (flat x.fr x.tt x.kind f (.slice A1 i1 k1) (.slice A2 i2 k2) (.slice A3 i3 k3) (.slice A4 i4 k4) (.slice A5 i5 k5) (.slice A6 i6 k6) (.slice A7 i7 k7)) 63)
  have hS0 := hS.al (.cells (flat x.fr x.tt x.kind f (.slice A1 i1 k1) (.slice A2 i2 k2) (.slice A3 i3 k3) (.slice A4 i4 k4) (.slice A5 i5 k5) (.slice A6 i6 k6) (.slice A7 i7 k7)) 63)
  have hQ0 := Blk.new (w.alloc (.cells (senA x (.slice A an ac) (.slice B bn bc) (.slice R rn rc) (.slice V vn vc) (.slice P pn pc)) 36)) 63 (flat x.fr x.tt x.kind f (.slice A1 i1 k1) (.slice A2 i2 k2) (.slice A3 i3 k3) (.slice A4 i4 k4) (.slice A5 i5 k5) (.slice A6 i6 k6) (.slice A7 i7 k7))
  have hsz : (w.alloc (.cells (senA x (.slice A an ac) (.slice B bn bc) (.slice R rn rc) (.slice V vn vc) (.slice P pn pc)) 36)).heap.size = w.heap.size + 1 := by simp
  rw [hsz] at hQ0
  go_enter Try.func11, Try.ntmps11
  go_upto_region 1 with fail
  obtain ⟨p, hp⟩ : ∃ p, p = w.heap.size := ⟨_, rfl⟩
  obtain ⟨q, hq⟩ : ∃ q, q = w.heap.size + 1 := ⟨_, rfl⟩
  rw [← hq] at hQ0
  rw [← hp] at hS0
  try rw [hsz]
  rw [← hq, ← hp]
  have HPQ := hide (And.intro hp hq)
  clear hp hq hsz hS hcA
  generalize hw0 : World.alloc (World.alloc w _) _ = w0
  rw [show (w.alloc (.cells (senA x (.slice A an ac) (.slice B bn bc) (.slice R rn rc) (.slice V vn vc) (.slice P pn pc)) 36)).alloc (.cells (flat x.fr x.tt x.kind f (.slice A1 i1 k1) (.slice A2 i2 k2) (.slice A3 i3 k3) (.slice A4 i4 k4) (.slice A5 i5 k5) (.slice A6 i6 k6) (.slice A7 i7 k7)) 63) = w0 from hw0] at hS0 hQ0 hc0
  clear hw0
  have hR0 := hR.c0 hc0
  have hW0 := hW.chg hc0 fun _ _ h => h
  have hsx := senA_size x (.slice A an ac) (.slice B bn bc) (.slice R rn rc) (.slice V vn vc) (.slice P pn pc)
  go_upto_region 2 with (first
    | (refine wpList_load_row rfl 36 (.tmp 2) rfl p rfl 36 (senA x (.slice A an ac) (.slice B bn bc) (.slice R rn rc) (.slice V vn vc) (.slice P pn pc)) (0, 0) _ hS0 Try.underlying36 rfl (by rw [hsx]; exact info_sen) ?_)
    | (go_at_call 8; refine (senPacket hR0 (fun k hk => by have := hF k hk; have := hc0.size; omega)).mono ?_; rintro e w2 ⟨G, o1, o2, n1, n2, n3, u4, u5, rfl, hA, hN, hC, hG, hc2⟩; have hX2 := Blk.new w2 63 zeroP; have hcZ := (Chg.refl Non w2).alloc (.cells zeroP 63); have hone : (pkA x o1 o2 n1 n2 n3 u4 u5).all (·.oneCell') = true := pkA_one hA hN hC)
    | (refine wpList_store_pkt rfl (.tmp 5) (.tmp 10) rfl w2.heap.size (pkA x o1 o2 n1 n2 n3 u4 u5) rfl rfl _ hX2 zeroP_size rfl hone fun w3 h53 hc3 => ?_))
  have hs2 := hc2.size
  have hsp := hS0.lt
  have hsq := hQ0.lt
  have hz2 : (w2.alloc (.cells zeroP 63)).heap.size = w2.heap.size + 1 := by simp
  obtain ⟨g5, hg5⟩ : ∃ g, g = w2.heap.size := ⟨_, rfl⟩
  rw [← hg5] at h53 hc3 hz2 ⊢
  have h5l := h53.lt
  have hS3 := ((hS0.c0 hc2).c0 hcZ).chg hc3 (fun e => by omega)
  have hQ3 := ((hQ0.c0 hc2).c0 hcZ).chg hc3 (fun e => by omega)
  have hc03 : Chg Non w0 w3 := (hc2.trans0 hcZ).trans hc3 fun k hk e => by omega
  have hC3 := (hC.chg hcZ fun _ _ h => h).chg hc3 (fun k hk e => by have := (hG k hk).2; omega)
  have hGl : ∀ k, G k → w0.heap.size ≤ k ∧ k < g5 := fun k hk => by rw [hg5]; exact hG k hk
  have hR3 := hR0.c0 hc03
  have hW3 := hW0.chg hc03 fun _ _ h => h
  have hcw3 := hc0.trans0 hc03
  have HO := hide (show w0.heap.size ≤ g5 by omega)
  have HGl := hide hGl
  have HR := hide hR
  have HW := hide hW
  clear hX2 hcZ hone hc3 hc2 hA hN hC hG hs2 hS0 hQ0 hR0 hW0 hz2 hg5 hGl hR hW
  go_upto_region 3 with fail
  have h6 := Blk.new w3 28 zeroA
  have hcz := (Chg.refl Non w3).alloc (.cells zeroA 28)
  obtain ⟨g6, hg6⟩ : ∃ g, g = w3.heap.size := ⟨_, rfl⟩
  rw [← hg6] at h6 ⊢
  have hl6 : g5 < g6 := by have := h53.lt; omega
  clear hg6
  generalize hww : World.alloc w3 _ = w4
  rw [show w3.alloc (.cells zeroA 28) = w4 from hww] at hcz h6
  clear hww
  have h64 := h6
  have h54 := h53.c0 hcz
  have hS4 := hS3.c0 hcz
  have hQ4 := hQ3.c0 hcz
  have hcw4 := hcw3.trans0 hcz
  have hc04 := hc03.trans0 hcz
  have hC4 := hC3.chg hcz fun _ _ h => h
  clear hcz h6 h53 hS3 hQ3 hcw3 hc03 hC3 hR3 hW3
  go_upto_region 4 with fail
  have h7 := Blk.new w4 34 zeroN
  have hcz := (Chg.refl Non w4).alloc (.cells zeroN 34)
  obtain ⟨g7, hg7⟩ : ∃ g, g = w4.heap.size := ⟨_, rfl⟩
  rw [← hg7] at h7 ⊢
  have hl7 : g6 < g7 := by have := h64.lt; omega
  clear hg7
  generalize hww : World.alloc w4 _ = w5
  rw [show w4.alloc (.cells zeroN 34) = w5 from hww] at hcz h7
  clear hww
  have h75 := h7
  have h65 := h64.c0 hcz
  have h55 := h54.c0 hcz
  have hS5 := hS4.c0 hcz
  have hQ5 := hQ4.c0 hcz
  have hcw5 := hcw4.trans0 hcz
  have hc05 := hc04.trans0 hcz
  have hC5 := hC4.chg hcz fun _ _ h => h
  clear hcz h7 h64 h54 hS4 hQ4 hcw4 hc04 hC4
  have hX8 := Blk.new w5 63 zeroP
  have hcZ := (Chg.refl Non w5).alloc (.cells zeroP 63)
  go_upto_region 5 with (first | (refine Great.wpList_readTo rfl (some 11) rfl (.agg zeroP) (by kernel_rfl) ?_) | (refine wpList_store_pkt rfl (.tmp 8) (.tmp 11) rfl w5.heap.size zeroP rfl rfl _ hX8 zeroP_size zeroP_size zeroP_one fun w6 h86 hc6 => ?_))
  have hz5 : (w5.alloc (.cells zeroP 63)).heap.size = w5.heap.size + 1 := by simp
  obtain ⟨g8, hg8⟩ : ∃ g, g = w5.heap.size := ⟨_, rfl⟩
  rw [← hg8] at h86 hc6 hz5 ⊢
  have hl8 : g7 < g8 := by have := h75.lt; omega
  have hl0 : q < g5 := by have := HO.out; omega
  have hpq : p < q := by have := HPQ.out; omega
  have h76 := (h75.c0 hcZ).chg hc6 (fun e => by omega)
  have h66 := (h65.c0 hcZ).chg hc6 (fun e => by omega)
  have h56 := (h55.c0 hcZ).chg hc6 (fun e => by omega)
  have hS6 := (hS5.c0 hcZ).chg hc6 (fun e => by omega)
  have hQ6 := (hQ5.c0 hcZ).chg hc6 (fun e => by omega)
  have hc06 : Chg Non w0 w6 := (hc05.trans0 hcZ).trans hc6 fun k hk e => by have := HO.out; omega
  have hcw6 : Chg Non w w6 := hc0.trans0 hc06
  have hC6 := (hC5.chg hcZ fun _ _ h => h).chg hc6 (fun k hk e => by have := HGl.out k hk; omega)
  have HL := hide (And.intro hpq (And.intro hl0 (And.intro hl6 (And.intro hl7 hl8))))
  have h8l := h86.lt
  clear hX8 hcZ hc6 h75 h65 h55 hS5 hQ5 hcw5 hc05 hC5 hz5 hg8 h5l hsp hsq
  have y0 : w6.cell? ⟨p, 0, none⟩ = some (.int .i64 x.kind) := hS6.cell 0
  go_upto_block 0 with fail
  go_cut [13] from 14 (fun vv wx => ∃ a1 a2 b1 b2 b3 c5 r7 : Value, Blk wx g6 28 (askA f.ask a1 a2) ∧ Blk wx g7 34 (ansA f.ans b1 b2 b3) ∧ Blk wx g8 63 (wantA f c5 r7) ∧ WantRd wx (fun k => k < g6) f a1 a2 b1 b2 b3 c5 r7 ∧ Chg (fun k => g6 ≤ k) w6 wx)
  case first =>
    have hR6 := HR.out.c0 hcw6
    have hFg : ∀ k, F k → k < g6 := fun k hk => by have := hF k hk; have := HO.out; have := hc0.size; have := HL.out; omega
    go_upto_if 14 with fail
    by_cases hk : x.kind = 1
    · as_aux_lemma =>
        have hff : f = pf (.ask x.ask) := by rw [HF.out]; simp [payS, hk]
        have HFF := hide hff
        have hkb : (x.kind == 1) = true := by rw [hk]; rfl
        clear hff hk
        have y3 : w6.cell? ⟨p, 3, none⟩ = some (.int .i64 x.ask.kind) := hS6.cell 3
        have y4 : w6.cell? ⟨p, 4, none⟩ = some (.int .u64 (x.ask.inc : Int)) := hS6.cell 4
        have y5 : w6.cell? ⟨p, 5, none⟩ = some (.int .u64 (x.ask.head : Int)) := hS6.cell 5
        have y6 : w6.cell? ⟨p, 6, none⟩ = some (.int .u64 (x.ask.boot : Int)) := hS6.cell 6
        have y7 : w6.cell? ⟨p, 7, none⟩ = some (.int .u64 (x.ask.tb : Int)) := hS6.cell 7
        have y8 : w6.cell? ⟨p, 8, none⟩ = some (.int .u64 (x.ask.ts : Int)) := hS6.cell 8
        have y9 : w6.cell? ⟨p, 9, none⟩ = some (.int .u64 (x.ask.tq : Int)) := hS6.cell 9
        have y10 : w6.cell? ⟨p, 10, none⟩ = some (.slice A an ac) := hS6.cell 10
        have y11 : w6.cell? ⟨p, 11, none⟩ = some (.bool x.ask.commit) := hS6.cell 11
        have y12 : w6.cell? ⟨p, 12, none⟩ = some (.slice B bn bc) := hS6.cell 12
        have y13 : w6.cell? ⟨p, 13, none⟩ = some (.int .u64 (x.ask.id : Int)) := hS6.cell 13
        have y14 : w6.cell? ⟨p, 14, none⟩ = some (.string x.ask.name) := hS6.cell 14
        go_wp2_with (refine wpList_plain rfl fun _ hK => wp_store_any info_rask (.tmp 6) (.tmp 17) rfl g6 (askA x.ask (.slice A an ac) (.slice B bn bc)) rfl rfl zeroA h66 rfl rfl (by simp [askA, Value.oneCell']) fun w7 hP7 hc7 => hK _ _ ?_)
        go_meet
        rw [HFF.out]
        exact ⟨_, _, _, _, _, _, _, hP7, (show Blk w6 g7 34 (ansA zAns (.slice none 0 0) (.slice none 0 0) (.slice none 0 0)) from h76).chg hc7 (fun e => by omega), want1 (h86.chg hc7 (fun e => by omega)), ⟨(hR6.ops.mono hFg).chg hc7 (fun k hk e => by omega), (hR6.rep.mono hFg).chg hc7 (fun k hk e => by omega), rdRows_nil _ _, rdWr_nil _ _, RdB.nil_ _ _, rdOs_nil _ _, RdB.nil_ _ _⟩, (Chg.refl _ w6).trans hc7 fun k hk e => by omega⟩
    have nk1 : (x.kind == 1) = false := beq_eq_false_iff_ne.2 hk
    have HN1 := hide hk
    clear hk
    go_upto_if 18 with fail
    by_cases hk : x.kind = 2
    · as_aux_lemma =>
        have hff : f = pf (.answer x.ans) := by rw [HF.out]; simp [payS, hk]
        have HFF := hide hff
        have hkb : (x.kind == 2) = true := by rw [hk]; rfl
        clear hff hk
        have y15 : w6.cell? ⟨p, 15, none⟩ = some (.int .i64 x.ans.kind) := hS6.cell 15
        have y16 : w6.cell? ⟨p, 16, none⟩ = some (.int .u64 (x.ans.inc : Int)) := hS6.cell 16
        have y17 : w6.cell? ⟨p, 17, none⟩ = some (.int .u64 (x.ans.boot : Int)) := hS6.cell 17
        have y18 : w6.cell? ⟨p, 18, none⟩ = some (.int .u64 (x.ans.tb : Int)) := hS6.cell 18
        have y19 : w6.cell? ⟨p, 19, none⟩ = some (.int .u64 (x.ans.ts : Int)) := hS6.cell 19
        have y20 : w6.cell? ⟨p, 20, none⟩ = some (.int .u64 (x.ans.tq : Int)) := hS6.cell 20
        have y21 : w6.cell? ⟨p, 21, none⟩ = some (.int .u64 (x.ans.id : Int)) := hS6.cell 21
        have y22 : w6.cell? ⟨p, 22, none⟩ = some (.int .i64 x.ans.err) := hS6.cell 22
        have y23 : w6.cell? ⟨p, 23, none⟩ = some (.int .i64 x.ans.out.err) := hS6.cell 23
        have y24 : w6.cell? ⟨p, 24, none⟩ = some (.int .i64 x.ans.out.at_) := hS6.cell 24
        have y25 : w6.cell? ⟨p, 25, none⟩ = some (.slice R rn rc) := hS6.cell 25
        have y26 : w6.cell? ⟨p, 26, none⟩ = some (.slice V vn vc) := hS6.cell 26
        have y27 : w6.cell? ⟨p, 27, none⟩ = some (.bool x.ans.commit) := hS6.cell 27
        have y28 : w6.cell? ⟨p, 28, none⟩ = some (.slice P pn pc) := hS6.cell 28
        have y29 : w6.cell? ⟨p, 29, none⟩ = some (.int .u64 (x.ans.at_ : Int)) := hS6.cell 29
        go_wp2_with (refine wpList_plain rfl fun _ hK => wp_store_any info_rans (.tmp 7) (.tmp 21) rfl g7 (ansA x.ans (.slice R rn rc) (.slice V vn vc) (.slice P pn pc)) rfl rfl zeroN h76 rfl rfl (by simp [ansA, Value.oneCell']) fun w7 hP7 hc7 => hK _ _ ?_)
        go_meet
        rw [HFF.out]
        exact ⟨_, _, _, _, _, _, _, (show Blk w6 g6 28 (askA zAsk (.slice none 0 0) (.slice none 0 0)) from h66).chg hc7 (fun e => by omega), hP7, want2 (h86.chg hc7 (fun e => by omega)), ⟨rdOs_nil _ _, RdB.nil_ _ _, (hR6.rows.mono hFg).chg hc7 (fun k hk e => by omega), (hR6.ws.mono hFg).chg hc7 (fun k hk e => by omega), (hR6.nrep.mono hFg).chg hc7 (fun k hk e => by omega), rdOs_nil _ _, RdB.nil_ _ _⟩, (Chg.refl _ w6).trans hc7 fun k hk e => by omega⟩
    have nk2 : (x.kind == 2) = false := beq_eq_false_iff_ne.2 hk
    have HN2 := hide hk
    clear hk
    go_upto_if 22 with fail
    by_cases hk : x.kind = 3
    · as_aux_lemma =>
        have hff : f = pf (.doubt x.a x.b x.ask.tb x.ask.ts x.ask.tq) := by rw [HF.out]; simp [payS, hk]
        have HFF := hide hff
        have hkb : (x.kind == 3) = true := by rw [hk]; rfl
        clear hff hk
        have y30 : w6.cell? ⟨g5, 30, none⟩ = some (.int .u64 (x.a : Int)) := h56.cell 30
        have y31 : w6.cell? ⟨g5, 31, none⟩ = some (.int .u64 (x.b : Int)) := h56.cell 31
        have y32 : w6.cell? ⟨g5, 32, none⟩ = some (.int .u64 (x.ask.tb : Int)) := h56.cell 32
        have y33 : w6.cell? ⟨g5, 33, none⟩ = some (.int .u64 (x.ask.ts : Int)) := h56.cell 33
        have y34 : w6.cell? ⟨g5, 34, none⟩ = some (.int .u64 (x.ask.tq : Int)) := h56.cell 34
        have hth := there_of (o := 30) (n := 5) h86 (by rw [zeroP_size]; decide)
        have hm := want3 (x := x) (u4 := .slice none 0 0) (u5 := .slice none 0 0) h86
        have HM := hide (And.intro hth hm)
        clear hth hm
        go_wp2_with (refine wpList_store_mid (P := Try.prog) rfl 47 (.tmp 26) (.tmp 25) rfl g8 30 #[.int .u64 (x.a : Int), .int .u64 (x.b : Int), .int .u64 (x.ask.tb : Int), .int .u64 (x.ask.ts : Int), .int .u64 (x.ask.tq : Int)] rfl rfl HM.out.1 info_doubt (by simp [Value.oneCell']) ?_)
        go_meet
        obtain ⟨hm1, hm2⟩ := HM.out.2
        rw [HFF.out]
        exact ⟨_, _, _, _, _, _, _, (show Blk w6 g6 28 (askA zAsk (.slice none 0 0) (.slice none 0 0)) from h66).chg hm2 (fun e => by omega), (show Blk w6 g7 34 (ansA zAns (.slice none 0 0) (.slice none 0 0) (.slice none 0 0)) from h76).chg hm2 (fun e => by omega), hm1, ⟨rdOs_nil _ _, RdB.nil_ _ _, rdRows_nil _ _, rdWr_nil _ _, RdB.nil_ _ _, rdOs_nil _ _, RdB.nil_ _ _⟩, (Chg.refl _ w6).trans hm2 fun k hk e => by omega⟩
    have nk3 : (x.kind == 3) = false := beq_eq_false_iff_ne.2 hk
    have HN3 := hide hk
    clear hk
    go_upto_if 27 with fail
    by_cases hk : x.kind = 4
    · as_aux_lemma =>
        have hff : f = pf (.mend x.a x.b x.name) := by rw [HF.out]; simp [payS, hk]
        have HFF := hide hff
        have hkb : (x.kind == 4) = true := by rw [hk]; rfl
        clear hff hk
        have y35 : w6.cell? ⟨g5, 35, none⟩ = some (.int .u64 (x.a : Int)) := h56.cell 35
        have y36 : w6.cell? ⟨g5, 36, none⟩ = some (.int .u64 (x.b : Int)) := h56.cell 36
        have y37 : w6.cell? ⟨g5, 37, none⟩ = some (.string x.name) := h56.cell 37
        have hth := there_of (o := 35) (n := 3) h86 (by rw [zeroP_size]; decide)
        have hm := want4 (x := x) (u4 := .slice none 0 0) (u5 := .slice none 0 0) h86
        have HM := hide (And.intro hth hm)
        clear hth hm
        go_wp2_with (refine wpList_store_mid (P := Try.prog) rfl 49 (.tmp 31) (.tmp 30) rfl g8 35 #[.int .u64 (x.a : Int), .int .u64 (x.b : Int), .string x.name] rfl rfl HM.out.1 info_mend (by simp [Value.oneCell']) ?_)
        go_meet
        obtain ⟨hm1, hm2⟩ := HM.out.2
        rw [HFF.out]
        exact ⟨_, _, _, _, _, _, _, (show Blk w6 g6 28 (askA zAsk (.slice none 0 0) (.slice none 0 0)) from h66).chg hm2 (fun e => by omega), (show Blk w6 g7 34 (ansA zAns (.slice none 0 0) (.slice none 0 0) (.slice none 0 0)) from h76).chg hm2 (fun e => by omega), hm1, ⟨rdOs_nil _ _, RdB.nil_ _ _, rdRows_nil _ _, rdWr_nil _ _, RdB.nil_ _ _, rdOs_nil _ _, RdB.nil_ _ _⟩, (Chg.refl _ w6).trans hm2 fun k hk e => by omega⟩
    have nk4 : (x.kind == 4) = false := beq_eq_false_iff_ne.2 hk
    have HN4 := hide hk
    clear hk
    go_upto_if 32 with fail
    by_cases hk : x.kind = 5
    · as_aux_lemma =>
        have hff : f = pf (.mended x.a) := by rw [HF.out]; simp [payS, hk]
        have HFF := hide hff
        have hkb : (x.kind == 5) = true := by rw [hk]; rfl
        clear hff hk
        have y32 : w6.cell? ⟨p, 32, none⟩ = some (.int .u64 (x.a : Int)) := hS6.cell 32
        have k0 : w6.cell? ⟨g8, 63, none⟩ = some (.int .u64 0) := h86.cell 63
        have k1 : w6.frozen? ⟨g8, 63, none⟩ = false := h86.frozen 63
        have HM := hide (want5 (x := x) h86)
        go_wp2_with fail
        go_meet
        obtain ⟨hm1, hm2⟩ := HM.out
        rw [HFF.out]
        exact ⟨_, _, _, _, _, _, _, (show Blk w6 g6 28 (askA zAsk (.slice none 0 0) (.slice none 0 0)) from h66).chg hm2 (fun e => by omega), (show Blk w6 g7 34 (ansA zAns (.slice none 0 0) (.slice none 0 0) (.slice none 0 0)) from h76).chg hm2 (fun e => by omega), hm1, wantRd_nil rfl rfl rfl rfl, (Chg.refl _ w6).trans hm2 fun k hk e => by omega⟩
    have nk5 : (x.kind == 5) = false := beq_eq_false_iff_ne.2 hk
    have HN5 := hide hk
    clear hk
    go_upto_if 38 with fail
    by_cases hk : x.kind = 6
    · as_aux_lemma =>
        have hff : f = pf (.call x.a x.ans.tb x.ans.ts x.ans.tq x.ask.ops) := by rw [HF.out]; simp [payS, hk]
        have HFF := hide hff
        have hkb : (x.kind == 6) = true := by rw [hk]; rfl
        clear hff hk
        obtain ⟨U4, un4, uc4, rfl⟩ := hC6.one1
        have y38 : w6.cell? ⟨g5, 38, none⟩ = some (.int .u64 (x.a : Int)) := h56.cell 38
        have y39 : w6.cell? ⟨g5, 39, none⟩ = some (.int .u64 (x.ans.tb : Int)) := h56.cell 39
        have y40 : w6.cell? ⟨g5, 40, none⟩ = some (.int .u64 (x.ans.ts : Int)) := h56.cell 40
        have y41 : w6.cell? ⟨g5, 41, none⟩ = some (.int .u64 (x.ans.tq : Int)) := h56.cell 41
        have y42 : w6.cell? ⟨g5, 42, none⟩ = some (.slice U4 un4 uc4) := h56.cell 42
        have hth := there_of (o := 38) (n := 5) h86 (by rw [zeroP_size]; decide)
        have hm := want6 (x := x) (u4 := .slice U4 un4 uc4) (u5 := .slice none 0 0) h86
        have HM := hide (And.intro hth hm)
        clear hth hm
        go_wp2_with (refine wpList_store_mid (P := Try.prog) rfl 51 (.tmp 42) (.tmp 41) rfl g8 38 #[.int .u64 (x.a : Int), .int .u64 (x.ans.tb : Int), .int .u64 (x.ans.ts : Int), .int .u64 (x.ans.tq : Int), .slice U4 un4 uc4] rfl rfl HM.out.1 info_call (by simp [Value.oneCell']) ?_)
        go_meet
        obtain ⟨hm1, hm2⟩ := HM.out.2
        rw [HFF.out]
        obtain ⟨xs, hO⟩ := hC6.ops
        have hops := hO.rdOs hC6.opsF
        exact ⟨_, _, _, _, _, _, _, (show Blk w6 g6 28 (askA zAsk (.slice none 0 0) (.slice none 0 0)) from h66).chg hm2 (fun e => by omega), (show Blk w6 g7 34 (ansA zAns (.slice none 0 0) (.slice none 0 0) (.slice none 0 0)) from h76).chg hm2 (fun e => by omega), hm1, ⟨rdOs_nil _ _, RdB.nil_ _ _, rdRows_nil _ _, rdWr_nil _ _, RdB.nil_ _ _, (hops.chg hm2 (fun k hk e => by have := HGl.out k hk; omega)).mono fun k hk => by have := HGl.out k hk; omega, RdB.nil_ _ _⟩, (Chg.refl _ w6).trans hm2 fun k hk e => by omega⟩
    have nk6 : (x.kind == 6) = false := beq_eq_false_iff_ne.2 hk
    have HN6 := hide hk
    clear hk
    go_upto_if 43 with fail
    by_cases hk : x.kind = 7
    · as_aux_lemma =>
        have hff : f = pf (.reply x.a x.b x.ask.tb x.ask.ts x.ask.tq x.what x.ask.reply) := by rw [HF.out]; simp [payS, hk]
        have HFF := hide hff
        have hkb : (x.kind == 7) = true := by rw [hk]; rfl
        clear hff hk
        obtain ⟨U5, un5, uc5, rfl⟩ := hC6.rep.sl_
        have y43 : w6.cell? ⟨g5, 43, none⟩ = some (.int .u64 (x.a : Int)) := h56.cell 43
        have y44 : w6.cell? ⟨g5, 44, none⟩ = some (.int .u64 (x.b : Int)) := h56.cell 44
        have y45 : w6.cell? ⟨g5, 45, none⟩ = some (.int .u64 (x.ask.tb : Int)) := h56.cell 45
        have y46 : w6.cell? ⟨g5, 46, none⟩ = some (.int .u64 (x.ask.ts : Int)) := h56.cell 46
        have y47 : w6.cell? ⟨g5, 47, none⟩ = some (.int .u64 (x.ask.tq : Int)) := h56.cell 47
        have y48 : w6.cell? ⟨g5, 48, none⟩ = some (.int .i64 x.what) := h56.cell 48
        have y49 : w6.cell? ⟨g5, 49, none⟩ = some (.slice U5 un5 uc5) := h56.cell 49
        have hth := there_of (o := 43) (n := 7) h86 (by rw [zeroP_size]; decide)
        have hm := want7 (x := x) (u4 := .slice none 0 0) (u5 := .slice U5 un5 uc5) h86
        have HM := hide (And.intro hth hm)
        clear hth hm
        go_wp2_with (refine wpList_store_mid (P := Try.prog) rfl 53 (.tmp 47) (.tmp 46) rfl g8 43 #[.int .u64 (x.a : Int), .int .u64 (x.b : Int), .int .u64 (x.ask.tb : Int), .int .u64 (x.ask.ts : Int), .int .u64 (x.ask.tq : Int), .int .i64 x.what, .slice U5 un5 uc5] rfl rfl HM.out.1 info_repl (by simp [Value.oneCell']) ?_)
        go_meet
        obtain ⟨hm1, hm2⟩ := HM.out.2
        rw [HFF.out]
        exact ⟨_, _, _, _, _, _, _, (show Blk w6 g6 28 (askA zAsk (.slice none 0 0) (.slice none 0 0)) from h66).chg hm2 (fun e => by omega), (show Blk w6 g7 34 (ansA zAns (.slice none 0 0) (.slice none 0 0) (.slice none 0 0)) from h76).chg hm2 (fun e => by omega), hm1, ⟨rdOs_nil _ _, RdB.nil_ _ _, rdRows_nil _ _, rdWr_nil _ _, RdB.nil_ _ _, rdOs_nil _ _, ((hC6.rep.chg hm2 (fun k hk e => by have := HGl.out k hk; omega)).mono fun k hk => by have := HGl.out k hk; omega)⟩, (Chg.refl _ w6).trans hm2 fun k hk e => by omega⟩
    have nk7 : (x.kind == 7) = false := beq_eq_false_iff_ne.2 hk
    have HN7 := hide hk
    clear hk
    go_upto_if 48 with fail
    by_cases hk : x.kind = 8
    · as_aux_lemma =>
        have hff : f = pf (.order x.a x.fr x.b x.fr x.tt x.b x.name x.what) := by rw [HF.out]; simp [payS, hk]
        have HFF := hide hff
        have hkb : (x.kind == 8) = true := by rw [hk]; rfl
        clear hff hk
        have y50 : w6.cell? ⟨g5, 50, none⟩ = some (.int .u64 (x.a : Int)) := h56.cell 50
        have y51 : w6.cell? ⟨g5, 51, none⟩ = some (.int .u64 (x.fr : Int)) := h56.cell 51
        have y52 : w6.cell? ⟨g5, 52, none⟩ = some (.string x.name) := h56.cell 52
        have y53 : w6.cell? ⟨g5, 53, none⟩ = some (.int .u64 (x.b : Int)) := h56.cell 53
        have y54 : w6.cell? ⟨g5, 54, none⟩ = some (.int .u64 (x.fr : Int)) := h56.cell 54
        have y55 : w6.cell? ⟨g5, 55, none⟩ = some (.int .i64 x.what) := h56.cell 55
        have y56 : w6.cell? ⟨g5, 56, none⟩ = some (.int .u64 (x.tt : Int)) := h56.cell 56
        have y57 : w6.cell? ⟨g5, 57, none⟩ = some (.int .u64 (x.b : Int)) := h56.cell 57
        have hth := there_of (o := 50) (n := 8) h86 (by rw [zeroP_size]; decide)
        have hm := want8 (x := x) (u4 := .slice none 0 0) (u5 := .slice none 0 0) h86
        have HM := hide (And.intro hth hm)
        clear hth hm
        go_wp2_with (refine wpList_store_mid (P := Try.prog) rfl 57 (.tmp 52) (.tmp 51) rfl g8 50 #[.int .u64 (x.a : Int), .int .u64 (x.fr : Int), .string x.name, .int .u64 (x.b : Int), .int .u64 (x.fr : Int), .int .i64 x.what, .int .u64 (x.tt : Int), .int .u64 (x.b : Int)] rfl rfl HM.out.1 info_ordr (by simp [Value.oneCell']) ?_)
        go_meet
        obtain ⟨hm1, hm2⟩ := HM.out.2
        rw [HFF.out]
        exact ⟨_, _, _, _, _, _, _, (show Blk w6 g6 28 (askA zAsk (.slice none 0 0) (.slice none 0 0)) from h66).chg hm2 (fun e => by omega), (show Blk w6 g7 34 (ansA zAns (.slice none 0 0) (.slice none 0 0) (.slice none 0 0)) from h76).chg hm2 (fun e => by omega), hm1, ⟨rdOs_nil _ _, RdB.nil_ _ _, rdRows_nil _ _, rdWr_nil _ _, RdB.nil_ _ _, rdOs_nil _ _, RdB.nil_ _ _⟩, (Chg.refl _ w6).trans hm2 fun k hk e => by omega⟩
    have nk8 : (x.kind == 8) = false := beq_eq_false_iff_ne.2 hk
    have HN8 := hide hk
    clear hk
    go_upto_if 53 with fail
    by_cases hk : x.kind = 9
    · as_aux_lemma =>
        have hff : f = pf (.result x.a x.b x.fr x.tt x.what) := by rw [HF.out]; simp [payS, hk]
        have HFF := hide hff
        have hkb : (x.kind == 9) = true := by rw [hk]; rfl
        clear hff hk
        have y58 : w6.cell? ⟨g5, 58, none⟩ = some (.int .u64 (x.a : Int)) := h56.cell 58
        have y59 : w6.cell? ⟨g5, 59, none⟩ = some (.int .u64 (x.b : Int)) := h56.cell 59
        have y60 : w6.cell? ⟨g5, 60, none⟩ = some (.int .u64 (x.fr : Int)) := h56.cell 60
        have y61 : w6.cell? ⟨g5, 61, none⟩ = some (.int .u64 (x.tt : Int)) := h56.cell 61
        have y62 : w6.cell? ⟨g5, 62, none⟩ = some (.int .i64 x.what) := h56.cell 62
        have hth := there_of (o := 58) (n := 5) h86 (by rw [zeroP_size]; decide)
        have hm := want9 (x := x) (u4 := .slice none 0 0) (u5 := .slice none 0 0) h86
        have HM := hide (And.intro hth hm)
        clear hth hm
        go_wp2_with (refine wpList_store_mid (P := Try.prog) rfl 59 (.tmp 57) (.tmp 56) rfl g8 58 #[.int .u64 (x.a : Int), .int .u64 (x.b : Int), .int .u64 (x.fr : Int), .int .u64 (x.tt : Int), .int .i64 x.what] rfl rfl HM.out.1 info_resl (by simp [Value.oneCell']) ?_)
        go_meet
        obtain ⟨hm1, hm2⟩ := HM.out.2
        rw [HFF.out]
        exact ⟨_, _, _, _, _, _, _, (show Blk w6 g6 28 (askA zAsk (.slice none 0 0) (.slice none 0 0)) from h66).chg hm2 (fun e => by omega), (show Blk w6 g7 34 (ansA zAns (.slice none 0 0) (.slice none 0 0) (.slice none 0 0)) from h76).chg hm2 (fun e => by omega), hm1, ⟨rdOs_nil _ _, RdB.nil_ _ _, rdRows_nil _ _, rdWr_nil _ _, RdB.nil_ _ _, rdOs_nil _ _, RdB.nil_ _ _⟩, (Chg.refl _ w6).trans hm2 fun k hk e => by omega⟩
    have nk9 : (x.kind == 9) = false := beq_eq_false_iff_ne.2 hk
    have HN9 := hide hk
    clear hk
    go_upto_if 58 with fail
    by_cases hk : x.kind = 11
    · as_aux_lemma =>
        have hff : f = pf (.welcome x.a x.b) := by rw [HF.out]; simp [payS, hk]
        have HFF := hide hff
        have hkb : (x.kind == 11) = true := by rw [hk]; rfl
        clear hff hk
        have y63 : w6.cell? ⟨g5, 63, none⟩ = some (.int .u64 (x.a : Int)) := h56.cell 63
        have y64 : w6.cell? ⟨g5, 64, none⟩ = some (.int .u64 (x.b : Int)) := h56.cell 64
        have hth := there_of (o := 63) (n := 2) h86 (by rw [zeroP_size]; decide)
        have hm := want11 (x := x) (u4 := .slice none 0 0) (u5 := .slice none 0 0) h86
        have HM := hide (And.intro hth hm)
        clear hth hm
        go_wp2_with (refine wpList_store_mid (P := Try.prog) rfl 61 (.tmp 62) (.tmp 61) rfl g8 63 #[.int .u64 (x.a : Int), .int .u64 (x.b : Int)] rfl rfl HM.out.1 info_hello (by simp [Value.oneCell']) ?_)
        go_meet
        obtain ⟨hm1, hm2⟩ := HM.out.2
        rw [HFF.out]
        exact ⟨_, _, _, _, _, _, _, (show Blk w6 g6 28 (askA zAsk (.slice none 0 0) (.slice none 0 0)) from h66).chg hm2 (fun e => by omega), (show Blk w6 g7 34 (ansA zAns (.slice none 0 0) (.slice none 0 0) (.slice none 0 0)) from h76).chg hm2 (fun e => by omega), hm1, ⟨rdOs_nil _ _, RdB.nil_ _ _, rdRows_nil _ _, rdWr_nil _ _, RdB.nil_ _ _, rdOs_nil _ _, RdB.nil_ _ _⟩, (Chg.refl _ w6).trans hm2 fun k hk e => by omega⟩
    have nk11 : (x.kind == 11) = false := beq_eq_false_iff_ne.2 hk
    have HN11 := hide hk
    clear hk
    · as_aux_lemma =>
        have hk : x.kind = 10 := by have := HK.out; have := HN1.out; have := HN2.out; have := HN3.out; have := HN4.out; have := HN5.out; have := HN6.out; have := HN7.out; have := HN8.out; have := HN9.out; have := HN11.out; omega
        have hff : f = pf (.greet) := by rw [HF.out]; simp [payS, hk]
        have HFF := hide hff
        clear hff hk
        go_wp2_with fail
        go_meet
        rw [HFF.out]
        exact ⟨_, _, _, _, _, _, _, (show Blk w6 g6 28 (askA zAsk (.slice none 0 0) (.slice none 0 0)) from h66), (show Blk w6 g7 34 (ansA zAns (.slice none 0 0) (.slice none 0 0) (.slice none 0 0)) from h76), want0 (x := x) h86, wantRd_nil rfl rfl rfl rfl, Chg.refl _ _⟩
  case rest =>
    as_aux_lemma =>
      obtain ⟨e1, e2, e3, e4, e5, e6, e7, h6c, h7c, h8c, hWc, hcc⟩ := hcut
      obtain ⟨E1, m1, l1, rfl⟩ := hWc.ops.sl_
      obtain ⟨E2, m2, l2, rfl⟩ := hWc.rep.sl_
      obtain ⟨E3, m3, l3, rfl⟩ := hWc.rows.sl
      obtain ⟨E4, m4, l4, rfl⟩ := hWc.ws.sl_
      obtain ⟨E5, m5, l5, rfl⟩ := hWc.nrep.sl_
      obtain ⟨E6, m6, l6, rfl⟩ := hWc.cops.sl_
      obtain ⟨E7, m7, l7, rfl⟩ := hWc.rdat.sl_
      have hSc := hS6.chg hcc (fun e => by have := HL.out; omega)
      have hQc := hQ6.chg hcc (fun e => by have := HL.out; omega)
      have hg6w : w.heap.size ≤ g6 := by have := HL.out; have := HO.out; have := hc0.size; omega
      have hcwc : Chg Non w wc := hcw6.trans hcc fun k hk e => by omega
      have hWp := HW.out.chg hcwc fun _ _ h => h
      clear h66 h76 h86 h56 hS6 hQ6 hc06 hcw6 hC6 hcc hc0
      go_upto_region 26 with fail
      obtain ⟨S, hSd⟩ : ∃ S : World → Prop, ∀ w', S w' ↔ (Blk w' q 63 (flat x.fr x.tt x.kind f (.slice A1 i1 k1) (.slice A2 i2 k2) (.slice A3 i3 k3) (.slice A4 i4 k4) (.slice A5 i5 k5) (.slice A6 i6 k6) (.slice A7 i7 k7)) ∧ Blk w' p 36 (senA x (.slice A an ac) (.slice B bn bc) (.slice R rn rc) (.slice V vn vc) (.slice P pn pc)) ∧ Blk w' g6 28 (askA f.ask (.slice E1 m1 l1) (.slice E2 m2 l2)) ∧ Blk w' g7 34 (ansA f.ans (.slice E3 m3 l3) (.slice E4 m4 l4) (.slice E5 m5 l5))) := ⟨_, fun _ => Iff.rfl⟩
      have HSd := hide hSd
      have HSB := hide (fun (w' : World) (hq : Blk w' q 63 (flat x.fr x.tt x.kind f (.slice A1 i1 k1) (.slice A2 i2 k2) (.slice A3 i3 k3) (.slice A4 i4 k4) (.slice A5 i5 k5) (.slice A6 i6 k6) (.slice A7 i7 k7))) (hp : Blk w' p 36 (senA x (.slice A an ac) (.slice B bn bc) (.slice R rn rc) (.slice V vn vc) (.slice P pn pc))) (h6 : Blk w' g6 28 (askA f.ask (.slice E1 m1 l1) (.slice E2 m2 l2))) (h7 : Blk w' g7 34 (ansA f.ans (.slice E3 m3 l3) (.slice E4 m4 l4) (.slice E5 m5 l5))) => (hSd w').2 ⟨hq, hp, h6, h7⟩)
      have HS := hide (HSB.out wc.drew hQc hSc h6c h7c)
      clear hSd
      refine wp_region_T S 99 (by kernel_rfl) ?_
      have hcd := hcwc.drew
      have hd := (Chg.refl Non wc).drew
      have hQd := hQc.c0 hd
      have hSd := hSc.c0 hd
      have h6d := h6c.c0 hd
      have h7d := h7c.c0 hd
      have h8d := h8c.c0 hd
      have hWd := hWc.chg hd fun _ _ h => h
      have hPd := hWp.chg hd fun _ _ h => h
      generalize World.drew wc = wd at hcd hQd hSd h6d h7d h8d hWd hPd HS ⊢
      clear hd hcwc hQc hSc h6c h7c h8c hWc hWp
      refine AnyT.take (i := 0) (v := ?_) rfl (by kernel_rfl) (by kernel_rfl) (fun _ _ _ h => h) (by kernel_rfl) (by kernel_rfl) (Or.inl ⟨by rfl, ?_⟩) HS.out ?_
      rotate_left
      · (intro w9 h9; go_simp; with_reducible rfl)
      try simp only [List.getElem_toArray, List.getElem_cons_succ, List.getElem_cons_zero, Act.put, List.setIfInBounds_toArray, List.set_cons_zero, List.set_cons_succ]
      refine AnyT.take (i := 1) (v := ?_) rfl (by kernel_rfl) (by kernel_rfl) (fun _ _ _ h => h) (by kernel_rfl) (by kernel_rfl) (Or.inl ⟨by rfl, ?_⟩) HS.out ?_
      rotate_left
      · (intro w9 h9; obtain ⟨hq, hp, h6, h7⟩ := (HSd.out _).1 h9; have yq0 : w9.cell? ⟨q, 0, none⟩ = some (.int .i64 x.kind) := hq.cell 0; clear hq hp h6 h7 h9; go_simp; try with_reducible rfl)
      try simp only [List.getElem_toArray, List.getElem_cons_succ, List.getElem_cons_zero, Act.put, List.setIfInBounds_toArray, List.set_cons_zero, List.set_cons_succ]
      refine AnyT.take (i := 2) (v := ?_) rfl (by kernel_rfl) (by kernel_rfl) (fun _ _ _ h => h) (by kernel_rfl) (by kernel_rfl) (Or.inl ⟨by rfl, ?_⟩) HS.out ?_
      rotate_left
      · (intro w9 h9; go_simp; with_reducible rfl)
      try simp only [List.getElem_toArray, List.getElem_cons_succ, List.getElem_cons_zero, Act.put, List.setIfInBounds_toArray, List.set_cons_zero, List.set_cons_succ]
      refine AnyT.take (i := 3) (v := ?_) rfl (by kernel_rfl) (by kernel_rfl) (fun _ _ _ h => h) (by kernel_rfl) (by kernel_rfl) (Or.inl ⟨by rfl, ?_⟩) HS.out ?_
      rotate_left
      · (intro w9 h9; obtain ⟨hq, hp, h6, h7⟩ := (HSd.out _).1 h9; have yp0 : w9.cell? ⟨p, 0, none⟩ = some (.int .i64 x.kind) := hp.cell 0; clear hq hp h6 h7 h9; go_simp; try with_reducible rfl)
      try simp only [List.getElem_toArray, List.getElem_cons_succ, List.getElem_cons_zero, Act.put, List.setIfInBounds_toArray, List.set_cons_zero, List.set_cons_succ]
      refine AnyT.take (i := 4) (v := ?_) rfl (by kernel_rfl) (by kernel_rfl) (fun _ _ _ h => h) (by kernel_rfl) (by kernel_rfl) (Or.inl ⟨by rfl, ?_⟩) HS.out ?_
      rotate_left
      · (intro w9 h9; go_simp; with_reducible rfl)
      try simp only [List.getElem_toArray, List.getElem_cons_succ, List.getElem_cons_zero, Act.put, List.setIfInBounds_toArray, List.set_cons_zero, List.set_cons_succ]
      refine AnyT.take (i := 5) (v := ?_) rfl (by kernel_rfl) (by kernel_rfl) (fun _ _ _ h => h) (by kernel_rfl) (by kernel_rfl) (Or.inl ⟨by rfl, ?_⟩) HS.out ?_
      rotate_left
      · (intro w9 h9; go_simp; with_reducible rfl)
      try simp only [List.getElem_toArray, List.getElem_cons_succ, List.getElem_cons_zero, Act.put, List.setIfInBounds_toArray, List.set_cons_zero, List.set_cons_succ]
      refine AnyT.take (i := 6) (v := ?_) rfl (by kernel_rfl) (by kernel_rfl) (fun _ _ _ h => h) (by kernel_rfl) (by kernel_rfl) (Or.inl ⟨by rfl, ?_⟩) HS.out ?_
      rotate_left
      · (intro w9 h9; go_simp; with_reducible rfl)
      try simp only [List.getElem_toArray, List.getElem_cons_succ, List.getElem_cons_zero, Act.put, List.setIfInBounds_toArray, List.set_cons_zero, List.set_cons_succ]
      refine AnyT.take (i := 7) (v := ?_) rfl (by kernel_rfl) (by kernel_rfl) (fun _ _ _ h => h) (by kernel_rfl) (by kernel_rfl) (Or.inl ⟨by rfl, ?_⟩) HS.out ?_
      rotate_left
      · (intro w9 h9; obtain ⟨hq, hp, h6, h7⟩ := (HSd.out _).1 h9; have yq1 : w9.cell? ⟨q, 1, none⟩ = some (.int .u64 (x.fr : Int)) := hq.cell 1; clear hq hp h6 h7 h9; go_simp; try with_reducible rfl)
      try simp only [List.getElem_toArray, List.getElem_cons_succ, List.getElem_cons_zero, Act.put, List.setIfInBounds_toArray, List.set_cons_zero, List.set_cons_succ]
      refine AnyT.take (i := 8) (v := ?_) rfl (by kernel_rfl) (by kernel_rfl) (fun _ _ _ h => h) (by kernel_rfl) (by kernel_rfl) (Or.inl ⟨by rfl, ?_⟩) HS.out ?_
      rotate_left
      · (intro w9 h9; go_simp; with_reducible rfl)
      try simp only [List.getElem_toArray, List.getElem_cons_succ, List.getElem_cons_zero, Act.put, List.setIfInBounds_toArray, List.set_cons_zero, List.set_cons_succ]
      refine AnyT.take (i := 9) (v := ?_) rfl (by kernel_rfl) (by kernel_rfl) (fun _ _ _ h => h) (by kernel_rfl) (by kernel_rfl) (Or.inl ⟨by rfl, ?_⟩) HS.out ?_
      rotate_left
      · (intro w9 h9; obtain ⟨hq, hp, h6, h7⟩ := (HSd.out _).1 h9; have yp1 : w9.cell? ⟨p, 1, none⟩ = some (.int .u64 (x.fr : Int)) := hp.cell 1; clear hq hp h6 h7 h9; go_simp; try with_reducible rfl)
      try simp only [List.getElem_toArray, List.getElem_cons_succ, List.getElem_cons_zero, Act.put, List.setIfInBounds_toArray, List.set_cons_zero, List.set_cons_succ]
      refine AnyT.take (i := 10) (v := ?_) rfl (by kernel_rfl) (by kernel_rfl) (fun _ _ _ h => h) (by kernel_rfl) (by kernel_rfl) (Or.inl ⟨by rfl, ?_⟩) HS.out ?_
      rotate_left
      · (intro w9 h9; go_simp; with_reducible rfl)
      try simp only [List.getElem_toArray, List.getElem_cons_succ, List.getElem_cons_zero, Act.put, List.setIfInBounds_toArray, List.set_cons_zero, List.set_cons_succ]
      refine AnyT.take (i := 11) (v := ?_) rfl (by kernel_rfl) (by kernel_rfl) (fun _ _ _ h => h) (by kernel_rfl) (by kernel_rfl) (Or.inl ⟨by rfl, ?_⟩) HS.out ?_
      rotate_left
      · (intro w9 h9; go_simp; with_reducible rfl)
      try simp only [List.getElem_toArray, List.getElem_cons_succ, List.getElem_cons_zero, Act.put, List.setIfInBounds_toArray, List.set_cons_zero, List.set_cons_succ]
      refine AnyT.take (i := 12) (v := ?_) rfl (by kernel_rfl) (by kernel_rfl) (fun _ _ _ h => h) (by kernel_rfl) (by kernel_rfl) (Or.inl ⟨by rfl, ?_⟩) HS.out ?_
      rotate_left
      · (intro w9 h9; go_simp; with_reducible rfl)
      try simp only [List.getElem_toArray, List.getElem_cons_succ, List.getElem_cons_zero, Act.put, List.setIfInBounds_toArray, List.set_cons_zero, List.set_cons_succ]
      refine AnyT.take (i := 13) (v := ?_) rfl (by kernel_rfl) (by kernel_rfl) (fun _ _ _ h => h) (by kernel_rfl) (by kernel_rfl) (Or.inl ⟨by rfl, ?_⟩) HS.out ?_
      rotate_left
      · (intro w9 h9; go_simp; with_reducible rfl)
      try simp only [List.getElem_toArray, List.getElem_cons_succ, List.getElem_cons_zero, Act.put, List.setIfInBounds_toArray, List.set_cons_zero, List.set_cons_succ]
      refine AnyT.take (i := 14) (v := ?_) rfl (by kernel_rfl) (by kernel_rfl) (fun _ _ _ h => h) (by kernel_rfl) (by kernel_rfl) (Or.inl ⟨by rfl, ?_⟩) HS.out ?_
      rotate_left
      · (intro w9 h9; obtain ⟨hq, hp, h6, h7⟩ := (HSd.out _).1 h9; have yq2 : w9.cell? ⟨q, 2, none⟩ = some (.int .u64 (x.tt : Int)) := hq.cell 2; clear hq hp h6 h7 h9; go_simp; try with_reducible rfl)
      try simp only [List.getElem_toArray, List.getElem_cons_succ, List.getElem_cons_zero, Act.put, List.setIfInBounds_toArray, List.set_cons_zero, List.set_cons_succ]
      refine AnyT.take (i := 15) (v := ?_) rfl (by kernel_rfl) (by kernel_rfl) (fun _ _ _ h => h) (by kernel_rfl) (by kernel_rfl) (Or.inl ⟨by rfl, ?_⟩) HS.out ?_
      rotate_left
      · (intro w9 h9; go_simp; with_reducible rfl)
      try simp only [List.getElem_toArray, List.getElem_cons_succ, List.getElem_cons_zero, Act.put, List.setIfInBounds_toArray, List.set_cons_zero, List.set_cons_succ]
      refine AnyT.take (i := 16) (v := ?_) rfl (by kernel_rfl) (by kernel_rfl) (fun _ _ _ h => h) (by kernel_rfl) (by kernel_rfl) (Or.inl ⟨by rfl, ?_⟩) HS.out ?_
      rotate_left
      · (intro w9 h9; obtain ⟨hq, hp, h6, h7⟩ := (HSd.out _).1 h9; have yp2 : w9.cell? ⟨p, 2, none⟩ = some (.int .u64 (x.tt : Int)) := hp.cell 2; clear hq hp h6 h7 h9; go_simp; try with_reducible rfl)
      try simp only [List.getElem_toArray, List.getElem_cons_succ, List.getElem_cons_zero, Act.put, List.setIfInBounds_toArray, List.set_cons_zero, List.set_cons_succ]
      refine AnyT.take (i := 17) (v := ?_) rfl (by kernel_rfl) (by kernel_rfl) (fun _ _ _ h => h) (by kernel_rfl) (by kernel_rfl) (Or.inl ⟨by rfl, ?_⟩) HS.out ?_
      rotate_left
      · (intro w9 h9; go_simp; with_reducible rfl)
      try simp only [List.getElem_toArray, List.getElem_cons_succ, List.getElem_cons_zero, Act.put, List.setIfInBounds_toArray, List.set_cons_zero, List.set_cons_succ]
      refine AnyT.take (i := 18) (v := ?_) rfl (by kernel_rfl) (by kernel_rfl) (fun _ _ _ h => h) (by kernel_rfl) (by kernel_rfl) (Or.inl ⟨by rfl, ?_⟩) HS.out ?_
      rotate_left
      · (intro w9 h9; go_simp; with_reducible rfl)
      try simp only [List.getElem_toArray, List.getElem_cons_succ, List.getElem_cons_zero, Act.put, List.setIfInBounds_toArray, List.set_cons_zero, List.set_cons_succ]
      refine AnyT.take (i := 19) (v := ?_) rfl (by kernel_rfl) (by kernel_rfl) (fun _ _ _ h => h) (by kernel_rfl) (by kernel_rfl) (Or.inl ⟨by rfl, ?_⟩) HS.out ?_
      rotate_left
      · (intro w9 h9; go_simp; with_reducible rfl)
      try simp only [List.getElem_toArray, List.getElem_cons_succ, List.getElem_cons_zero, Act.put, List.setIfInBounds_toArray, List.set_cons_zero, List.set_cons_succ]
      refine AnyT.take (i := 20) (v := ?_) rfl (by kernel_rfl) (by kernel_rfl) (fun _ _ _ h => h) (by kernel_rfl) (by kernel_rfl) (Or.inl ⟨by rfl, ?_⟩) HS.out ?_
      rotate_left
      · (intro w9 h9; go_simp; with_reducible rfl)
      try simp only [List.getElem_toArray, List.getElem_cons_succ, List.getElem_cons_zero, Act.put, List.setIfInBounds_toArray, List.set_cons_zero, List.set_cons_succ]
      refine AnyT.take (i := 21) (v := ?_) rfl (by kernel_rfl) (by kernel_rfl) (fun _ _ _ h => h) (by kernel_rfl) (by kernel_rfl) (Or.inl ⟨by rfl, ?_⟩) HS.out ?_
      rotate_left
      · (intro w9 h9; obtain ⟨hq, hp, h6, h7⟩ := (HSd.out _).1 h9; have yq3 : w9.cell? ⟨q, 3, none⟩ = some (.int .i64 f.ask.kind) := hq.cell 3; have yq4 : w9.cell? ⟨q, 4, none⟩ = some (.int .u64 (f.ask.inc : Int)) := hq.cell 4; have yq5 : w9.cell? ⟨q, 5, none⟩ = some (.int .u64 (f.ask.head : Int)) := hq.cell 5; have yq6 : w9.cell? ⟨q, 6, none⟩ = some (.int .u64 (f.ask.boot : Int)) := hq.cell 6; have yq7 : w9.cell? ⟨q, 7, none⟩ = some (.int .u64 (f.ask.tb : Int)) := hq.cell 7; have yq8 : w9.cell? ⟨q, 8, none⟩ = some (.int .u64 (f.ask.ts : Int)) := hq.cell 8; have yq9 : w9.cell? ⟨q, 9, none⟩ = some (.int .u64 (f.ask.tq : Int)) := hq.cell 9; have yq10 : w9.cell? ⟨q, 10, none⟩ = some (.slice A1 i1 k1) := hq.cell 10; have yq11 : w9.cell? ⟨q, 11, none⟩ = some (.bool f.ask.commit) := hq.cell 11; have yq12 : w9.cell? ⟨q, 12, none⟩ = some (.slice A2 i2 k2) := hq.cell 12; have yq13 : w9.cell? ⟨q, 13, none⟩ = some (.int .u64 (f.ask.id : Int)) := hq.cell 13; have yq14 : w9.cell? ⟨q, 14, none⟩ = some (.string f.ask.name) := hq.cell 14; clear hq hp h6 h7 h9; go_simp; try with_reducible rfl)
      try simp only [List.getElem_toArray, List.getElem_cons_succ, List.getElem_cons_zero, Act.put, List.setIfInBounds_toArray, List.set_cons_zero, List.set_cons_succ]
      refine AnyT.take (i := 23) (v := ?_) rfl (by kernel_rfl) (by kernel_rfl) (fun _ _ _ h => h) (by kernel_rfl) (by kernel_rfl) (Or.inl ⟨by rfl, ?_⟩) HS.out ?_
      rotate_left
      · (intro w9 h9; obtain ⟨hq, hp, h6, h7⟩ := (HSd.out _).1 h9; have yg60 : w9.cell? ⟨g6, 0, none⟩ = some (.int .i64 f.ask.kind) := h6.cell 0; have yg61 : w9.cell? ⟨g6, 1, none⟩ = some (.int .u64 (f.ask.inc : Int)) := h6.cell 1; have yg62 : w9.cell? ⟨g6, 2, none⟩ = some (.int .u64 (f.ask.head : Int)) := h6.cell 2; have yg63 : w9.cell? ⟨g6, 3, none⟩ = some (.int .u64 (f.ask.boot : Int)) := h6.cell 3; have yg64 : w9.cell? ⟨g6, 4, none⟩ = some (.int .u64 (f.ask.tb : Int)) := h6.cell 4; have yg65 : w9.cell? ⟨g6, 5, none⟩ = some (.int .u64 (f.ask.ts : Int)) := h6.cell 5; have yg66 : w9.cell? ⟨g6, 6, none⟩ = some (.int .u64 (f.ask.tq : Int)) := h6.cell 6; have yg67 : w9.cell? ⟨g6, 7, none⟩ = some (.slice E1 m1 l1) := h6.cell 7; have yg68 : w9.cell? ⟨g6, 8, none⟩ = some (.bool f.ask.commit) := h6.cell 8; have yg69 : w9.cell? ⟨g6, 9, none⟩ = some (.slice E2 m2 l2) := h6.cell 9; have yg610 : w9.cell? ⟨g6, 10, none⟩ = some (.int .u64 (f.ask.id : Int)) := h6.cell 10; have yg611 : w9.cell? ⟨g6, 11, none⟩ = some (.string f.ask.name) := h6.cell 11; clear hq hp h6 h7 h9; go_simp; try with_reducible rfl)
      try simp only [List.getElem_toArray, List.getElem_cons_succ, List.getElem_cons_zero, Act.put, List.setIfInBounds_toArray, List.set_cons_zero, List.set_cons_succ]
      refine AnyT.one (i := 22) (by kernel_rfl) rfl (fun K hK => ?_)
      rw [if_pos (by rfl)]
      try simp only [List.getElem_toArray, List.getElem_cons_succ, List.getElem_cons_zero, Act.put, List.setIfInBounds_toArray, List.set_cons_zero, List.set_cons_succ]
      go_wp2_with (go_at_call 34; refine (told (x := f.ask)).mono ?_; rintro e wt ⟨rfl, hdt⟩)
      have hQt := hQd.c0 hdt
      have hSt := hSd.c0 hdt
      have h6t := h6d.c0 hdt
      have h7t := h7d.c0 hdt
      have h8t := h8d.c0 hdt
      have hWt := hWd.chg hdt fun _ _ h => h
      have hPt := hPd.chg hdt fun _ _ h => h
      have hct := hcd.trans0 hdt
      clear hQd hSd h6d h7d h8d hWd hPd hcd hdt
      refine hK.out _ _ (fun _ => HSB.out wt hQt hSt h6t h7t) ?_
      clear hK K
      try simp only [List.getElem_toArray, List.getElem_cons_succ, List.getElem_cons_zero, Act.put, List.setIfInBounds_toArray, List.set_cons_zero, List.set_cons_succ]
      replace HS := hide (HSB.out wt hQt hSt h6t h7t)
      refine AnyT.one (i := 24) (by kernel_rfl) rfl (fun K hK => ?_)
      rw [if_pos (by rfl)]
      try simp only [List.getElem_toArray, List.getElem_cons_succ, List.getElem_cons_zero, Act.put, List.setIfInBounds_toArray, List.set_cons_zero, List.set_cons_succ]
      go_wp2_with (go_at_call 33; refine (sameAsk (x := f.ask) hPt.ops hPt.rep hWt.ops hWt.rep).mono ?_; rintro e wa ⟨rfl, hda⟩)
      have hQa := hQt.c0 hda
      have hSa := hSt.c0 hda
      have h6a := h6t.c0 hda
      have h7a := h7t.c0 hda
      have h8a := h8t.c0 hda
      have hWa := hWt.chg hda fun _ _ h => h
      have hPa := hPt.chg hda fun _ _ h => h
      have hca := hct.trans0 hda
      clear hQt hSt h6t h7t h8t hWt hPt hct hda
      refine hK.out _ _ (fun _ => HSB.out wa hQa hSa h6a h7a) ?_
      clear hK K
      try simp only [List.getElem_toArray, List.getElem_cons_succ, List.getElem_cons_zero, Act.put, List.setIfInBounds_toArray, List.set_cons_zero, List.set_cons_succ]
      replace HS := hide (HSB.out wa hQa hSa h6a h7a)
      refine AnyT.take (i := 25) (v := ?_) rfl (by kernel_rfl) (by kernel_rfl) (fun _ _ _ h => h) (by kernel_rfl) (by kernel_rfl) (Or.inl ⟨by rfl, ?_⟩) HS.out ?_
      rotate_left
      · (intro w9 h9; go_simp; with_reducible rfl)
      try simp only [List.getElem_toArray, List.getElem_cons_succ, List.getElem_cons_zero, Act.put, List.setIfInBounds_toArray, List.set_cons_zero, List.set_cons_succ]
      refine AnyT.take (i := 26) (v := ?_) rfl (by kernel_rfl) (by kernel_rfl) (fun _ _ _ h => h) (by kernel_rfl) (by kernel_rfl) (Or.inl ⟨by rfl, ?_⟩) HS.out ?_
      rotate_left
      · (intro w9 h9; go_simp; with_reducible rfl)
      try simp only [List.getElem_toArray, List.getElem_cons_succ, List.getElem_cons_zero, Act.put, List.setIfInBounds_toArray, List.set_cons_zero, List.set_cons_succ]
      refine AnyT.take (i := 27) (v := ?_) rfl (by kernel_rfl) (by kernel_rfl) (fun _ _ _ h => h) (by kernel_rfl) (by kernel_rfl) (Or.inl ⟨by rfl, ?_⟩) HS.out ?_
      rotate_left
      · (intro w9 h9; go_simp; with_reducible rfl)
      try simp only [List.getElem_toArray, List.getElem_cons_succ, List.getElem_cons_zero, Act.put, List.setIfInBounds_toArray, List.set_cons_zero, List.set_cons_succ]
      refine AnyT.take (i := 28) (v := ?_) rfl (by kernel_rfl) (by kernel_rfl) (fun _ _ _ h => h) (by kernel_rfl) (by kernel_rfl) (Or.inl ⟨by rfl, ?_⟩) HS.out ?_
      rotate_left
      · (intro w9 h9; go_simp; with_reducible rfl)
      try simp only [List.getElem_toArray, List.getElem_cons_succ, List.getElem_cons_zero, Act.put, List.setIfInBounds_toArray, List.set_cons_zero, List.set_cons_succ]
      refine AnyT.take (i := 29) (v := ?_) rfl (by kernel_rfl) (by kernel_rfl) (fun _ _ _ h => h) (by kernel_rfl) (by kernel_rfl) (Or.inl ⟨by rfl, ?_⟩) HS.out ?_
      rotate_left
      · (intro w9 h9; obtain ⟨hq, hp, h6, h7⟩ := (HSd.out _).1 h9; have yq15 : w9.cell? ⟨q, 15, none⟩ = some (.int .i64 f.ans.kind) := hq.cell 15; have yq16 : w9.cell? ⟨q, 16, none⟩ = some (.int .u64 (f.ans.inc : Int)) := hq.cell 16; have yq17 : w9.cell? ⟨q, 17, none⟩ = some (.int .u64 (f.ans.boot : Int)) := hq.cell 17; have yq18 : w9.cell? ⟨q, 18, none⟩ = some (.int .u64 (f.ans.tb : Int)) := hq.cell 18; have yq19 : w9.cell? ⟨q, 19, none⟩ = some (.int .u64 (f.ans.ts : Int)) := hq.cell 19; have yq20 : w9.cell? ⟨q, 20, none⟩ = some (.int .u64 (f.ans.tq : Int)) := hq.cell 20; have yq21 : w9.cell? ⟨q, 21, none⟩ = some (.int .u64 (f.ans.id : Int)) := hq.cell 21; have yq22 : w9.cell? ⟨q, 22, none⟩ = some (.int .i64 f.ans.err) := hq.cell 22; have yq23 : w9.cell? ⟨q, 23, none⟩ = some (.int .i64 f.ans.out.err) := hq.cell 23; have yq24 : w9.cell? ⟨q, 24, none⟩ = some (.int .i64 f.ans.out.at_) := hq.cell 24; have yq25 : w9.cell? ⟨q, 25, none⟩ = some (.slice A3 i3 k3) := hq.cell 25; have yq26 : w9.cell? ⟨q, 26, none⟩ = some (.slice A4 i4 k4) := hq.cell 26; have yq27 : w9.cell? ⟨q, 27, none⟩ = some (.bool f.ans.commit) := hq.cell 27; have yq28 : w9.cell? ⟨q, 28, none⟩ = some (.slice A5 i5 k5) := hq.cell 28; have yq29 : w9.cell? ⟨q, 29, none⟩ = some (.int .u64 (f.ans.at_ : Int)) := hq.cell 29; clear hq hp h6 h7 h9; go_simp; try with_reducible rfl)
      try simp only [List.getElem_toArray, List.getElem_cons_succ, List.getElem_cons_zero, Act.put, List.setIfInBounds_toArray, List.set_cons_zero, List.set_cons_succ]
      refine AnyT.take (i := 30) (v := ?_) rfl (by kernel_rfl) (by kernel_rfl) (fun _ _ _ h => h) (by kernel_rfl) (by kernel_rfl) (Or.inl ⟨by rfl, ?_⟩) HS.out ?_
      rotate_left
      · (intro w9 h9; obtain ⟨hq, hp, h6, h7⟩ := (HSd.out _).1 h9; have yg70 : w9.cell? ⟨g7, 0, none⟩ = some (.int .i64 f.ans.kind) := h7.cell 0; have yg71 : w9.cell? ⟨g7, 1, none⟩ = some (.int .u64 (f.ans.inc : Int)) := h7.cell 1; have yg72 : w9.cell? ⟨g7, 2, none⟩ = some (.int .u64 (f.ans.boot : Int)) := h7.cell 2; have yg73 : w9.cell? ⟨g7, 3, none⟩ = some (.int .u64 (f.ans.tb : Int)) := h7.cell 3; have yg74 : w9.cell? ⟨g7, 4, none⟩ = some (.int .u64 (f.ans.ts : Int)) := h7.cell 4; have yg75 : w9.cell? ⟨g7, 5, none⟩ = some (.int .u64 (f.ans.tq : Int)) := h7.cell 5; have yg76 : w9.cell? ⟨g7, 6, none⟩ = some (.int .u64 (f.ans.id : Int)) := h7.cell 6; have yg77 : w9.cell? ⟨g7, 7, none⟩ = some (.int .i64 f.ans.err) := h7.cell 7; have yg78 : w9.cell? ⟨g7, 8, none⟩ = some (.int .i64 f.ans.out.err) := h7.cell 8; have yg79 : w9.cell? ⟨g7, 9, none⟩ = some (.int .i64 f.ans.out.at_) := h7.cell 9; have yg710 : w9.cell? ⟨g7, 10, none⟩ = some (.slice E3 m3 l3) := h7.cell 10; have yg711 : w9.cell? ⟨g7, 11, none⟩ = some (.slice E4 m4 l4) := h7.cell 11; have yg712 : w9.cell? ⟨g7, 12, none⟩ = some (.bool f.ans.commit) := h7.cell 12; have yg713 : w9.cell? ⟨g7, 13, none⟩ = some (.slice E5 m5 l5) := h7.cell 13; have yg714 : w9.cell? ⟨g7, 14, none⟩ = some (.int .u64 (f.ans.at_ : Int)) := h7.cell 14; clear hq hp h6 h7 h9; go_simp; try with_reducible rfl)
      try simp only [List.getElem_toArray, List.getElem_cons_succ, List.getElem_cons_zero, Act.put, List.setIfInBounds_toArray, List.set_cons_zero, List.set_cons_succ]
      refine AnyT.one (i := 31) (by kernel_rfl) rfl (fun K hK => ?_)
      rw [if_pos (by rfl)]
      try simp only [List.getElem_toArray, List.getElem_cons_succ, List.getElem_cons_zero, Act.put, List.setIfInBounds_toArray, List.set_cons_zero, List.set_cons_succ]
      go_wp2_with (go_at_call 35; refine (answerIs (x := f.ans) hPa.rows hPa.ws hPa.nrep hWa.rows hWa.ws hWa.nrep).mono ?_; rintro e wb ⟨rfl, hdb⟩)
      have hQb := hQa.c0 hdb
      have hSb := hSa.c0 hdb
      have h6b := h6a.c0 hdb
      have h7b := h7a.c0 hdb
      have h8b := h8a.c0 hdb
      have hWb := hWa.chg hdb fun _ _ h => h
      have hPb := hPa.chg hdb fun _ _ h => h
      have hcb := hca.trans0 hdb
      clear hQa hSa h6a h7a h8a hWa hPa hca hdb
      refine hK.out _ _ (fun _ => HSB.out wb hQb hSb h6b h7b) ?_
      clear hK K
      try simp only [List.getElem_toArray, List.getElem_cons_succ, List.getElem_cons_zero, Act.put, List.setIfInBounds_toArray, List.set_cons_zero, List.set_cons_succ]
      replace HS := hide (HSB.out wb hQb hSb h6b h7b)
      refine AnyT.take (i := 32) (v := ?_) rfl (by kernel_rfl) (by kernel_rfl) (fun _ _ _ h => h) (by kernel_rfl) (by kernel_rfl) (Or.inl ⟨by rfl, ?_⟩) HS.out ?_
      rotate_left
      · (intro w9 h9; go_simp; with_reducible rfl)
      try simp only [List.getElem_toArray, List.getElem_cons_succ, List.getElem_cons_zero, Act.put, List.setIfInBounds_toArray, List.set_cons_zero, List.set_cons_succ]
      refine AnyT.take (i := 33) (v := ?_) rfl (by kernel_rfl) (by kernel_rfl) (fun _ _ _ h => h) (by kernel_rfl) (by kernel_rfl) (Or.inl ⟨by rfl, ?_⟩) HS.out ?_
      rotate_left
      · (intro w9 h9; go_simp; with_reducible rfl)
      try simp only [List.getElem_toArray, List.getElem_cons_succ, List.getElem_cons_zero, Act.put, List.setIfInBounds_toArray, List.set_cons_zero, List.set_cons_succ]
      refine AnyT.nil (by kernel_rfl) ?_
      clear HS HSB HSd hSb h6b h7b
      have y30 : wb.cell? ⟨q, 30, none⟩ = some (.int .u64 (f.d1 : Int)) := hQb.cell 30
      have y31 : wb.cell? ⟨q, 31, none⟩ = some (.int .u64 (f.d2 : Int)) := hQb.cell 31
      have y32 : wb.cell? ⟨q, 32, none⟩ = some (.int .u64 (f.d3 : Int)) := hQb.cell 32
      have y33 : wb.cell? ⟨q, 33, none⟩ = some (.int .u64 (f.d4 : Int)) := hQb.cell 33
      have y34 : wb.cell? ⟨q, 34, none⟩ = some (.int .u64 (f.d5 : Int)) := hQb.cell 34
      have y35 : wb.cell? ⟨q, 35, none⟩ = some (.int .u64 (f.m1 : Int)) := hQb.cell 35
      have y36 : wb.cell? ⟨q, 36, none⟩ = some (.int .u64 (f.m2 : Int)) := hQb.cell 36
      have y37 : wb.cell? ⟨q, 37, none⟩ = some (.string f.mn) := hQb.cell 37
      have y50 : wb.cell? ⟨q, 50, none⟩ = some (.int .u64 (f.o1 : Int)) := hQb.cell 50
      have y51 : wb.cell? ⟨q, 51, none⟩ = some (.int .u64 (f.o2 : Int)) := hQb.cell 51
      have y52 : wb.cell? ⟨q, 52, none⟩ = some (.string f.on) := hQb.cell 52
      have y53 : wb.cell? ⟨q, 53, none⟩ = some (.int .u64 (f.o3 : Int)) := hQb.cell 53
      have y54 : wb.cell? ⟨q, 54, none⟩ = some (.int .u64 (f.o4 : Int)) := hQb.cell 54
      have y55 : wb.cell? ⟨q, 55, none⟩ = some (.int .i64 f.ow) := hQb.cell 55
      have y56 : wb.cell? ⟨q, 56, none⟩ = some (.int .u64 (f.o5 : Int)) := hQb.cell 56
      have y57 : wb.cell? ⟨q, 57, none⟩ = some (.int .u64 (f.o6 : Int)) := hQb.cell 57
      have y58 : wb.cell? ⟨q, 58, none⟩ = some (.int .u64 (f.s1 : Int)) := hQb.cell 58
      have y59 : wb.cell? ⟨q, 59, none⟩ = some (.int .u64 (f.s2 : Int)) := hQb.cell 59
      have y60 : wb.cell? ⟨q, 60, none⟩ = some (.int .u64 (f.s3 : Int)) := hQb.cell 60
      have y61 : wb.cell? ⟨q, 61, none⟩ = some (.int .u64 (f.s4 : Int)) := hQb.cell 61
      have y62 : wb.cell? ⟨q, 62, none⟩ = some (.int .i64 f.se) := hQb.cell 62
      have y63 : wb.cell? ⟨q, 63, none⟩ = some (.int .u64 (f.h1 : Int)) := hQb.cell 63
      have y64 : wb.cell? ⟨q, 64, none⟩ = some (.int .u64 (f.h2 : Int)) := hQb.cell 64
      have z30 : wb.cell? ⟨g8, 30, none⟩ = some (.int .u64 (f.d1 : Int)) := h8b.cell 30
      have z31 : wb.cell? ⟨g8, 31, none⟩ = some (.int .u64 (f.d2 : Int)) := h8b.cell 31
      have z32 : wb.cell? ⟨g8, 32, none⟩ = some (.int .u64 (f.d3 : Int)) := h8b.cell 32
      have z33 : wb.cell? ⟨g8, 33, none⟩ = some (.int .u64 (f.d4 : Int)) := h8b.cell 33
      have z34 : wb.cell? ⟨g8, 34, none⟩ = some (.int .u64 (f.d5 : Int)) := h8b.cell 34
      have z35 : wb.cell? ⟨g8, 35, none⟩ = some (.int .u64 (f.m1 : Int)) := h8b.cell 35
      have z36 : wb.cell? ⟨g8, 36, none⟩ = some (.int .u64 (f.m2 : Int)) := h8b.cell 36
      have z37 : wb.cell? ⟨g8, 37, none⟩ = some (.string f.mn) := h8b.cell 37
      have z50 : wb.cell? ⟨g8, 50, none⟩ = some (.int .u64 (f.o1 : Int)) := h8b.cell 50
      have z51 : wb.cell? ⟨g8, 51, none⟩ = some (.int .u64 (f.o2 : Int)) := h8b.cell 51
      have z52 : wb.cell? ⟨g8, 52, none⟩ = some (.string f.on) := h8b.cell 52
      have z53 : wb.cell? ⟨g8, 53, none⟩ = some (.int .u64 (f.o3 : Int)) := h8b.cell 53
      have z54 : wb.cell? ⟨g8, 54, none⟩ = some (.int .u64 (f.o4 : Int)) := h8b.cell 54
      have z55 : wb.cell? ⟨g8, 55, none⟩ = some (.int .i64 f.ow) := h8b.cell 55
      have z56 : wb.cell? ⟨g8, 56, none⟩ = some (.int .u64 (f.o5 : Int)) := h8b.cell 56
      have z57 : wb.cell? ⟨g8, 57, none⟩ = some (.int .u64 (f.o6 : Int)) := h8b.cell 57
      have z58 : wb.cell? ⟨g8, 58, none⟩ = some (.int .u64 (f.s1 : Int)) := h8b.cell 58
      have z59 : wb.cell? ⟨g8, 59, none⟩ = some (.int .u64 (f.s2 : Int)) := h8b.cell 59
      have z60 : wb.cell? ⟨g8, 60, none⟩ = some (.int .u64 (f.s3 : Int)) := h8b.cell 60
      have z61 : wb.cell? ⟨g8, 61, none⟩ = some (.int .u64 (f.s4 : Int)) := h8b.cell 61
      have z62 : wb.cell? ⟨g8, 62, none⟩ = some (.int .i64 f.se) := h8b.cell 62
      have z63 : wb.cell? ⟨g8, 63, none⟩ = some (.int .u64 (f.h1 : Int)) := h8b.cell 63
      have z64 : wb.cell? ⟨g8, 64, none⟩ = some (.int .u64 (f.h2 : Int)) := h8b.cell 64
      go_upto_region 30 with fail
      clear y30 z30 y31 z31 y32 z32 y33 z33 y34 z34 y35 z35 y36 z36 y37 z37 y50 z50 y51 z51 y52 z52 y53 z53 y54 z54 y55 z55 y56 z56 y57 z57 y58 z58 y59 z59 y60 z60 y61 z61 y62 z62 y63 z63 y64 z64
      have y38 : wb.cell? ⟨q, 38, none⟩ = some (.int .u64 (f.c1 : Int)) := hQb.cell 38
      have y39 : wb.cell? ⟨q, 39, none⟩ = some (.int .u64 (f.c2 : Int)) := hQb.cell 39
      have y40 : wb.cell? ⟨q, 40, none⟩ = some (.int .u64 (f.c3 : Int)) := hQb.cell 40
      have y41 : wb.cell? ⟨q, 41, none⟩ = some (.int .u64 (f.c4 : Int)) := hQb.cell 41
      have y42 : wb.cell? ⟨q, 42, none⟩ = some (.slice A6 i6 k6) := hQb.cell 42
      have z38 : wb.cell? ⟨g8, 38, none⟩ = some (.int .u64 (f.c1 : Int)) := h8b.cell 38
      have z39 : wb.cell? ⟨g8, 39, none⟩ = some (.int .u64 (f.c2 : Int)) := h8b.cell 39
      have z40 : wb.cell? ⟨g8, 40, none⟩ = some (.int .u64 (f.c3 : Int)) := h8b.cell 40
      have z41 : wb.cell? ⟨g8, 41, none⟩ = some (.int .u64 (f.c4 : Int)) := h8b.cell 41
      have z42 : wb.cell? ⟨g8, 42, none⟩ = some (.slice E6 m6 l6) := h8b.cell 42
      go_upto_region 32 with (go_at_call 36; refine (sameOps hPb.cops hWb.cops).mono ?_; rintro e wv ⟨rfl, hdv⟩)
      clear y38 z38 y39 z39 y40 z40 y41 z41 y42 z42
      have hQv := hQb.c0 hdv
      have h8v := h8b.c0 hdv
      have hWv := hWb.chg hdv fun _ _ h => h
      have hPv := hPb.chg hdv fun _ _ h => h
      have hcv := hcb.trans0 hdv
      have y43 : wv.cell? ⟨q, 43, none⟩ = some (.int .u64 (f.r1 : Int)) := hQv.cell 43
      have y44 : wv.cell? ⟨q, 44, none⟩ = some (.int .u64 (f.r2 : Int)) := hQv.cell 44
      have y45 : wv.cell? ⟨q, 45, none⟩ = some (.int .u64 (f.r3 : Int)) := hQv.cell 45
      have y46 : wv.cell? ⟨q, 46, none⟩ = some (.int .u64 (f.r4 : Int)) := hQv.cell 46
      have y47 : wv.cell? ⟨q, 47, none⟩ = some (.int .u64 (f.r5 : Int)) := hQv.cell 47
      have y48 : wv.cell? ⟨q, 48, none⟩ = some (.int .i64 f.rc) := hQv.cell 48
      have y49 : wv.cell? ⟨q, 49, none⟩ = some (.slice A7 i7 k7) := hQv.cell 49
      have z43 : wv.cell? ⟨g8, 43, none⟩ = some (.int .u64 (f.r1 : Int)) := h8v.cell 43
      have z44 : wv.cell? ⟨g8, 44, none⟩ = some (.int .u64 (f.r2 : Int)) := h8v.cell 44
      have z45 : wv.cell? ⟨g8, 45, none⟩ = some (.int .u64 (f.r3 : Int)) := h8v.cell 45
      have z46 : wv.cell? ⟨g8, 46, none⟩ = some (.int .u64 (f.r4 : Int)) := h8v.cell 46
      have z47 : wv.cell? ⟨g8, 47, none⟩ = some (.int .u64 (f.r5 : Int)) := h8v.cell 47
      have z48 : wv.cell? ⟨g8, 48, none⟩ = some (.int .i64 f.rc) := h8v.cell 48
      have z49 : wv.cell? ⟨g8, 49, none⟩ = some (.slice E7 m7 l7) := h8v.cell 49
      go_wp2_with (go_at_call 13; refine (refEqual_true hPv.rdat hWv.rdat).mono ?_; rintro e wz ⟨rfl, hqz⟩)
      go_ret
      exact ⟨rfl, hcv.quiet hqz⟩
end Go.Proofs.Ytncchbcoldgpbaa
