/- a packet as it is read, field by field. -/
import Derived.Test.YtncchbcoldgpbaaSentX
import Derived.Test.YtncchbcoldgpbaaSameA
import Derived.Test.YtncchbcoldgpbaaRvF
namespace Go.Proofs.Ytncchbcoldgpbaa
open Go.RowKit
set_option linter.unusedVariables false
set_option linter.unusedSimpArgs false
structure PF where
  ask : AskS
  ans : AnsS
  d1 : Nat
  d2 : Nat
  d3 : Nat
  d4 : Nat
  d5 : Nat
  m1 : Nat
  m2 : Nat
  c1 : Nat
  c2 : Nat
  c3 : Nat
  c4 : Nat
  r1 : Nat
  r2 : Nat
  r3 : Nat
  r4 : Nat
  r5 : Nat
  o1 : Nat
  o2 : Nat
  o3 : Nat
  o4 : Nat
  o5 : Nat
  o6 : Nat
  s1 : Nat
  s2 : Nat
  s3 : Nat
  s4 : Nat
  h1 : Nat
  h2 : Nat
  mn : ByteArray
  on : ByteArray
  rc : Int
  ow : Int
  se : Int
  cops : List OpS
  rdat : List UInt8
def zAsk : AskS := ⟨0, 0, 0, 0, 0, 0, 0, [], false, [], 0, ⟨#[]⟩⟩
def zAns : AnsS := ⟨0, 0, 0, 0, 0, 0, 0, 0, ⟨0, 0, [], []⟩, false, [], 0⟩
def zF : PF := ⟨zAsk, zAns, 0, 0, 0, 0, 0, 0, 0, 0, 0, 0, 0, 0, 0, 0, 0, 0, 0, 0, 0, 0, 0, 0, 0, 0, 0, 0, 0, 0, ⟨#[]⟩, ⟨#[]⟩, 0, 0, 0, [], []⟩
def pf : Pay → PF
  | .ask x => { zF with ask := x }
  | .answer x => { zF with ans := x }
  | .doubt inc boot tb ts tq => { zF with d1 := inc, d2 := boot, d3 := tb, d4 := ts, d5 := tq }
  | .mend inc parent name => { zF with m1 := inc, m2 := parent, mn := name }
  | .mended inc => { zF with h1 := inc }
  | .call inc tb ts tq ops => { zF with c1 := inc, c2 := tb, c3 := ts, c4 := tq, cops := ops }
  | .reply inc boot tb ts tq code data => { zF with r1 := inc, r2 := boot, r3 := tb, r4 := ts, r5 := tq, rc := code, rdat := data }
  | .order inc boot session seq id parent name what => { zF with o1 := inc, o2 := boot, o3 := session, o4 := seq, o5 := id, o6 := parent, on := name, ow := what }
  | .result inc boot session seq err => { zF with s1 := inc, s2 := boot, s3 := session, s4 := seq, se := err }
  | .greet => zF
  | .welcome inc boot => { zF with h1 := inc, h2 := boot }
def flat (fr tt : Nat) (k : Int) (f : PF) (a1 a2 b1 b2 b3 c5 r7 : Value) : Array Value := #[.int .i64 k, .int .u64 (fr : Int), .int .u64 (tt : Int), .int .i64 f.ask.kind, .int .u64 (f.ask.inc : Int), .int .u64 (f.ask.head : Int), .int .u64 (f.ask.boot : Int), .int .u64 (f.ask.tb : Int), .int .u64 (f.ask.ts : Int), .int .u64 (f.ask.tq : Int), a1, .bool f.ask.commit, a2, .int .u64 (f.ask.id : Int), .string f.ask.name, .int .i64 f.ans.kind, .int .u64 (f.ans.inc : Int), .int .u64 (f.ans.boot : Int), .int .u64 (f.ans.tb : Int), .int .u64 (f.ans.ts : Int), .int .u64 (f.ans.tq : Int), .int .u64 (f.ans.id : Int), .int .i64 f.ans.err, .int .i64 f.ans.out.err, .int .i64 f.ans.out.at_, b1, b2, .bool f.ans.commit, b3, .int .u64 (f.ans.at_ : Int), .int .u64 (f.d1 : Int), .int .u64 (f.d2 : Int), .int .u64 (f.d3 : Int), .int .u64 (f.d4 : Int), .int .u64 (f.d5 : Int), .int .u64 (f.m1 : Int), .int .u64 (f.m2 : Int), .string f.mn, .int .u64 (f.c1 : Int), .int .u64 (f.c2 : Int), .int .u64 (f.c3 : Int), .int .u64 (f.c4 : Int), c5, .int .u64 (f.r1 : Int), .int .u64 (f.r2 : Int), .int .u64 (f.r3 : Int), .int .u64 (f.r4 : Int), .int .u64 (f.r5 : Int), .int .i64 f.rc, r7, .int .u64 (f.o1 : Int), .int .u64 (f.o2 : Int), .string f.on, .int .u64 (f.o3 : Int), .int .u64 (f.o4 : Int), .int .i64 f.ow, .int .u64 (f.o5 : Int), .int .u64 (f.o6 : Int), .int .u64 (f.s1 : Int), .int .u64 (f.s2 : Int), .int .u64 (f.s3 : Int), .int .u64 (f.s4 : Int), .int .i64 f.se, .int .u64 (f.h1 : Int), .int .u64 (f.h2 : Int)]
theorem flat_size (fr tt : Nat) (k : Int) (f : PF) (a1 a2 b1 b2 b3 c5 r7 : Value) : (flat fr tt k f a1 a2 b1 b2 b3 c5 r7).size = 65 := rfl
/-- what its slices read as -/
structure FlatRd (w : World) (F : Nat → Prop) (f : PF) (a1 a2 b1 b2 b3 c5 r7 : Value) : Prop where
  ask : AskOwn w F f.ask a1 a2
  ans : AnsOwn w F f.ans b1 b2 b3
  cops : ∃ xs, OwnO w 0 F c5 f.cops xs
  copsF : ∀ k, c5.ownBlock = some k → F k
  rdat : RdB w F r7 f.rdat
theorem FlatRd.chg {w w' : World} {F S : Nat → Prop} {f : PF} {a1 a2 b1 b2 b3 c5 r7 : Value} (h : FlatRd w F f a1 a2 b1 b2 b3 c5 r7) (hc : Chg S w w') (hF : ∀ k, F k → ¬ S k) : FlatRd w' F f a1 a2 b1 b2 b3 c5 r7 := by
  obtain ⟨h1, h2, ⟨xs, h3⟩, h4, h5⟩ := h
  exact ⟨h1.chg hc hF, h2.chg hc hF, ⟨xs, h3.chg hc (fun k hk => hF k (h4 k hk)) hF⟩, h4, h5.chg hc hF⟩
theorem FlatRd.mono {w : World} {F F' : Nat → Prop} {f : PF} {a1 a2 b1 b2 b3 c5 r7 : Value} (h : FlatRd w F f a1 a2 b1 b2 b3 c5 r7) (hF : ∀ k, F k → F' k) : FlatRd w F' f a1 a2 b1 b2 b3 c5 r7 := by
  obtain ⟨h1, h2, ⟨xs, h3⟩, h4, h5⟩ := h
  exact ⟨h1.mono hF, h2.mono hF, ⟨xs, h3.mono hF⟩, fun k hk => hF k (h4 k hk), h5.mono hF⟩
theorem ownO_nil (w : World) (F : Nat → Prop) : OwnO w 0 F (.slice none 0 0) [] [] := ⟨rfl, World.ownsRow_nil w 0 _ 4, fun i x y h => by simp at h⟩
theorem nil_own (F : Nat → Prop) : ∀ k, (Value.slice none 0 0).ownBlock = some k → F k := fun k hk => by simp [Value.ownBlock] at hk
theorem rdRows_nil (w : World) (F : Nat → Prop) : RdRows w F (.slice none 0 0) [] := ⟨[], rfl, RdV.nil_ _ _ _, fun i x r h => by simp at h⟩
theorem rdWr_nil (w : World) (F : Nat → Prop) : RdWr w F (.slice none 0 0) [] := ⟨[], rfl, RdV.nil_ _ _ _, fun i x r h => by simp at h⟩
theorem askOwn_nil (w : World) (F : Nat → Prop) : AskOwn w F zAsk (.slice none 0 0) (.slice none 0 0) := ⟨⟨[], ownO_nil _ _⟩, nil_own _, RdB.nil_ _ _⟩
theorem ansOwn_nil (w : World) (F : Nat → Prop) : AnsOwn w F zAns (.slice none 0 0) (.slice none 0 0) (.slice none 0 0) := ⟨rdRows_nil _ _, rdWr_nil _ _, RdB.nil_ _ _⟩
theorem flatRd_nil {w : World} {F : Nat → Prop} {f : PF} (h1 : f.ask = zAsk) (h2 : f.ans = zAns) (h3 : f.cops = []) (h4 : f.rdat = []) : FlatRd w F f (.slice none 0 0) (.slice none 0 0) (.slice none 0 0) (.slice none 0 0) (.slice none 0 0) (.slice none 0 0) (.slice none 0 0) :=
  ⟨by rw [h1]; exact askOwn_nil _ _, by rw [h2]; exact ansOwn_nil _ _, ⟨[], by rw [h3]; exact ownO_nil _ _⟩, nil_own _, by rw [h4]; exact RdB.nil_ _ _⟩
set_option maxHeartbeats 4000000 in
theorem pktA_flat {w : World} {base fr tt : Nat} {v1 v2 v3 : Value} {p : Pay} (hV : PayV w base v1 v2 v3 p) : ∃ a1 a2 b1 b2 b3 c5 r7 : Value, pktA fr tt p v1 v2 v3 = flat fr tt p.kind (pf p) a1 a2 b1 b2 b3 c5 r7 ∧ FlatRd w (fun k => base ≤ k ∧ k < w.heap.size) (pf p) a1 a2 b1 b2 b3 c5 r7 := by
  have hk : ∀ (v : Value) (l : List OpS) (xs : List (Value × Value)), HasO w base v l xs → (∃ xs, OwnO w 0 (fun k => base ≤ k ∧ k < w.heap.size) v l xs) ∧ ∀ k, v.ownBlock = some k → base ≤ k ∧ k < w.heap.size := fun v l xs h => ⟨⟨xs, h.ownO.1⟩, h.ownO.2⟩
  cases p with
  | ask x =>
    obtain ⟨xs, h⟩ := hV
    refine ⟨v1, v2, (.slice none 0 0), (.slice none 0 0), (.slice none 0 0), (.slice none 0 0), (.slice none 0 0), by kernel_rfl, ⟨⟨(hk _ _ _ h.ops).1, (hk _ _ _ h.ops).2, h.reply.rdB⟩, ansOwn_nil _ _, ⟨[], ownO_nil _ _⟩, nil_own _, RdB.nil_ _ _⟩⟩
  | answer x =>
    refine ⟨(.slice none 0 0), (.slice none 0 0), v1, v2, v3, (.slice none 0 0), (.slice none 0 0), by kernel_rfl, ⟨askOwn_nil _ _, ⟨hV.out.rows, hV.out.ws, hV.reply.rdB⟩, ⟨[], ownO_nil _ _⟩, nil_own _, RdB.nil_ _ _⟩⟩
  | call inc tb ts tq ops =>
    obtain ⟨xs, h⟩ := hV
    refine ⟨(.slice none 0 0), (.slice none 0 0), (.slice none 0 0), (.slice none 0 0), (.slice none 0 0), v1, (.slice none 0 0), by kernel_rfl, ⟨askOwn_nil _ _, ansOwn_nil _ _, (hk _ _ _ h).1, (hk _ _ _ h).2, RdB.nil_ _ _⟩⟩
  | reply inc boot tb ts tq code data =>
    refine ⟨(.slice none 0 0), (.slice none 0 0), (.slice none 0 0), (.slice none 0 0), (.slice none 0 0), (.slice none 0 0), v1, by kernel_rfl, ⟨askOwn_nil _ _, ansOwn_nil _ _, ⟨[], ownO_nil _ _⟩, nil_own _, OwnB.rdB hV⟩⟩
  | doubt inc boot tb ts tq => exact ⟨(.slice none 0 0), (.slice none 0 0), (.slice none 0 0), (.slice none 0 0), (.slice none 0 0), (.slice none 0 0), (.slice none 0 0), by kernel_rfl, flatRd_nil rfl rfl rfl rfl⟩
  | mend inc parent name => exact ⟨(.slice none 0 0), (.slice none 0 0), (.slice none 0 0), (.slice none 0 0), (.slice none 0 0), (.slice none 0 0), (.slice none 0 0), by kernel_rfl, flatRd_nil rfl rfl rfl rfl⟩
  | mended inc => exact ⟨(.slice none 0 0), (.slice none 0 0), (.slice none 0 0), (.slice none 0 0), (.slice none 0 0), (.slice none 0 0), (.slice none 0 0), by kernel_rfl, flatRd_nil rfl rfl rfl rfl⟩
  | order inc boot session seq id parent name what => exact ⟨(.slice none 0 0), (.slice none 0 0), (.slice none 0 0), (.slice none 0 0), (.slice none 0 0), (.slice none 0 0), (.slice none 0 0), by kernel_rfl, flatRd_nil rfl rfl rfl rfl⟩
  | result inc boot session seq err => exact ⟨(.slice none 0 0), (.slice none 0 0), (.slice none 0 0), (.slice none 0 0), (.slice none 0 0), (.slice none 0 0), (.slice none 0 0), by kernel_rfl, flatRd_nil rfl rfl rfl rfl⟩
  | greet => exact ⟨(.slice none 0 0), (.slice none 0 0), (.slice none 0 0), (.slice none 0 0), (.slice none 0 0), (.slice none 0 0), (.slice none 0 0), by kernel_rfl, flatRd_nil rfl rfl rfl rfl⟩
  | welcome inc boot => exact ⟨(.slice none 0 0), (.slice none 0 0), (.slice none 0 0), (.slice none 0 0), (.slice none 0 0), (.slice none 0 0), (.slice none 0 0), by kernel_rfl, flatRd_nil rfl rfl rfl rfl⟩
theorem fl_ge (l : List (List UInt8)) (x : List UInt8) (h : x ∈ l) : x.length ≤ (flatB l).length := by
  induction l with
  | nil => cases h
  | cons a l ih =>
    simp only [flatB, List.flatMap_cons, List.length_append, partB] at ih ⊢
    rcases List.mem_cons.1 h with rfl | h
    · omega
    · have := ih h; omega
theorem fm_ge {α : Type} (f : α → List UInt8) (hf : ∀ x, 1 ≤ (f x).length) : ∀ l : List α, l.length ≤ (l.flatMap f).length
  | [] => Nat.le_refl _
  | a :: l => by
    have := fm_ge f hf l
    have := hf a
    rw [List.flatMap_cons, List.length_append, List.length_cons]; omega
theorem fm_mem {α : Type} (f : α → List UInt8) : ∀ (l : List α) (x : α), x ∈ l → (f x).length ≤ (l.flatMap f).length
  | a :: l, x, h => by
    rw [List.flatMap_cons, List.length_append]
    rcases List.mem_cons.1 h with rfl | h
    · omega
    · have := fm_mem f l x h; omega
/-- a packet that was read stands in its cells -/
theorem flat_at {w : World} {b fr tt : Nat} {F : Nat → Prop} {p : Pay} {a1 a2 b1 b2 b3 c5 r7 : Value} (hB : Blk w b 63 (flat fr tt p.kind (pf p) a1 a2 b1 b2 b3 c5 r7)) (hR : FlatRd w F (pf p) a1 a2 b1 b2 b3 c5 r7) (hD : DPkt (fr, tt, p)) (hs : (EPkt (fr, tt, p)).length ≤ 1048576) : PktAt w b F fr tt p := by
  obtain ⟨⟨t1, t2⟩, hp⟩ := hD
  have hs : (payB p).length ≤ 1048576 := by simp only [EPkt, pktB, List.length_append] at hs; omega
  refine ⟨hB.cell 0, hB.frozen 0, hB.cell 1, t1, hB.cell 2, t2, ?_⟩
  obtain ⟨⟨⟨xs, hO⟩, hOF, hRp⟩, ⟨hRw, hWs, hNp⟩, ⟨ys, hC⟩, hCF, hRd⟩ := hR
  cases p with
  | ask x =>
    obtain ⟨k, ⟨u1, u2, u3, u4⟩, ⟨u5, u6, u7⟩, hops, hr, hn⟩ := hp
    have e1 := fm_ge opB opB_pos x.ops
    have e2 := fl_ge [x.name.data.toList] _ (List.mem_singleton.2 rfl)
    rw [dname] at e2
    simp only [payB, askB, opsB, List.length_append] at hs
    exact ⟨a1, a2, xs, ⟨hB.cell 3, hB.cell 4, hB.cell 5, hB.cell 6, hB.cell 7, hB.cell 8, hB.cell 9, hB.cell 10, hB.cell 11, hB.cell 12, hB.cell 13, hB.cell 14, hB.frozen 3, hB.frozen 14, hO, hRp, k, ⟨u1, u2, u3, u4, u5, u6, u7⟩, fun o ho => (hops.2 o ho).1, by omega, by omega⟩, hOF⟩
  | answer x =>
    obtain ⟨k, ⟨u1, u2, u3, u4⟩, ⟨u5, u6, u7⟩, ke, ⟨ko, kt, hrw, hws⟩, hr⟩ := hp
    simp only [payB, ansB, outB, rowsB, wrsB, List.length_append] at hs
    have e1 := fm_ge (fun r : List PairL => numB r.length ++ rowB r) (fun r => by rw [List.length_append]; have := numB_pos r.length; omega) x.out.rows
    have e2 := fm_ge wrB wrB_pos x.out.ws
    exact ⟨b1, b2, b3, ⟨hB.cell 15, hB.cell 16, hB.cell 17, hB.cell 18, hB.cell 19, hB.cell 20, hB.cell 21, hB.cell 22, ⟨hB.cell 23, hB.cell 24, hB.cell 25, hB.cell 26, hB.frozen 23, hB.frozen 24, hRw, hWs, ko, kt, by omega, fun r hr => by
      have e3 := fm_mem (fun r : List PairL => numB r.length ++ rowB r) x.out.rows r hr
      have e4 : r.length ≤ (rowB r).length := fm_ge pairB pairB_pos r
      simp only [List.length_append] at e3
      omega, by omega⟩, hB.cell 27, hB.cell 28, hB.cell 29, hB.frozen 15, hB.frozen 22, hNp, k, ke, ⟨u1, u2, u3, u4, u5, u6, u7⟩⟩⟩
  | doubt inc boot tb ts tq =>
    obtain ⟨⟨u1, u2⟩, u3, u4, u5⟩ := hp
    exact ⟨hB.cell 30, u1, hB.cell 31, u2, hB.cell 32, u3, hB.cell 33, u4, hB.cell 34, u5⟩
  | mend inc parent name =>
    obtain ⟨⟨u1, u2⟩, hn⟩ := hp
    have e2 := fl_ge [name.data.toList] _ (List.mem_singleton.2 rfl)
    rw [dname] at e2
    simp only [payB, List.length_append] at hs
    exact ⟨hB.cell 35, u1, hB.cell 36, u2, hB.cell 37, hB.frozen 37, by omega⟩
  | mended inc => exact ⟨hB.cell 63, hp⟩
  | call inc tb ts tq ops =>
    obtain ⟨u1, ⟨u2, u3, u4⟩, hops⟩ := hp
    have e1 := fm_ge opB opB_pos ops
    simp only [payB, opsB, List.length_append] at hs
    exact ⟨c5, ys, hB.cell 38, u1, hB.cell 39, u2, hB.cell 40, u3, hB.cell 41, u4, hB.cell 42, hC, hCF, fun o ho => (hops.2 o ho).1, by omega⟩
  | reply inc boot tb ts tq code data =>
    obtain ⟨⟨u1, u2⟩, ⟨u3, u4, u5⟩, kc, hd⟩ := hp
    exact ⟨r7, hB.cell 43, u1, hB.cell 44, u2, hB.cell 45, u3, hB.cell 46, u4, hB.cell 47, u5, hB.cell 48, hB.frozen 48, kc, hB.cell 49, hRd⟩
  | order inc boot session seq id parent name what =>
    obtain ⟨⟨u1, u2, u3, u4, u5, u6⟩, hn, kw⟩ := hp
    have e2 := fl_ge [name.data.toList] _ (List.mem_singleton.2 rfl)
    rw [dname] at e2
    simp only [payB, List.length_append] at hs
    exact ⟨hB.cell 50, u1, hB.cell 51, u2, hB.cell 53, u3, hB.cell 54, u4, hB.cell 56, u5, hB.cell 57, u6, hB.cell 52, hB.frozen 52, by omega, hB.cell 55, hB.frozen 55, kw⟩
  | result inc boot session seq err =>
    obtain ⟨⟨u1, u2, u3, u4⟩, ke⟩ := hp
    exact ⟨hB.cell 58, u1, hB.cell 59, u2, hB.cell 60, u3, hB.cell 61, u4, hB.cell 62, hB.frozen 62, ke⟩
  | greet => trivial
  | welcome inc boot => exact ⟨hB.cell 63, hp.1, hB.cell 64, hp.2⟩
end Go.Proofs.Ytncchbcoldgpbaa
