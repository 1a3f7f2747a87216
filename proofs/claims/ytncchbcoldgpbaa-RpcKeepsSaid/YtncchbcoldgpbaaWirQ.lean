/- rpc: a packet's bytes. -/
import Derived.Test.YtncchbcoldgpbaaWirPb
import Derived.Test.YtncchbcoldgpbaaWirPc
import Derived.Test.YtncchbcoldgpbaaSeal
open List (getElem_toArray getElem_cons_succ getElem_cons_zero setIfInBounds_toArray set_cons_zero set_cons_succ)
namespace Go.Proofs.Ytncchbcoldgpbaa
open Go.RowKit
set_option linter.unusedVariables false
set_option linter.unusedSimpArgs false

/-- what a packet says, by its kind -/
inductive Pay where
  | ask (x : AskS)
  | answer (x : AnsS)
  | doubt (inc boot tb ts tq : Nat)
  | mend (inc parent : Nat) (name : ByteArray)
  | mended (inc : Nat)
  | call (inc tb ts tq : Nat) (ops : List OpS)
  | reply (inc boot tb ts tq : Nat) (code : Int) (data : List UInt8)
  | order (inc boot session seq id parent : Nat) (name : ByteArray) (what : Int)
  | result (inc boot session seq : Nat) (err : Int)
  | greet
  | welcome (inc boot : Nat)
def Pay.kind : Pay → Int
  | .ask _ => 1
  | .answer _ => 2
  | .doubt _ _ _ _ _ => 3
  | .mend _ _ _ => 4
  | .mended _ => 5
  | .call _ _ _ _ _ => 6
  | .reply _ _ _ _ _ _ _ => 7
  | .order _ _ _ _ _ _ _ _ => 8
  | .result _ _ _ _ _ => 9
  | .greet  => 10
  | .welcome _ _ => 11
def payB : Pay → List UInt8
  | .ask x => askB x
  | .answer x => ansB x
  | .doubt inc boot tb ts tq => numsB [inc, boot] ++ (numsB [tb, ts, tq])
  | .mend inc parent name => numsB [inc, parent] ++ (flatB [name.data.toList])
  | .mended inc => numsB [inc]
  | .call inc tb ts tq ops => numsB [inc] ++ (numsB [tb, ts, tq] ++ ((numB ops.length ++ opsB ops)))
  | .reply inc boot tb ts tq code data => numsB [inc, boot] ++ (numsB [tb, ts, tq] ++ (numB (wz code) ++ (flatB [data])))
  | .order inc boot session seq id parent name what => numsB [inc, boot, session, seq, id, parent] ++ (flatB [name.data.toList] ++ (numB (wz what)))
  | .result inc boot session seq err => numsB [inc, boot, session, seq] ++ (numB (wz err))
  | .greet  => []
  | .welcome inc boot => numsB [inc, boot]
def pktB (fr tt : Nat) (p : Pay) : List UInt8 := numB (wz p.kind) ++ (numsB [fr, tt] ++ payB p)
/-- it stands in the block b -/
def PayAt (w : World) (b : Nat) (F : Nat → Prop) : Pay → Prop
  | .ask x => ∃ (vo vr : Value) (xs : List (Value × Value)), (AskAt w b 3 F x vo vr xs) ∧ (∀ k, vo.ownBlock = some k → F k)
  | .answer x => ∃ (vr vw vp : Value), (AnsAt w b 15 F x vr vw vp)
  | .doubt inc boot tb ts tq => (w.cell? ⟨b, 30, none⟩ = some (.int .u64 (inc : Int))) ∧ (U64 inc) ∧ (w.cell? ⟨b, 31, none⟩ = some (.int .u64 (boot : Int))) ∧ (U64 boot) ∧ (w.cell? ⟨b, 32, none⟩ = some (.int .u64 (tb : Int))) ∧ (U64 tb) ∧ (w.cell? ⟨b, 33, none⟩ = some (.int .u64 (ts : Int))) ∧ (U64 ts) ∧ (w.cell? ⟨b, 34, none⟩ = some (.int .u64 (tq : Int))) ∧ (U64 tq)
  | .mend inc parent name => (w.cell? ⟨b, 35, none⟩ = some (.int .u64 (inc : Int))) ∧ (U64 inc) ∧ (w.cell? ⟨b, 36, none⟩ = some (.int .u64 (parent : Int))) ∧ (U64 parent) ∧ (w.cell? ⟨b, 37, none⟩ = some (.string name)) ∧ (w.frozen? ⟨b, 37, none⟩ = false) ∧ (name.size ≤ 1000000000)
  | .mended inc => (w.cell? ⟨b, 63, none⟩ = some (.int .u64 (inc : Int))) ∧ (U64 inc)
  | .call inc tb ts tq ops => ∃ (vo : Value) (xs : List (Value × Value)), (w.cell? ⟨b, 38, none⟩ = some (.int .u64 (inc : Int))) ∧ (U64 inc) ∧ (w.cell? ⟨b, 39, none⟩ = some (.int .u64 (tb : Int))) ∧ (U64 tb) ∧ (w.cell? ⟨b, 40, none⟩ = some (.int .u64 (ts : Int))) ∧ (U64 ts) ∧ (w.cell? ⟨b, 41, none⟩ = some (.int .u64 (tq : Int))) ∧ (U64 tq) ∧ (w.cell? ⟨b, 42, none⟩ = some vo) ∧ (OwnO w 0 F vo ops xs) ∧ (∀ k, vo.ownBlock = some k → F k) ∧ (∀ o ∈ ops, I64 o.kind ∧ I64 o.most) ∧ (ops.length ≤ 1000000000)
  | .reply inc boot tb ts tq code data => ∃ vr : Value, (w.cell? ⟨b, 43, none⟩ = some (.int .u64 (inc : Int))) ∧ (U64 inc) ∧ (w.cell? ⟨b, 44, none⟩ = some (.int .u64 (boot : Int))) ∧ (U64 boot) ∧ (w.cell? ⟨b, 45, none⟩ = some (.int .u64 (tb : Int))) ∧ (U64 tb) ∧ (w.cell? ⟨b, 46, none⟩ = some (.int .u64 (ts : Int))) ∧ (U64 ts) ∧ (w.cell? ⟨b, 47, none⟩ = some (.int .u64 (tq : Int))) ∧ (U64 tq) ∧ (w.cell? ⟨b, 48, none⟩ = some (.int .i64 code)) ∧ (w.frozen? ⟨b, 48, none⟩ = false) ∧ (I64 code) ∧ (w.cell? ⟨b, 49, none⟩ = some vr) ∧ (RdB w F vr data)
  | .order inc boot session seq id parent name what => (w.cell? ⟨b, 50, none⟩ = some (.int .u64 (inc : Int))) ∧ (U64 inc) ∧ (w.cell? ⟨b, 51, none⟩ = some (.int .u64 (boot : Int))) ∧ (U64 boot) ∧ (w.cell? ⟨b, 53, none⟩ = some (.int .u64 (session : Int))) ∧ (U64 session) ∧ (w.cell? ⟨b, 54, none⟩ = some (.int .u64 (seq : Int))) ∧ (U64 seq) ∧ (w.cell? ⟨b, 56, none⟩ = some (.int .u64 (id : Int))) ∧ (U64 id) ∧ (w.cell? ⟨b, 57, none⟩ = some (.int .u64 (parent : Int))) ∧ (U64 parent) ∧ (w.cell? ⟨b, 52, none⟩ = some (.string name)) ∧ (w.frozen? ⟨b, 52, none⟩ = false) ∧ (name.size ≤ 1000000000) ∧ (w.cell? ⟨b, 55, none⟩ = some (.int .i64 what)) ∧ (w.frozen? ⟨b, 55, none⟩ = false) ∧ (I64 what)
  | .result inc boot session seq err => (w.cell? ⟨b, 58, none⟩ = some (.int .u64 (inc : Int))) ∧ (U64 inc) ∧ (w.cell? ⟨b, 59, none⟩ = some (.int .u64 (boot : Int))) ∧ (U64 boot) ∧ (w.cell? ⟨b, 60, none⟩ = some (.int .u64 (session : Int))) ∧ (U64 session) ∧ (w.cell? ⟨b, 61, none⟩ = some (.int .u64 (seq : Int))) ∧ (U64 seq) ∧ (w.cell? ⟨b, 62, none⟩ = some (.int .i64 err)) ∧ (w.frozen? ⟨b, 62, none⟩ = false) ∧ (I64 err)
  | .greet  => True
  | .welcome inc boot => (w.cell? ⟨b, 63, none⟩ = some (.int .u64 (inc : Int))) ∧ (U64 inc) ∧ (w.cell? ⟨b, 64, none⟩ = some (.int .u64 (boot : Int))) ∧ (U64 boot)
structure PktAt (w : World) (b : Nat) (F : Nat → Prop) (fr tt : Nat) (p : Pay) : Prop where
  c0 : w.cell? ⟨b, 0, none⟩ = some (.int .i64 p.kind)
  f0 : w.frozen? ⟨b, 0, none⟩ = false
  c1 : w.cell? ⟨b, 1, none⟩ = some (.int .u64 (fr : Int))
  u1 : U64 fr
  c2 : w.cell? ⟨b, 2, none⟩ = some (.int .u64 (tt : Int))
  u2 : U64 tt
  pay : PayAt w b F p

theorem wirPacket {base g b : Nat} {v : Value} {l : List UInt8} {fr tt : Nat} {F : Nat → Prop} {w : World} {p : Pay} (h : Wir w base g v l) (hnb : ¬ WB g v b) (hF : ∀ k, F k → ¬ WB g v k) (hFl : ∀ k, F k → k < w.heap.size) (hP : PktAt w b F fr tt p)
    (hb : l.length + (payB p).length + 600 ≤ 140737488355328) :
    Calls Try.prog 26 #[.pointer (some ⟨g, 0, none⟩), .pointer (some ⟨b, 0, none⟩)] w fun e w' =>
      e = .returned (.bool true) ∧ ∃ v', Wir w' base g v' (l ++ pktB fr tt p) ∧ Chg (WB g v) w w' ∧ Grew w v v' := by
  obtain ⟨c0, f0, c1, u1, c2, u2, hp⟩ := hP
  cases p with
  | ask x =>
    obtain ⟨vo, vr, xs, hA, hO1⟩ := hp
    exact wirPAsk h hnb hF hFl c0 f0 c1 u1 c2 u2 hA hO1 hb
  | answer x =>
    obtain ⟨vr, vw, vp, hA⟩ := hp
    exact wirPAnswer h hnb hF hFl c0 f0 c1 u1 c2 u2 hA hb
  | doubt inc boot tb ts tq =>
    obtain ⟨c30, u30, c31, u31, c32, u32, c33, u33, c34, u34⟩ := hp
    exact wirPDoubt h hnb hF hFl c0 f0 c1 u1 c2 u2 c30 u30 c31 u31 c32 u32 c33 u33 c34 u34 hb
  | mend inc parent name =>
    obtain ⟨c35, u35, c36, u36, c37, f37, hs⟩ := hp
    exact wirPMend h hnb hF hFl c0 f0 c1 u1 c2 u2 c35 u35 c36 u36 c37 f37 hs hb
  | mended inc =>
    obtain ⟨c63, u63⟩ := hp
    exact wirPMended h hnb hF hFl c0 f0 c1 u1 c2 u2 c63 u63 hb
  | call inc tb ts tq ops =>
    obtain ⟨vo, xs, c38, u38, c39, u39, c40, u40, c41, u41, c42, hops, hO1, hwf, hon⟩ := hp
    exact wirPCall h hnb hF hFl c0 f0 c1 u1 c2 u2 c38 u38 c39 u39 c40 u40 c41 u41 c42 hops hO1 hwf hon hb
  | reply inc boot tb ts tq code data =>
    obtain ⟨vr, c43, u43, c44, u44, c45, u45, c46, u46, c47, u47, c48, f48, hi, c49, hdat⟩ := hp
    exact wirPReply h hnb hF hFl c0 f0 c1 u1 c2 u2 c43 u43 c44 u44 c45 u45 c46 u46 c47 u47 c48 f48 hi c49 hdat hb
  | order inc boot session seq id parent name what =>
    obtain ⟨c50, u50, c51, u51, c53, u53, c54, u54, c56, u56, c57, u57, c52, f52, hs, c55, f55, hi⟩ := hp
    exact wirPOrder h hnb hF hFl c0 f0 c1 u1 c2 u2 c50 u50 c51 u51 c53 u53 c54 u54 c56 u56 c57 u57 c52 f52 hs c55 f55 hi hb
  | result inc boot session seq err =>
    obtain ⟨c58, u58, c59, u59, c60, u60, c61, u61, c62, f62, hi⟩ := hp
    exact wirPResult h hnb hF hFl c0 f0 c1 u1 c2 u2 c58 u58 c59 u59 c60 u60 c61 u61 c62 f62 hi hb
  | greet => exact wirPGreet h hnb hF hFl c0 f0 c1 u1 c2 u2 hb
  | welcome inc boot =>
    obtain ⟨c63, u63, c64, u64⟩ := hp
    exact wirPWelcome h hnb hF hFl c0 f0 c1 u1 c2 u2 c63 u63 c64 u64 hb

theorem kind_no {k : Int} (h : k < 1 ∨ 11 < k) : k ≠ 1 ∧ k ≠ 2 ∧ k ≠ 3 ∧ k ≠ 4 ∧ k ≠ 5 ∧ k ≠ 6 ∧ k ≠ 7 ∧ k ≠ 8 ∧ k ≠ 9 ∧ k ≠ 10 ∧ k ≠ 11 := by omega
set_option maxHeartbeats 16000000 in
set_option maxRecDepth 100000 in
theorem wirPNo {base g b : Nat} {v : Value} {l : List UInt8} {fr tt : Nat} {F : Nat → Prop} {w : World} {K : Int} (hK : K < 1 ∨ 11 < K) (hI : I64 K)
    (h : Wir w base g v l) (hnb : ¬ WB g v b) (hF : ∀ k, F k → ¬ WB g v k) (hFl : ∀ k, F k → k < w.heap.size)
    (c0 : w.cell? ⟨b, 0, none⟩ = some (.int .i64 K)) (f0 : w.frozen? ⟨b, 0, none⟩ = false) (c1 : w.cell? ⟨b, 1, none⟩ = some (.int .u64 (fr : Int))) (u1 : U64 fr) (c2 : w.cell? ⟨b, 2, none⟩ = some (.int .u64 (tt : Int))) (u2 : U64 tt)
    (hb : l.length + 600 ≤ 140737488355328) :
    Calls Try.prog 26 #[.pointer (some ⟨g, 0, none⟩), .pointer (some ⟨b, 0, none⟩)] w fun e w' =>
      e = .returned (.bool false) ∧ ∃ v' l', Wir w' base g v' l' ∧ Chg (WB g v) w w' ∧ Grew w v v' := by
  have hbl : b < w.heap.size := World.block_lt_of_cell? w _ c0
  have hn2 := numsB_length [fr, tt]
  have hn1 := numB_length (wz K)
  simp only [List.length_cons, List.length_nil] at hn2
  obtain ⟨n1, n2, n3, n4, n5, n6, n7, n8, n9, n10, n11⟩ := kind_no hK
  have hcw0 := Chg.refl (WB g v) w
  have hG0 := Grew.refl w v
  have hnb0 := hnb
  have hF0 := hF
  have hpt := RdPt.lit w 133 #[.pointer (some ⟨b, 0, none⟩)] [⟨b, 0, none⟩] 1 rfl rfl (by simp [maxLen])
  have hcL := (Chg.refl Non w).alloc (.cells #[.pointer (some ⟨b, 0, none⟩)] 133)
  have hWL : Wir _ base g v l := h.al (.cells #[.pointer (some ⟨b, 0, none⟩)] 133)
  have hFp : ∀ k, k = w.heap.size → ¬ WB g v k := fun k e hb => by have := (h.lt k hb).2; omega
  have hcz := whole_one (hcL.cell c0 (fun h => h)) (hcL.frz c0 (fun h => h) f0) hnb hI
  have HCZ := hide hcz
  clear hcz hK
  have hbd : l.length + 9 * [K].length ≤ 140737488355328 := by simp only [List.length_cons, List.length_nil]; omega
  have b1 : (K == 1) = false := beq_eq_false_iff_ne.2 n1
  have b2 : (K == 2) = false := beq_eq_false_iff_ne.2 n2
  have b3 : (K == 3) = false := beq_eq_false_iff_ne.2 n3
  have b4 : (K == 4) = false := beq_eq_false_iff_ne.2 n4
  have b5 : (K == 5) = false := beq_eq_false_iff_ne.2 n5
  have b6 : (K == 6) = false := beq_eq_false_iff_ne.2 n6
  have b7 : (K == 7) = false := beq_eq_false_iff_ne.2 n7
  have b8 : (K == 8) = false := beq_eq_false_iff_ne.2 n8
  have b9 : (K == 9) = false := beq_eq_false_iff_ne.2 n9
  have b10 : (K == 10) = false := beq_eq_false_iff_ne.2 n10
  have b11 : (K == 11) = false := beq_eq_false_iff_ne.2 n11
  clear n1 n2 n3 n4 n5 n6 n7 n8 n9 n10 n11
  go_enter Try.func26, Try.ntmps26
  go_upto_region 2 with (go_at_call 52; refine (wirWhole hWL hpt hFp rfl HCZ.out hbd).mono ?_; rintro e w1 ⟨rfl, v1, hWx, hcx, hGx⟩)
  have hWx : Wir w1 base g v1 (l ++ numB (wz K)) := by rw [← numsB_one]; exact hWx
  have hcw1 := hcw0.wtr hG0 ((chgX (S := WB g v) hcL).trans hcx fun _ _ h => h)
  have hG1 := hG0.trans hcw0.size (hGx.low hcL.size)
  have HW1 := hide (show Wir w1 base g v1 (l ++ numB (wz K)) from hWx)
  have hnb1 : ¬ WB g v1 b := fun hb => hnb (hG1.wb hbl hb)
  have hF1 : ∀ k, F k → ¬ WB g v1 k := fun k hk hb => hF k hk (hG1.wb (hFl k hk) hb)
  clear hWx hcx hGx
  clear hcL hWL hpt hFp HCZ hbd
  have hcd : Chg Non w1 w1.drew := (Chg.refl Non w1).drew
  have hWD : Wir w1.drew base g v1 (l ++ numB (wz K)) := (HW1.out).c0 hcd
  have hpt := RdPt.lit w1.drew 135 #[.pointer (some ⟨b, 1, none⟩), .pointer (some ⟨b, 2, none⟩)] [⟨b, 1, none⟩, ⟨b, 2, none⟩] 2 rfl rfl (by simp [maxLen])
  have hcM := (Chg.refl Non w1.drew).alloc (.cells #[.pointer (some ⟨b, 1, none⟩), .pointer (some ⟨b, 2, none⟩)] 135)
  have hWA : Wir _ base g v1 (l ++ numB (wz K)) := hWD.al (.cells #[.pointer (some ⟨b, 1, none⟩), .pointer (some ⟨b, 2, none⟩)] 135)
  have hFp : ∀ k, k = w1.drew.heap.size → ¬ WB g v1 k := fun k e hb => by have := (hWD.lt k hb).2; omega
  have hcy := hcd.trans0 hcM
  have hcz : ∀ (j : Nat) (a : Addr) (n : Nat), ([⟨b, 1, none⟩, ⟨b, 2, none⟩] : List Addr)[j]? = some a → [fr, tt][j]? = some n → (w1.drew.alloc (.cells #[.pointer (some ⟨b, 1, none⟩), .pointer (some ⟨b, 2, none⟩)] 135)).cell? a = some (.int .u64 (n : Int)) ∧ ¬ WB g v1 a.block ∧ U64 n := by
    intro j a n h1 h2
    match j, h1, h2 with
    | 0, h1, h2 => simp at h1 h2; subst h1; subst h2; exact ⟨hcy.cell (hcw1.cell c1 hnb) (fun h => h), hnb1, u1⟩
    | 1, h1, h2 => simp at h1 h2; subst h1; subst h2; exact ⟨hcy.cell (hcw1.cell c2 hnb) (fun h => h), hnb1, u2⟩
    | j + 2, h1, h2 => simp at h1
  have HCZ := hide hcz
  clear hcz
  have hbd : (l ++ numB (wz K)).length + 9 * [fr, tt].length ≤ 140737488355328 := by simp only [List.length_append, List.length_cons, List.length_nil]; omega
  refine wp_region_T (fun _ => True) 99 (by kernel_rfl) ?_
  have HS := hide True.intro
  refine AnyT.take (i := 0) (v := ?_) rfl (by kernel_rfl) (by kernel_rfl) (fun _ _ _ h => h) (by kernel_rfl) (by kernel_rfl) (Or.inl ⟨by rfl, ?_⟩) HS.out ?_
  rotate_left
  · (intro w9 h9; go_simp; try with_reducible rfl)
  try simp only [getElem_toArray, getElem_cons_succ, getElem_cons_zero, Act.put, setIfInBounds_toArray, set_cons_zero, set_cons_succ]
  refine AnyT.take (i := 1) (v := ?_) rfl (by kernel_rfl) (by kernel_rfl) (fun _ _ _ h => h) (by kernel_rfl) (by kernel_rfl) (Or.inl ⟨by rfl, ?_⟩) HS.out ?_
  rotate_left
  · (intro w9 h9; go_simp; try with_reducible rfl)
  try simp only [getElem_toArray, getElem_cons_succ, getElem_cons_zero, Act.put, setIfInBounds_toArray, set_cons_zero, set_cons_succ]
  refine AnyT.take (i := 2) (v := ?_) rfl (by kernel_rfl) (by kernel_rfl) (fun _ _ _ h => h) (by kernel_rfl) (by kernel_rfl) (Or.inl ⟨by rfl, ?_⟩) HS.out ?_
  rotate_left
  · (intro w9 h9; go_simp; try with_reducible rfl)
  try simp only [getElem_toArray, getElem_cons_succ, getElem_cons_zero, Act.put, setIfInBounds_toArray, set_cons_zero, set_cons_succ]
  refine AnyT.take (i := 3) (v := ?_) rfl (by kernel_rfl) (by kernel_rfl) (fun _ _ _ h => h) (by kernel_rfl) (by kernel_rfl) (Or.inl ⟨by rfl, ?_⟩) HS.out ?_
  rotate_left
  · (intro w9 h9; go_simp; try with_reducible rfl)
  try simp only [getElem_toArray, getElem_cons_succ, getElem_cons_zero, Act.put, setIfInBounds_toArray, set_cons_zero, set_cons_succ]
  refine AnyT.take (i := 4) (v := ?_) rfl (by kernel_rfl) (by kernel_rfl) (fun _ _ _ h => h) (by kernel_rfl) (by kernel_rfl) (Or.inl ⟨by rfl, ?_⟩) HS.out ?_
  rotate_left
  · (intro w9 h9; go_simp; try with_reducible rfl)
  try simp only [getElem_toArray, getElem_cons_succ, getElem_cons_zero, Act.put, setIfInBounds_toArray, set_cons_zero, set_cons_succ]
  refine AnyT.take (i := 5) (v := ?_) rfl (by kernel_rfl) (by kernel_rfl) (fun _ _ _ h => h) (by kernel_rfl) (by kernel_rfl) (Or.inl ⟨by rfl, ?_⟩) HS.out ?_
  rotate_left
  · (intro w9 h9; go_simp; try with_reducible rfl)
  try simp only [getElem_toArray, getElem_cons_succ, getElem_cons_zero, Act.put, setIfInBounds_toArray, set_cons_zero, set_cons_succ]
  refine AnyT.take (i := 6) (v := ?_) rfl (by kernel_rfl) (by kernel_rfl) (fun _ _ _ h => h) (by kernel_rfl) (by kernel_rfl) (Or.inl ⟨by rfl, ?_⟩) HS.out ?_
  rotate_left
  · (intro w9 h9; go_simp; try with_reducible rfl)
  try simp only [getElem_toArray, getElem_cons_succ, getElem_cons_zero, Act.put, setIfInBounds_toArray, set_cons_zero, set_cons_succ]
  refine AnyT.one (i := 7) (by kernel_rfl) rfl (fun K hK => ?_)
  go_simp
  refine hK.out _ _ (fun _ => trivial) ?_
  clear hK K
  try simp only [getElem_toArray, getElem_cons_succ, getElem_cons_zero, Act.put, setIfInBounds_toArray, set_cons_zero, set_cons_succ]
  refine AnyT.one (i := 8) (by kernel_rfl) rfl (fun K hK => ?_)
  go_simp
  go_wp2_with (go_at_call 53; refine (wirNum (G := Non) hWA hpt hFp rfl HCZ.out hbd).mono ?_; rintro e w2 ⟨rfl, v2, hWx, hcx, hGx⟩)
  refine hK.out _ _ (fun _ => trivial) ?_
  clear hK K
  try simp only [getElem_toArray, getElem_cons_succ, getElem_cons_zero, Act.put, setIfInBounds_toArray, set_cons_zero, set_cons_succ]
  refine AnyT.nil (by kernel_rfl) ?_
  have hcw2 := hcw1.wtr hG1 ((chgX (S := WB g v1) hcy).trans hcx fun _ _ h => h)
  have hG2 := hG1.trans hcw1.size (hGx.low hcy.size)
  have HW2 := hide (show Wir w2 base g v2 ((l ++ numB (wz K)) ++ numsB [fr, tt]) from hWx)
  have hnb2 : ¬ WB g v2 b := fun hb => hnb (hG2.wb hbl hb)
  have hF2 : ∀ k, F k → ¬ WB g v2 k := fun k hk hb => hF k hk (hG2.wb (hFl k hk) hb)
  clear hWx hcx hGx
  clear hpt hcy hWA hFp HCZ hbd hcd hWD hcM HS HW1
  have k0 := hcw2.cell c0 hnb
  go_wp2_with fail
  go_ret
  exact ⟨rfl, v2, _, HW2.out, hcw2, hG2⟩

theorem seal_at {u : Value} {b : List UInt8} {F : Nat → Prop} {w : World} {er : Int} {ll : List UInt8} (he : er = if 1048576 < b.length then 2 else 0) (hl : ll = if 1048576 < b.length then [] else sealB b) (hr : RdB w F u b) :
    Calls Try.prog 27 #[u] w fun e w' => ∃ v', e = .returned (.tuple #[v', .int .i64 er]) ∧ OwnB w' w.heap.size v' ll ∧ Chg Non w w' := by
  subst he; subst hl; exact paritySeal hr
set_option maxHeartbeats 4000000 in
set_option maxRecDepth 100000 in
theorem pktBytes {vs : Array Value} {fr tt : Nat} {F : Nat → Prop} {w : World} {p : Pay} (hF : ∀ k, F k → k < w.heap.size) (hP : ∀ (w' : World) (b : Nat), Chg Non w w' → Blk w' b 63 vs → PktAt w' b F fr tt p)
    (hb : (payB p).length + 700 ≤ 140737488355328) :
    Calls Try.prog 9 #[.agg vs] w fun e w' => ∃ v', e = .returned (.tuple #[v', .int .i64 (if 1048576 < (pktB fr tt p).length then 2 else 0)]) ∧ OwnB w' w.heap.size v' (if 1048576 < (pktB fr tt p).length then [] else sealB (pktB fr tt p)) ∧ Chg Non w w' := by
  have hX := Blk.new w 63 vs
  have hcA := (Chg.refl Non w).alloc (.cells vs 63)
  have hbs : w.heap.size < (w.alloc (.cells vs 63)).heap.size := hX.lt
  obtain ⟨bp, hbp⟩ : ∃ b, b = w.heap.size := ⟨_, rfl⟩
  rw [← hbp] at hX hbs
  generalize hwA : w.alloc (.cells vs 63) = wA at hX hcA hbs
  have HAL := hide hwA
  have hY := Blk.new wA 101 #[.slice none 0 0, .pointer none]
  have hcB := (Chg.refl Non wA).alloc (.cells #[.slice none 0 0, .pointer none] 101)
  have hW : Wir (wA.alloc (.cells #[.slice none 0 0, .pointer none] 101)) wA.heap.size wA.heap.size (.slice none 0 0) [] := ⟨hY, OwnB.nil_ _ _, by simp [Value.ownBlock], Nat.le_refl _⟩
  obtain ⟨bg, hbg⟩ : ∃ b, b = wA.heap.size := ⟨_, rfl⟩
  rw [← hbg] at hW hbs
  generalize hwB : wA.alloc (.cells #[.slice none 0 0, .pointer none] 101) = wB at hW hcB
  have HBL := hide hwB
  have hXB := hX.c0 hcB
  have hPB := hP wB bp (hcA.trans0 hcB) hXB
  have hnb : ¬ WB bg (.slice none 0 0) bp := by
    intro h; rcases h with h | h
    · omega
    · simp [Value.ownBlock] at h
  have hFB : ∀ k, F k → ¬ WB bg (.slice none 0 0) k := by
    intro k hk h; rcases h with h | h
    · have := hF k hk; omega
    · simp [Value.ownBlock] at h
  have hFl : ∀ k, F k → k < wB.heap.size := fun k hk => by have := hF k hk; have := hcB.size; omega
  have hlen : (pktB fr tt p).length ≤ (payB p).length + 27 := by
    have h1 := numB_length (wz p.kind); have h2 := numsB_length [fr, tt]
    simp only [List.length_cons, List.length_nil] at h2
    simp only [pktB, List.length_append]; omega
  have hbd : (([] : List UInt8)).length + (payB p).length + 600 ≤ 140737488355328 := by simp only [List.length_nil]; omega
  have HPB := hide hPB
  have HBP := hide hbp; have HBG := hide hbg
  clear hwA hwB hPB hP hX hY hbp hbg
  obtain ⟨er, her⟩ : ∃ er : Int, er = if 1048576 < (pktB fr tt p).length then 2 else 0 := ⟨_, rfl⟩
  obtain ⟨ll, hll⟩ : ∃ ll : List UInt8, ll = if 1048576 < (pktB fr tt p).length then [] else sealB (pktB fr tt p) := ⟨_, rfl⟩
  rw [← her, ← hll]
  have HE := hide (And.intro her hll)
  clear her hll
  go_enter Try.func9, Try.ntmps9
  go_upto_region 1 with fail
  rw [← HBP.out, HAL.out]
  go_upto_region 2 with fail
  rw [← HBG.out, HBL.out]
  go_upto_region 4 with (go_at_call 26; refine (wirPacket hW hnb hFB hFl HPB.out hbd).mono ?_; rintro e w1 ⟨rfl, v1, hW1, hc1, hG1⟩)
  rw [List.nil_append] at hW1
  have hl2 : (pktB fr tt p).length ≤ 140737488355328 := by omega
  have hcw : Chg Non w w1 := (hcA.trans0 hcB).trans hc1 (by
    intro k hk h
    rcases h with h | h
    · have := HBG.out; have := hcA.size; omega
    · simp [Value.ownBlock] at h)
  go_wp2_with (first
    | (go_at_call 28; refine (wtrBytes hW1 hl2).mono ?_; rintro e w2 ⟨u, rfl, hu, hc2⟩)
    | (go_at_call 27; refine (seal_at HE.out.1 HE.out.2 hu.rd).mono ?_; rintro e w3 ⟨v', rfl, hv, hc3⟩))
  go_ret2
  exact ⟨_, rfl, hv.low (by have := hcw.size; have := hc2.size; omega), (hcw.trans0 hc2).trans0 hc3⟩

/-- a packet of no kind has none -/
theorem pktBytesNo {vs : Array Value} {fr tt : Nat} {K : Int} {w : World} (hK : K < 1 ∨ 11 < K) (hI : I64 K) (h0 : vs[0]? = some (.int .i64 K)) (h1 : vs[1]? = some (.int .u64 (fr : Int))) (u1 : U64 fr) (h2 : vs[2]? = some (.int .u64 (tt : Int))) (u2 : U64 tt) :
    Calls Try.prog 9 #[.agg vs] w fun e w' => e = .returned (.tuple #[.slice none 0 0, .int .i64 3]) ∧ Chg Non w w' := by
  have hX := Blk.new w 63 vs
  have hcA := (Chg.refl Non w).alloc (.cells vs 63)
  have hbs : w.heap.size < (w.alloc (.cells vs 63)).heap.size := hX.lt
  obtain ⟨bp, hbp⟩ : ∃ b, b = w.heap.size := ⟨_, rfl⟩
  rw [← hbp] at hX hbs
  generalize hwA : w.alloc (.cells vs 63) = wA at hX hcA hbs
  have HAL := hide hwA
  have hY := Blk.new wA 101 #[.slice none 0 0, .pointer none]
  have hcB := (Chg.refl Non wA).alloc (.cells #[.slice none 0 0, .pointer none] 101)
  have hW : Wir (wA.alloc (.cells #[.slice none 0 0, .pointer none] 101)) wA.heap.size wA.heap.size (.slice none 0 0) [] := ⟨hY, OwnB.nil_ _ _, by simp [Value.ownBlock], Nat.le_refl _⟩
  obtain ⟨bg, hbg⟩ : ∃ b, b = wA.heap.size := ⟨_, rfl⟩
  rw [← hbg] at hW hbs
  generalize hwB : wA.alloc (.cells #[.slice none 0 0, .pointer none] 101) = wB at hW hcB
  have HBL := hide hwB
  have hXB := hX.c0 hcB
  have c0 := (hXB.cell 0).trans h0
  have c1 := (hXB.cell 1).trans h1
  have c2 := (hXB.cell 2).trans h2
  have f0 := hXB.frozen 0
  have hnb : ¬ WB bg (.slice none 0 0) bp := by
    intro h; rcases h with h | h
    · omega
    · simp [Value.ownBlock] at h
  have hbd : (([] : List UInt8)).length + 600 ≤ 140737488355328 := by simp only [List.length_nil]; omega
  have HBP := hide hbp; have HBG := hide hbg
  have HH := hide (And.intro c0 (And.intro c1 c2))
  clear hwA hwB hX hY hbp hbg h0 h1 h2 c0 c1 c2
  go_enter Try.func9, Try.ntmps9
  go_upto_region 1 with fail
  rw [← HBP.out, HAL.out]
  go_upto_region 2 with fail
  rw [← HBG.out, HBL.out]
  go_upto_region 3 with (go_at_call 26; refine (wirPNo (F := Non) hK hI hW hnb (fun k h => h.elim) (fun k h => h.elim) HH.out.1 f0 HH.out.2.1 u1 HH.out.2.2 u2 hbd).mono ?_; rintro e w1 ⟨rfl, v1, l1, hW1, hc1, hG1⟩)
  have hcw : Chg Non w w1 := (hcA.trans0 hcB).trans hc1 (by
    intro k hk h
    rcases h with h | h
    · have := HBG.out; have := hcA.size; omega
    · simp [Value.ownBlock] at h)
  go_wp2_with fail
  go_ret2
  exact ⟨rfl, hcw⟩

end Go.Proofs.Ytncchbcoldgpbaa
