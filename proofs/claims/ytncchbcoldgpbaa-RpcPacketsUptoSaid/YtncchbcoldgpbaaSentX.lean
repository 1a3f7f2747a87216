/- the packet that a Sent makes: it stands in its cells; its bytes; it can be read. -/
import Derived.Test.YtncchbcoldgpbaaSentW
import Derived.Test.YtncchbcoldgpbaaSentL
import Derived.Test.YtncchbcoldgpbaaOpenSen
namespace Go.Proofs.Ytncchbcoldgpbaa
open Go.RowKit
set_option linter.unusedVariables false
set_option linter.unusedSimpArgs false

/-- what it says, where it is of a kind -/
def payS (x : SenS) : Pay :=
  if x.kind = 1 then .ask x.ask else if x.kind = 2 then .answer x.ans else if x.kind = 3 then .doubt x.a x.b x.ask.tb x.ask.ts x.ask.tq else if x.kind = 4 then .mend x.a x.b x.name else if x.kind = 5 then .mended x.a
  else if x.kind = 6 then .call x.a x.ans.tb x.ans.ts x.ans.tq x.ask.ops else if x.kind = 7 then .reply x.a x.b x.ask.tb x.ask.ts x.ask.tq x.what x.ask.reply else if x.kind = 8 then .order x.a x.fr x.b x.fr x.tt x.b x.name x.what
  else if x.kind = 9 then .result x.a x.b x.fr x.tt x.what else if x.kind = 10 then .greet else .welcome x.a x.b
theorem payS_cases {x : SenS} (h1 : 1 ≤ x.kind) (h2 : x.kind ≤ 11) {P : Int → Pay → Prop} (p1 : P 1 (.ask x.ask)) (p2 : P 2 (.answer x.ans)) (p3 : P 3 (.doubt x.a x.b x.ask.tb x.ask.ts x.ask.tq)) (p4 : P 4 (.mend x.a x.b x.name)) (p5 : P 5 (.mended x.a))
    (p6 : P 6 (.call x.a x.ans.tb x.ans.ts x.ans.tq x.ask.ops)) (p7 : P 7 (.reply x.a x.b x.ask.tb x.ask.ts x.ask.tq x.what x.ask.reply)) (p8 : P 8 (.order x.a x.fr x.b x.fr x.tt x.b x.name x.what)) (p9 : P 9 (.result x.a x.b x.fr x.tt x.what)) (p10 : P 10 .greet) (p11 : P 11 (.welcome x.a x.b)) : P x.kind (payS x) := by
  have hk : x.kind = 1 ∨ x.kind = 2 ∨ x.kind = 3 ∨ x.kind = 4 ∨ x.kind = 5 ∨ x.kind = 6 ∨ x.kind = 7 ∨ x.kind = 8 ∨ x.kind = 9 ∨ x.kind = 10 ∨ x.kind = 11 := by omega
  unfold payS
  rcases hk with h | h | h | h | h | h | h | h | h | h | h <;> rw [h] <;> first | exact p1 | exact p2 | exact p3 | exact p4 | exact p5 | exact p6 | exact p7 | exact p8 | exact p9 | exact p10 | exact p11
theorem payS_kind {x : SenS} (h1 : 1 ≤ x.kind) (h2 : x.kind ≤ 11) : (payS x).kind = x.kind :=
  payS_cases (P := fun k p => p.kind = k) h1 h2 rfl rfl rfl rfl rfl rfl rfl rfl rfl rfl rfl
theorem dname {s : ByteArray} : s.data.toList.length = s.size := Array.length_toList
theorem opsB_len : ∀ l : List OpS, (opsB l).length ≤ 40 * opsZ l
  | [] => by simp [opsB]
  | o :: l => by
    have h := opsB_len l
    have h1 := numsB_length [wz o.kind, wz o.most]
    have h2 := flatB_length [o.key, o.val]
    simp only [List.length_cons, List.length_nil, List.map_cons, List.map_nil, List.sum_cons, List.sum_nil] at h1 h2
    simp only [opsB, opsZ, List.flatMap_cons, List.map_cons, List.sum_cons, List.length_append, opB, opZ] at h ⊢
    omega
theorem wrsB_len : ∀ l : List WrO, (wrsB l).length ≤ 40 * wrsZ l
  | [] => by simp [wrsB]
  | o :: l => by
    have h := wrsB_len l
    have h2 := flatB_length [o.a, o.b]
    simp only [List.length_cons, List.length_nil, List.map_cons, List.map_nil, List.sum_cons, List.sum_nil] at h2
    simp only [wrsB, wrsZ, List.flatMap_cons, List.map_cons, List.sum_cons, List.length_append, wrB, wrZ, flagB, List.length_cons, List.length_nil] at h ⊢
    omega
theorem rowB_len : ∀ l : List PairL, (rowB l).length ≤ 40 * rowZ l
  | [] => by simp [rowB]
  | o :: l => by
    have h := rowB_len l
    have h2 := flatB_length [o.1, o.2]
    simp only [List.length_cons, List.length_nil, List.map_cons, List.map_nil, List.sum_cons, List.sum_nil] at h2
    simp only [rowB, rowZ, List.flatMap_cons, List.map_cons, List.sum_cons, List.length_append, pairB, pairZ] at h ⊢
    omega
theorem rowsB_len : ∀ l : List (List PairL), (rowsB l).length ≤ 40 * rowsZ l
  | [] => by simp [rowsB]
  | o :: l => by
    have h := rowsB_len l
    have h1 := rowB_len o
    have h2 := numB_length o.length
    simp only [rowsB, rowsZ, List.flatMap_cons, List.map_cons, List.sum_cons, List.length_append] at h ⊢
    omega
theorem payS_len {x : SenS} (z : SenZ x) : (payB (payS x)).length ≤ 200000000 := by
  have hn1 := fun n => numB_length n
  have o1 := opsB_len x.ask.ops; have o2 := z.ops
  have r1 := rowsB_len x.ans.out.rows; have r2 := z.rows
  have w1 := wrsB_len x.ans.out.ws; have w2 := z.ws
  have f1 := flatB_length [x.ask.reply]; have f2 := flatB_length [x.ask.name.data.toList]; have f3 := flatB_length [x.ans.reply]; have f4 := flatB_length [x.name.data.toList]
  have z1 := z.rep; have z2 := z.anm; have z3 := z.nrep; have z4 := z.nm
  simp only [List.map_cons, List.map_nil, List.sum_cons, List.sum_nil, dname] at f1 f2 f3 f4
  have n := fun l => numsB_length l
  unfold payS
  repeat' split
  · have a1 := hn1 (wz x.ask.kind); have a2 := n [x.ask.inc, x.ask.head, x.ask.boot, x.ask.id]; have a3 := n [x.ask.tb, x.ask.ts, x.ask.tq]; have a4 := hn1 x.ask.ops.length
    simp only [List.length_cons, List.length_nil] at a2 a3
    simp only [payB, askB, flagB, List.length_append, List.length_cons, List.length_nil]
    omega
  · have a1 := hn1 (wz x.ans.kind); have a2 := n [x.ans.inc, x.ans.boot, x.ans.id, x.ans.at_]; have a3 := n [x.ans.tb, x.ans.ts, x.ans.tq]; have a4 := hn1 (wz x.ans.err); have a5 := hn1 (wz x.ans.out.err); have a6 := hn1 (wz x.ans.out.at_); have a7 := hn1 x.ans.out.rows.length; have a8 := hn1 x.ans.out.ws.length
    simp only [List.length_cons, List.length_nil] at a2 a3
    simp only [payB, ansB, outB, flagB, List.length_append, List.length_cons, List.length_nil]
    omega
  all_goals
    have b1 := n [x.a, x.b]; have b2 := n [x.a]; have b3 := n [x.ask.tb, x.ask.ts, x.ask.tq]; have b4 := n [x.ans.tb, x.ans.ts, x.ans.tq]; have b5 := hn1 x.ask.ops.length; have b6 := hn1 (wz x.what); have b7 := n [x.a, x.fr, x.b, x.fr, x.tt, x.b]; have b8 := n [x.a, x.b, x.fr, x.tt]
    simp only [List.length_cons, List.length_nil] at b1 b2 b3 b4 b7 b8
    simp only [payB, List.length_append, List.length_nil]
    omega
theorem payS_D {x : SenS} (wf : SenWf x) (z : SenZ x) (h1 : 1 ≤ x.kind) (h2 : x.kind ≤ 11) : DPkt (x.fr, x.tt, payS x) := by
  obtain ⟨u1, u2, u3, u4⟩ := wf.u
  obtain ⟨a1, a2, a3, a4, a5, a6, a7⟩ := wf.ua
  obtain ⟨n1, n2, n3, n4, n5, n6, n7⟩ := wf.un
  have t1 : T64 x.ask.reply := by have := z.rep; unfold T64; omega
  have t2 : T64 x.ask.name.data.toList := by have := z.anm; unfold T64; rw [dname]; omega
  have t3 : T64 x.ans.reply := by have := z.nrep; unfold T64; omega
  have t4 : T64 x.name.data.toList := by have := z.nm; unfold T64; rw [dname]; omega
  have d1 : DOps x.ask.ops := by
    have h := z.ops
    have h3 := sumZ_len opZ (fun x => by unfold opZ; omega) x.ask.ops
    unfold opsZ at h
    refine ⟨by omega, fun o ho => ⟨wf.ops o ho, ?_, ?_⟩⟩ <;> have h4 := sumZ_mem opZ x.ask.ops o ho <;> unfold T64 <;> unfold opZ at h4 h <;> omega
  have d2 : DOut x.ans.out := by
    refine ⟨wf.ko, wf.kt, ?_, ?_⟩
    · have h := z.rows
      have h3 := sumZ_len (fun r => rowZ r + 1) (fun x => by omega) x.ans.out.rows
      unfold rowsZ at h
      refine ⟨by omega, fun r hr => ?_⟩
      have h4 := sumZ_mem (fun r => rowZ r + 1) x.ans.out.rows r hr
      have h5 := sumZ_len pairZ (fun x => by unfold pairZ; omega) r
      refine ⟨by unfold rowZ at h4 h; omega, fun o ho => ?_⟩
      have h6 := sumZ_mem pairZ r o ho
      constructor <;> unfold T64 <;> unfold rowZ at h4 h <;> unfold pairZ at h4 h h6 <;> omega
    · have h := z.ws
      have h3 := sumZ_len wrZ (fun x => by unfold wrZ; omega) x.ans.out.ws
      unfold wrsZ at h
      refine ⟨by omega, fun o ho => ?_⟩
      have h4 := sumZ_mem wrZ x.ans.out.ws o ho
      constructor <;> unfold T64 <;> unfold wrZ at h4 h <;> omega
  refine ⟨⟨u1, u2⟩, ?_⟩
  exact payS_cases (P := fun _ p => DPay p) h1 h2 ⟨wf.ka, ⟨a1, a2, a3, a4⟩, ⟨a5, a6, a7⟩, d1, t1, t2⟩ ⟨wf.kn, ⟨n1, n2, n6, n7⟩, ⟨n3, n4, n5⟩, wf.ke, d2, t3⟩ ⟨⟨u3, u4⟩, a5, a6, a7⟩ ⟨⟨u3, u4⟩, t4⟩ u3 ⟨u3, ⟨n3, n4, n5⟩, d1⟩ ⟨⟨u3, u4⟩, ⟨a5, a6, a7⟩, wf.kw, t1⟩ ⟨⟨u3, u1, u4, u1, u2, u4⟩, t4, wf.kw⟩ ⟨⟨u3, u4, u1, u2⟩, wf.kw⟩ trivial ⟨u3, u4⟩
/-- the packet in its cells -/
theorem pkt_at {w : World} {b : Nat} {F : Nat → Prop} {x : SenS} {o1 o2 n1 n2 n3 u4 u5 : Value} (hB : Blk w b 63 (pkA x o1 o2 n1 n2 n3 u4 u5)) (hA : AskOwn w F x.ask o1 o2) (hN : AnsOwn w F x.ans n1 n2 n3) (hC : AskOwn w F x.ask u4 u5) (wf : SenWf x) (z : SenZ x)
    (h1 : 1 ≤ x.kind) (h2 : x.kind ≤ 11) : PktAt w b F x.fr x.tt (payS x) := by
  obtain ⟨t1, t2, t3, t4⟩ := wf.u
  obtain ⟨a1, a2, a3, a4, a5, a6, a7⟩ := wf.ua
  obtain ⟨m1, m2, m3, m4, m5, m6, m7⟩ := wf.un
  have on : x.ask.ops.length ≤ 1000000000 := Nat.le_trans (sumZ_len opZ (fun x => by unfold opZ; omega) x.ask.ops) (Nat.le_trans z.ops (by omega))
  have rn : x.ans.out.rows.length ≤ 1000000000 := Nat.le_trans (sumZ_len (fun r => rowZ r + 1) (fun x => by omega) x.ans.out.rows) (Nat.le_trans z.rows (by omega))
  have rr : ∀ r ∈ x.ans.out.rows, r.length ≤ 1000000000 := fun r hr => by
    have h := sumZ_mem (fun r => rowZ r + 1) x.ans.out.rows r hr
    have h2 := sumZ_len pairZ (fun x => by unfold pairZ; omega) r
    have h3 := z.rows
    unfold rowsZ at h3
    unfold rowZ at h h3
    omega
  have wn : x.ans.out.ws.length ≤ 1000000000 := Nat.le_trans (sumZ_len wrZ (fun x => by unfold wrZ; omega) x.ans.out.ws) (Nat.le_trans z.ws (by omega))
  obtain ⟨⟨xs, hO⟩, hOF, hR⟩ := hA
  obtain ⟨⟨ys, hO'⟩, hOF', hR'⟩ := hC
  have hp : PayAt w b F (payS x) := payS_cases (P := fun _ p => PayAt w b F p) h1 h2
    ⟨o1, o2, xs, ⟨hB.cell 3, hB.cell 4, hB.cell 5, hB.cell 6, hB.cell 7, hB.cell 8, hB.cell 9, hB.cell 10, hB.cell 11, hB.cell 12, hB.cell 13, hB.cell 14, hB.frozen 3, hB.frozen 14, hO, hR, wf.ka, ⟨a1, a2, a3, a4, a5, a6, a7⟩, wf.ops, on, Nat.le_trans z.anm (by omega)⟩, hOF⟩
    ⟨n1, n2, n3, ⟨hB.cell 15, hB.cell 16, hB.cell 17, hB.cell 18, hB.cell 19, hB.cell 20, hB.cell 21, hB.cell 22, ⟨hB.cell 23, hB.cell 24, hB.cell 25, hB.cell 26, hB.frozen 23, hB.frozen 24, hN.rows, hN.ws, wf.ko, wf.kt, rn, rr, wn⟩, hB.cell 27, hB.cell 28, hB.cell 29, hB.frozen 15, hB.frozen 22, hN.rep, wf.kn, wf.ke, ⟨m1, m2, m6, m7, m3, m4, m5⟩⟩⟩
    ⟨hB.cell 30, t3, hB.cell 31, t4, hB.cell 32, a5, hB.cell 33, a6, hB.cell 34, a7⟩
    ⟨hB.cell 35, t3, hB.cell 36, t4, hB.cell 37, hB.frozen 37, Nat.le_trans z.nm (by omega)⟩
    ⟨hB.cell 63, t3⟩
    ⟨u4, ys, hB.cell 38, t3, hB.cell 39, m3, hB.cell 40, m4, hB.cell 41, m5, hB.cell 42, hO', hOF', wf.ops, on⟩
    ⟨u5, hB.cell 43, t3, hB.cell 44, t4, hB.cell 45, a5, hB.cell 46, a6, hB.cell 47, a7, hB.cell 48, hB.frozen 48, wf.kw, hB.cell 49, hR'⟩
    ⟨hB.cell 50, t3, hB.cell 51, t1, hB.cell 53, t4, hB.cell 54, t1, hB.cell 56, t2, hB.cell 57, t4, hB.cell 52, hB.frozen 52, Nat.le_trans z.nm (by omega), hB.cell 55, hB.frozen 55, wf.kw⟩
    ⟨hB.cell 58, t3, hB.cell 59, t4, hB.cell 60, t1, hB.cell 61, t2, hB.cell 62, hB.frozen 62, wf.kw⟩
    trivial
    ⟨hB.cell 63, t3, hB.cell 64, t4⟩
  have e0 := hB.cell 0
  refine ⟨by rw [payS_kind h1 h2]; exact e0, hB.frozen 0, hB.cell 1, t1, hB.cell 2, t2, hp⟩
/-- its bytes -/
theorem sentBytes {F : Nat → Prop} {w : World} {x : SenS} {o1 o2 n1 n2 n3 u4 u5 : Value} (hA : AskOwn w F x.ask o1 o2) (hN : AnsOwn w F x.ans n1 n2 n3) (hC : AskOwn w F x.ask u4 u5) (hF : ∀ k, F k → k < w.heap.size) (wf : SenWf x) (z : SenZ x) :
    Calls Try.prog 9 #[.agg (pkA x o1 o2 n1 n2 n3 u4 u5)] w fun e w' => Chg Non w w' ∧ ∃ (v' : Value) (er : Int) (l : List UInt8), e = .returned (.tuple #[v', .int .i64 er]) ∧ OwnB w' w.heap.size v' l ∧
      ((x.kind < 1 ∨ 11 < x.kind) ∧ er = 3 ∧ l = [] ∨ (1 ≤ x.kind ∧ x.kind ≤ 11) ∧ er = 2 ∧ l = [] ∧ 1048576 < (pktB x.fr x.tt (payS x)).length ∨ (1 ≤ x.kind ∧ x.kind ≤ 11) ∧ er = 0 ∧ l = sealB (pktB x.fr x.tt (payS x)) ∧ (pktB x.fr x.tt (payS x)).length ≤ 1048576) := by
  by_cases hk : x.kind < 1 ∨ 11 < x.kind
  · refine (pktBytesNo (vs := pkA x o1 o2 n1 n2 n3 u4 u5) hk wf.kk rfl rfl wf.u.1 rfl wf.u.2.1).mono ?_
    rintro e w' ⟨rfl, hc⟩
    exact ⟨hc, _, _, [], rfl, OwnB.nil_ _ _, .inl ⟨hk, rfl, rfl⟩⟩
  · have h1 : 1 ≤ x.kind := by omega
    have h2 : x.kind ≤ 11 := by omega
    refine (pktBytes (vs := pkA x o1 o2 n1 n2 n3 u4 u5) (p := payS x) hF (fun w' b hc hB => pkt_at hB (hA.chg hc fun _ _ h => h) (hN.chg hc fun _ _ h => h) (hC.chg hc fun _ _ h => h) wf z h1 h2) (by have := payS_len z; omega)).mono ?_
    rintro e w' ⟨v', rfl, hu, hc⟩
    refine ⟨hc, v', _, _, rfl, hu, .inr ?_⟩
    by_cases hl : 1048576 < (pktB x.fr x.tt (payS x)).length
    · exact .inl ⟨⟨h1, h2⟩, if_pos hl, if_pos hl, hl⟩
    · exact .inr ⟨⟨h1, h2⟩, if_neg hl, if_neg hl, by omega⟩
theorem lightZ {x : SenS} (z : SenZ x) : SenZ (lightS x) := by
  refine ⟨Nat.le_trans (sumZ_take opZ _ _) z.ops, ?_, z.anm, Nat.le_trans (sumZ_take _ _ _) z.rows, z.ws, z.nrep, ?_⟩
  · show (x.ask.reply.take 5000).length ≤ _
    rw [List.length_take]; have := z.rep; omega
  · show (cutN x.name).size ≤ _
    unfold cutN
    have := z.nm
    split
    · rw [ByteArray.size_extract]; omega
    · exact this
theorem lightWf {x : SenS} (wf : SenWf x) : SenWf (lightS x) := ⟨wf.kk, wf.kw, wf.ka, wf.kn, wf.ke, wf.ko, wf.kt, wf.u, wf.ua, wf.un, fun o ho => wf.ops o (List.mem_of_mem_take ho)⟩
end Go.Proofs.Ytncchbcoldgpbaa
