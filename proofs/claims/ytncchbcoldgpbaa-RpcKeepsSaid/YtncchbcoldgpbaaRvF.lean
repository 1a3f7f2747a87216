/- rpc.Read. -/
import Derived.Test.YtncchbcoldgpbaaRvE
import Derived.Great.Walk
open List (getElem_toArray getElem_cons_succ getElem_cons_zero setIfInBounds_toArray set_cons_zero set_cons_succ)
namespace Go.Proofs.Ytncchbcoldgpbaa
open Go.RowKit
set_option linter.unusedVariables false
set_option linter.unusedSimpArgs false

set_option maxHeartbeats 400000 in
theorem packReadF {v : Value} {l : List UInt8} {F : Nat → Prop} {w : World} (hr : RdB w F v l) (hl : l.length ≤ 140737488355328) :
    Calls Try.prog 31 #[v] w fun e w' => ∃ g, e = .returned (.pointer (some ⟨g, 0, none⟩)) ∧ w.heap.size ≤ g ∧ Rdr w' (fun b => w.heap.size ≤ b ∧ b < g) g l 0 0 ∧ Chg Non w w' := by
  go_enter Try.func31, Try.ntmps31
  go_wp2_with fail
  refine (bytesClone hr hl).mono ?_
  rintro e w1 ⟨u, rfl, hu, hc⟩
  obtain ⟨A, c, rfl, hcc, hm⟩ := hu.shape
  go_wp2_with fail
  go_ret
  have hb := Blk.new w1 157 #[.slice A l.length c, .int .i64 0, .int .i64 0]
  refine ⟨_, rfl, hc.size, ⟨Nat.zero_le _, _, hb, ((hu.rdB.al _).mono fun k hk => ⟨hk, by simp; omega, by omega⟩)⟩, hc.alloc _⟩

theorem open_at {b l y : List UInt8} {eo : Int} (h : openR b = (l, y, eo)) : openA b 0 = if eo = 0 then (l, (b.length : Int) - y.length, 0) else ([], 0, eo) := by
  by_cases he : eo = 0
  · subst he
    rw [if_pos rfl]
    exact openA_ok (a := 0) (Nat.zero_le _) h
  · rw [if_neg he]
    exact openA_bad (a := 0) (Nat.zero_le _) h he

theorem run_loadE {q : Nat} {z : Int} {w : World} (hQ : Blk w q 39 #[.int .i64 z]) : (loadVar 39 ⟨q, 0, none⟩).run Try.prog w = .ok (.int .i64 z) w := by
  have cq : w.cell? ⟨q, 0, none⟩ = some (.int .i64 z) := hQ.cell 0
  simp [loadVar, go_sem, cq]
theorem run_loadP {p : Nat} {arr : Array Value} {w : World} (hP : Blk w p 63 arr) (hs : arr.size = 65) : (loadVar 63 ⟨p, 0, none⟩).run Try.prog w = .ok (.agg arr) w :=
  run_loadVar_row (P := Try.prog) w p 63 63 arr (0, 0) _ hP Try.underlying63 rfl (by rw [hs]; exact info_pkt)
theorem res_read {p q : Nat} {arr : Array Value} {z : Int} {w : World} {tmps : Array Value} (hP : Blk w p 63 arr) (hs : arr.size = 65) (hQ : Blk w q 39 #[.int .i64 z])
    (h2 : tmps.getD 2 undef = .pointer (some ⟨p, 0, none⟩)) (h3 : tmps.getD 3 undef = .pointer (some ⟨q, 0, none⟩)) : (results Try.f10 tmps).run Try.prog w = .ok (.tuple #[.agg arr, .int .i64 z]) w := by
  have h2' : tmps[2]?.getD undef = .pointer (some ⟨p, 0, none⟩) := by simpa using h2
  have h3' : tmps[3]?.getD undef = .pointer (some ⟨q, 0, none⟩) := by simpa using h3
  simp [results, Try.results10, h2', h3', asAddr, run_loadE hQ, run_loadP hP hs]
theorem leaves_congr {P : Program} {fn : Func} {t1 t2 : Array Value} {R : Ending → World → Prop} (h : results fn t1 = results fn t2) : ∀ (ds : List Deferred) (u : FrameMode) (w : World), Leaves P fn t1 R ds u w → Leaves P fn t2 R ds u w := by
  intro ds
  induction ds with
  | nil =>
    intro u w hl
    cases u with
    | returning => rw [Leaves] at hl ⊢; rw [← h]; exact hl
    | panicking c => exact hl
    | run => exact hl
  | cons d ds ih =>
    intro u w hl
    obtain ⟨hu, fv, cap, f, args, h1, h2, h3⟩ := hl
    refine ⟨hu, fv, cap, f, args, h1, h2, h3.mono fun e u' w' he => ?_⟩
    cases e with
    | returned v => exact ih _ _ he
    | panicked c => exact ih _ _ he
    | outgrown => exact he
theorem panic_put {R : Ending → World → Prop} {a : Act} {w : World} {c : List PanicEntry} {t : Nat} {v : Value} (h2 : t ≠ 2) (h3 : t ≠ 3) (h : bodyPostD Try.prog Try.f10 R (.panic c) (a.put (some t) v) w) : bodyPostD Try.prog Try.f10 R (.panic c) a w := by
  refine leaves_congr ?_ _ _ _ h
  simp [results, Try.results10, Act.put, Array.getElem?_setIfInBounds, h2, h3]
theorem set_all {vs : Array Value} {i : Nat} {v : Value} (h : vs.all (·.oneCell') = true) (hv : v.oneCell' = true) : (vs.setIfInBounds i v).all (·.oneCell') = true := by
  rw [Array.all_eq_true_iff_forall_mem] at h ⊢
  intro x hx
  obtain ⟨j, hj, hx⟩ := Array.mem_iff_getElem.1 hx
  have hj2 : j < vs.size := by simpa using hj
  rw [Array.getElem_setIfInBounds hj2] at hx
  by_cases e : i = j
  · rw [if_pos e] at hx; rw [← hx]; exact hv
  · rw [if_neg e] at hx; rw [← hx]; exact h _ (Array.getElem_mem hj2)
theorem putL_all : ∀ (os : List Nat) (xs : List Value) (vs : Array Value), vs.all (·.oneCell') = true → (∀ x ∈ xs, x.oneCell' = true) → (putL vs os xs).all (·.oneCell') = true
  | [], xs, vs, h, _ => by cases xs <;> exact h
  | o :: os, [], vs, h, _ => h
  | o :: os, v :: xs, vs, h, hx => putL_all os xs _ (set_all h (hx v (by simp))) fun x hxx => hx x (List.mem_cons_of_mem _ hxx)
theorem OwnB.one {w : World} {b : Nat} {v : Value} {l : List UInt8} (h : OwnB w b v l) : v.oneCell' = true := by obtain ⟨A, n, c, rfl⟩ := h.shapeH; rfl
theorem HasO.one {w : World} {b : Nat} {v : Value} {l : List OpS} {xs : List (Value × Value)} (h : HasO w b v l xs) : v.oneCell' = true := by
  rcases h.row.2 with ⟨rfl, _⟩ | ⟨g, cap, cur, rfl, _⟩ <;> rfl
theorem RdWr.one {w : World} {F : Nat → Prop} {v : Value} {r : List WrO} (h : RdWr w F v r) : v.oneCell' = true := by
  obtain ⟨xs, h1, ⟨_, A, c, rfl, _⟩, h3⟩ := h; rfl
theorem RdRows.one {w : World} {F : Nat → Prop} {v : Value} {r : List (List PairL)} (h : RdRows w F v r) : v.oneCell' = true := by
  obtain ⟨A, n, c, rfl⟩ := h.sl; rfl
theorem payVs_one {w : World} {b : Nat} {v1 v2 v3 : Value} {p : Pay} (h : PayV w b v1 v2 v3 p) : ∀ x ∈ payVs v1 v2 v3 p, x.oneCell' = true := by
  cases p with
  | ask x => obtain ⟨xs, h⟩ := h; intro z hz; simp only [payVs, List.mem_cons, List.not_mem_nil, or_false] at hz; rcases hz with rfl | rfl | rfl | rfl | rfl | rfl | rfl | rfl | rfl | rfl | rfl | rfl <;> first | rfl | exact h.ops.one | exact h.reply.one
  | answer x => intro z hz; simp only [payVs, List.mem_cons, List.not_mem_nil, or_false] at hz; rcases hz with rfl | rfl | rfl | rfl | rfl | rfl | rfl | rfl | rfl | rfl | rfl | rfl | rfl | rfl | rfl <;> first | rfl | exact h.out.rows.one | exact h.out.ws.one | exact h.reply.one
  | call a b c d e => obtain ⟨xs, h⟩ := h; intro z hz; simp only [payVs, List.mem_cons, List.not_mem_nil, or_false] at hz; rcases hz with rfl | rfl | rfl | rfl | rfl <;> first | rfl | exact h.one
  | reply a b c d e f g => intro z hz; simp only [payVs, List.mem_cons, List.not_mem_nil, or_false] at hz; rcases hz with rfl | rfl | rfl | rfl | rfl | rfl | rfl <;> first | rfl | exact OwnB.one h
  | doubt a b c d e => intro z hz; simp only [payVs, List.mem_cons, List.not_mem_nil, or_false] at hz; rcases hz with rfl | rfl | rfl | rfl | rfl <;> rfl
  | mend a b c => intro z hz; simp only [payVs, List.mem_cons, List.not_mem_nil, or_false] at hz; rcases hz with rfl | rfl | rfl <;> rfl
  | mended a => intro z hz; simp only [payVs, List.mem_cons, List.not_mem_nil, or_false] at hz; subst hz; rfl
  | order a b c d e f g h => intro z hz; simp only [payVs, List.mem_cons, List.not_mem_nil, or_false] at hz; rcases hz with rfl | rfl | rfl | rfl | rfl | rfl | rfl | rfl <;> rfl
  | result a b c d e => intro z hz; simp only [payVs, List.mem_cons, List.not_mem_nil, or_false] at hz; rcases hz with rfl | rfl | rfl | rfl | rfl <;> rfl
  | greet => intro z hz; simp [payVs] at hz
  | welcome a b => intro z hz; simp only [payVs, List.mem_cons, List.not_mem_nil, or_false] at hz; rcases hz with rfl | rfl <;> rfl
theorem pktA_one {w : World} {b fr tt : Nat} {v1 v2 v3 : Value} {p : Pay} (h : PayV w b v1 v2 v3 p) : (pktA fr tt p v1 v2 v3).all (·.oneCell') = true :=
  putL_all _ _ _ (putL_all _ _ _ (putL_all _ _ _ zeroP_one (fun x hx => by simp at hx; subst hx; rfl)) (fun x hx => by simp at hx; rcases hx with rfl | rfl <;> rfl)) (payVs_one h)
theorem pktA_size (fr tt : Nat) (p : Pay) (v1 v2 v3 : Value) : (pktA fr tt p v1 v2 v3).size = 65 := by simp only [pktA, putL_size]; rfl
theorem PayV.chg {w w' : World} {b : Nat} {S : Nat → Prop} {v1 v2 v3 : Value} {p : Pay} (h : PayV w b v1 v2 v3 p) (hc : Chg S w w') (hS : ∀ k, b ≤ k → k < w.heap.size → ¬ S k) : PayV w' b v1 v2 v3 p := by
  cases p with
  | ask x => obtain ⟨xs, h⟩ := h; exact ⟨xs, h.ops.chg hc hS, h.reply.chg hc (fun k hk => hS k (h.reply.lt k hk).1 (h.reply.lt k hk).2), h.kk, h.u⟩
  | answer x => exact ⟨AnsV.out h |>.chg hc hS, (AnsV.reply h).chg hc (fun k hk => hS k ((AnsV.reply h).lt k hk).1 ((AnsV.reply h).lt k hk).2), AnsV.kk h, AnsV.ke h, AnsV.u h⟩
  | call a b c d e => obtain ⟨xs, h⟩ := h; exact ⟨xs, h.chg hc hS⟩
  | reply a b c d e f g => exact OwnB.chg h hc (fun k hk => hS k (OwnB.lt h k hk).1 (OwnB.lt h k hk).2)
  | _ => trivial
theorem PayV.low {w : World} {b b' : Nat} {v1 v2 v3 : Value} {p : Pay} (h : PayV w b v1 v2 v3 p) (hb : b' ≤ b) : PayV w b' v1 v2 v3 p := by
  cases p with
  | ask x => obtain ⟨xs, h⟩ := h; exact ⟨xs, h.low hb⟩
  | answer x => exact AnsV.low h hb
  | call a b c d e => obtain ⟨xs, h⟩ := h; exact ⟨xs, h.low hb⟩
  | reply a b c d e f g => exact OwnB.low h hb
  | _ => trivial
theorem openBad {v : Value} {b l y : List UInt8} {eo : Int} {F0 : Nat → Prop} (ho : openR b = (l, y, eo)) (he : eo ≠ 0) (hl : b.length ≤ 100000000) (w : World) (hr : RdB w F0 v b) :
    Calls Try.prog 30 #[v, .int .i64 0] w fun e w' => ∃ u, e = .returned (.tuple #[u, .int .i64 0, .int .i64 eo]) ∧ OwnB w' w.heap.size u [] ∧ Chg Non w w' := by
  have h := open_at ho
  rw [if_neg he] at h
  have := parityOpen (at_ := 0) hr (by omega)
  rw [h] at this
  exact this
theorem openGood {v : Value} {b l y : List UInt8} {F0 : Nat → Prop} (ho : openR b = (l, y, 0)) (hl : b.length ≤ 100000000) (w : World) (hr : RdB w F0 v b) :
    Calls Try.prog 30 #[v, .int .i64 0] w fun e w' => ∃ u, e = .returned (.tuple #[u, .int .i64 ((b.length : Int) - y.length), .int .i64 0]) ∧ OwnB w' w.heap.size u l ∧ Chg Non w w' := by
  have h := open_at ho
  rw [if_pos rfl] at h
  have := parityOpen (at_ := 0) hr (by omega)
  rw [h] at this
  exact this

theorem read_one {b l : List UInt8} {a : Nat} {e : Int} {v : PktT} (h : openR b = (l, [], 0)) (ht : Took DPkt EPkt l 0 0 v a e) : ∀ v0, DPkt v0 → (EPkt v0).length ≤ 1048576 → b = sealB (EPkt v0) → v0 = v :=
  fun v0 hd hl e0 => (ht.det rfl v0 [] hd (by rw [List.append_nil]; exact open_is h hl e0)).2.1.symm
set_option maxHeartbeats 16000000 in
set_option maxRecDepth 100000 in
theorem rpcRead2 {v : Value} {b : List UInt8} {F0 : Nat → Prop} {w : World} (hr : RdB w F0 v b) (hl : b.length ≤ 100000000) :
    Calls Try.prog 10 #[v] w fun e w' => Chg Non w w' ∧
      ((∃ (fr tt : Nat) (p : Pay) (v1 v2 v3 : Value), e = .returned (.tuple #[.agg (pktA fr tt p v1 v2 v3), .int .i64 0]) ∧ PayV w' w.heap.size v1 v2 v3 p ∧ DPkt (fr, tt, p) ∧ b = sealB (pktB fr tt p) ∧ (pktB fr tt p).length ≤ 1048576 ∧ ∀ v0, DPkt v0 → (EPkt v0).length ≤ 1048576 → b = sealB (EPkt v0) → v0 = (fr, tt, p)) ∨
      (∃ er : Int, er ≠ 0 ∧ e = .returned (.tuple #[.agg zeroP, .int .i64 er]) ∧ NoPkt b)) := by
  obtain ⟨l, y, eo, ho⟩ : ∃ l y eo, openR b = (l, y, eo) := ⟨_, _, _, rfl⟩
  have hlen8 := fun (w' : World) (ty : TypeId) => run_len8 hr w' ty
  have hmf : ∀ (fn : Fn) (first cap : Array Value) (w : World), (Instr.makeFunc fn first cap).run Try.prog w = .ok (.func fn first cap) w := fun _ _ _ _ => rfl
  have hPa := Blk.new w 63 zeroP
  have hcA := (Chg.refl Non w).alloc (.cells zeroP 63)
  have hsA : (w.alloc (.cells zeroP 63)).heap.size = w.heap.size + 1 := by simp
  have hQa := Blk.new (w.alloc (.cells zeroP 63)) 39 #[.int .i64 0]
  have hcB := (Chg.refl Non (w.alloc (.cells zeroP 63))).alloc (.cells #[.int .i64 0] 39)
  have hsB : ((w.alloc (.cells zeroP 63)).alloc (.cells #[.int .i64 0] 39)).heap.size = w.heap.size + 2 := by simp
  rw [hsA] at hQa
  have hPb := hPa.c0 hcB
  have hcW := hcA.trans0 hcB
  clear hPa hcA hsA hcB
  have hzz : (Try.zeroCells63 : Array Value) = zeroP := rfl
  go_enter_defers Try.func10, Try.ntmps10
  go_upto_region 1 with fail
  try rw [hzz]
  clear hzz
  generalize (w.alloc (.cells zeroP 63)).alloc (.cells #[.int .i64 0] 39) = w0 at hQa hsB hPb hcW ⊢
  obtain ⟨p, hp⟩ : ∃ p, p = w.heap.size := ⟨_, rfl⟩
  obtain ⟨q, hq⟩ : ∃ q, q = w.heap.size + 1 := ⟨_, rfl⟩
  rw [← hq] at hQa
  rw [← hp] at hPb
  rw [← hq, ← hp]
  have HPQ := hide (And.intro hp (And.intro hq hsB))
  have hpq : p ≠ q := by omega
  have hr0 := hr.c0 hcW
  clear hp hq hsB
  by_cases he : eo = 0
  · subst he
    have hob := openR_inv ho
    obtain ⟨nx, hnx⟩ : ∃ nx : Int, nx = (b.length : Int) - y.length := ⟨_, rfl⟩
    have hc0 := openGood ho hl w0 hr0
    rw [← hnx] at hc0
    have HC := hide hc0
    have HO := hide (And.intro ho (And.intro hob hnx))
    clear ho hob hc0 hnx
    go_upto_region 3 with (go_at_call 30; refine HC.out.mono ?_; rintro e w1 ⟨u, rfl, hu, hc1⟩; have y1 := (show w1.cell? ⟨q, 0, none⟩ = some (.int .i64 0) from (hQa.c0 hc1).cell 0); have y2 := (hQa.c0 hc1).frozen 0; obtain ⟨U, un, uc, rfl⟩ := hu.shapeH)
    have hQ2 : Blk (w1.setCell ⟨q, 0, none⟩ (.int .i64 0)) q 39 #[.int .i64 0] := (hQa.c0 hc1).set_ 0 _
    have hP2 := (hPb.c0 hc1).far (p := ⟨q, 0, none⟩) hpq (.int .i64 0)
    have hcs := (Chg.refl (fun k => k = q) w1).setCell (p := ⟨q, 0, none⟩) (fun _ => rfl) (.int .i64 0)
    have hc2 : Chg Non w (w1.setCell ⟨q, 0, none⟩ (.int .i64 0)) := Chg.setCell (hcW.trans0 hc1) (p := ⟨q, 0, none⟩) (fun h => by have h2 : q < w.heap.size := h; have := HPQ.out; omega) _
    have hsz0 : w0.heap.size ≤ (w1.setCell ⟨q, 0, none⟩ (.int .i64 0)).heap.size := by simp [World.setCell]; exact hc1.size
    have hu2 := hu.chg hcs (fun k hk e => by have := (hu.lt k hk).1; have := HPQ.out; omega)
    clear y1 y2 hu hc1 hQa hPb hcW HC hr0 hcs
    generalize World.setCell _ _ _ = w2 at hQ2 hP2 hc2 hu2 hsz0 ⊢
    have y1 : w2.cell? ⟨q, 0, none⟩ = some (.int .i64 0) := hQ2.cell 0
    have HU2 := hide hu2
    clear hu2
    by_cases hy : 0 < y.length
    · have hd : decide (nx < (b.length : Int)) = true := decide_eq_true (by have := HO.out.2.2; omega)
      have HN := hide (read_more HO.out.1 hy)
      clear hy
      go_wp2_with (first | (refine Great.wpList_readTo rfl (some 23) rfl (.agg zeroP) (by kernel_rfl) ?_) | (refine wpList_store_pkt rfl (.tmp 2) (.tmp 23) rfl p zeroP rfl rfl _ hP2 zeroP_size zeroP_size zeroP_one fun w9 hP9 hc9 => ?_; have hQ9 := Blk.chg hQ2 hc9 (fun e => hpq e.symm); have y9 := (show w9.cell? ⟨q, 0, none⟩ = some (.int .i64 0) from hQ9.cell 0); have z9 := hQ9.frozen 0))
      refine leaves_cons (f := 29) (args := #[.pointer (some ⟨p, 0, none⟩), .pointer (some ⟨q, 0, none⟩)]) (by simp) (by simp [go_sem]) ?_
      refine catch_none.mono ?_
      rintro e u' w' ⟨rfl, rfl, rfl⟩
      exact ⟨_, res_read (hP9.far (p := ⟨q, 0, none⟩) hpq _) zeroP_size (hQ9.set_ 0 (.int .i64 3)) rfl rfl, Chg.setCell (Chg.trans hc2 hc9 (fun k hk e => by have := HPQ.out; omega)) (p := ⟨q, 0, none⟩) (fun h => by have h2 : q < w.heap.size := h; have := HPQ.out; omega) _, .inr ⟨3, by decide, rfl, HN.out⟩⟩
    · have hd : decide (nx < (b.length : Int)) = false := decide_eq_false (by have := HO.out.2.2; omega)
      have hy0 : y = [] := List.eq_nil_of_length_eq_zero (by omega)
      subst hy0
      have hlm : l.length ≤ 1048576 := HO.out.2.1.1
      clear hy
      have HRD := hide (packReadF HU2.out.rd (by omega))
      go_upto_region 8 with (go_at_call 31; refine HRD.out.mono ?_; rintro e w3 ⟨g, rfl, hg, hrd, hc3⟩)
      clear HRD hd y1
      have hX := Blk.new w3 101 #[.slice none 0 0, .pointer (some ⟨g, 0, none⟩)]
      have hcA := (Chg.refl Non w3).alloc (.cells #[.slice none 0 0, .pointer (some ⟨g, 0, none⟩)] 101)
      have hgl := hrd.lt
      have hPx := (hP2.c0 hc3).c0 hcA
      have hQx := (hQ2.c0 hc3).c0 hcA
      have hrx := hrd.c0 hcA
      have hcx := (hc2.trans0 hc3).trans0 hcA
      have hsz3 := hc3.size
      have HUl := hide (fun k (hk : Value.ownBlock (Value.slice U un uc) = some k) => HU2.out.lt k hk)
      obtain ⟨x, hx⟩ : ∃ x, x = w3.heap.size := ⟨_, rfl⟩
      rw [← hx] at hX ⊢
      have hXl := hX.lt
      generalize World.alloc _ _ = w4 at hX hPx hQx hrx hcx hXl hcA ⊢
      have hpl : p < w2.heap.size := hP2.lt
      have hql : q < w2.heap.size := hQ2.lt
      have hW : WRd w4 (fun k => w2.heap.size ≤ k ∧ k < g) x g l 0 0 := ⟨hX, hrx, by omega, by omega, fun k hk => hk.2⟩
      have hfr : Free (fun k => w2.heap.size ≤ k ∧ k < g) x g p := ⟨fun h => by omega, by omega, by omega⟩
      have hqx : q ≠ p ∧ q ≠ g := ⟨fun e => hpq e.symm, by omega⟩
      have hszx := hcx.size
      have HXX := hide (And.intro hx (And.intro hg (And.intro hgl hsz3)))
      have h4s : w3.heap.size ≤ w4.heap.size := hcA.size
      clear hX hrx hrd hc3 hcA hP2 hQ2 hc2 hx hg hgl hsz3 hXl hszx
      have HPK := hide (rvPacket hW hPx hfr)
      clear hW hPx hfr
      go_upto_region 8 with fail
      go_upto_region 10 with (first | (go_at_call 26; refine HPK.out.mono ?_; rintro e w5 (⟨rfl, fr, tt, pk, v1, v2, v3, a5, e5, hW5, hV5, hP5, hc5, hT5⟩ | ⟨rfl, hno, ⟨q5, hq5, hs5⟩, hc5⟩ | ⟨er5, he5, rfl, hno, ⟨q5, hq5, hs5⟩, hc5⟩)) | (refine Great.wpList_readTo rfl (some 31) rfl (.agg zeroP) (by kernel_rfl) ?_) | (refine wpList_store_pkt rfl (.tmp 2) (.tmp 31) rfl p zeroP rfl rfl _ hq5 (show q5.size = 65 from hs5) zeroP_size zeroP_one fun w9 hP9 hc9 => ?_; have hQ9 := Blk.chg (Blk.chg hQx hc5 (fun h => by rcases h with h | h; exact hqx.2 h; exact hqx.1 h)) hc9 (fun e => hpq e.symm); have y9 := (show w9.cell? ⟨q, 0, none⟩ = some (.int .i64 0) from hQ9.cell 0); have z9 := hQ9.frozen 0))
      · have hQ5 := hQx.chg hc5 (fun h => by rcases h with h | h; exact hqx.2 h; exact hqx.1 h)
        have HC5 := hide (hcx.trans hc5 (fun k hk h => by have := HPQ.out; have := HXX.out; omega))
        have k5 := hW5.k1
        obtain ⟨er, her⟩ : ∃ er, er = closeR l a5 e5 := ⟨_, rfl⟩
        have HCL := hide (rdrClose hW5.rd)
        rw [← her] at HCL
        have HER := hide her
        have HT5 := hide hT5
        have HV5 := hide hV5
        have hs5 := pktA_size fr tt pk v1 v2 v3
        have ho5 := pktA_one (fr := fr) (tt := tt) hV5
        have hl5 := hc5.size
        obtain ⟨arr, harr⟩ : ∃ arr, arr = pktA fr tt pk v1 v2 v3 := ⟨_, rfl⟩
        rw [← harr] at hP5 hs5 ho5
        have HAR := hide harr
        clear her hT5 hV5 hc5 hW5 HPK hQx hcx harr
        by_cases hz : er = 0
        · subst hz
          have HOK := hide (read_ok HO.out.1 HT5.out HER.out.symm)
          go_wp2_with (first | (go_at_call 32; refine HCL.out.mono ?_; rintro e w6 ⟨rfl, k6, rfl⟩) | (refine wpList_load_row rfl 63 (.tmp 2) rfl p rfl 63 arr (0, 0) _ (hP5.dn k6) Try.underlying63 rfl (by rw [hs5]; exact info_pkt) ?_) | (refine wpList_store_pkt rfl (.tmp 2) (.tmp 41) rfl p arr rfl rfl _ (hP5.dn k6) hs5 hs5 ho5 fun w9 hP9 hc9 => ?_; have hQ9 := Blk.chg (hQ5.dn k6) hc9 (fun e => hpq e.symm); have y9 := (show w9.cell? ⟨q, 0, none⟩ = some (.int .i64 0) from hQ9.cell 0); have z9 := hQ9.frozen 0))
          refine leaves_cons (f := 29) (args := #[.pointer (some ⟨p, 0, none⟩), .pointer (some ⟨q, 0, none⟩)]) (by simp) (by simp [go_sem]) ?_
          refine catch_none.mono ?_
          rintro e u' w' ⟨rfl, rfl, rfl⟩
          have hcf : Chg (fun k => k = p ∨ k = q) w5 (w9.setCell ⟨q, 0, none⟩ (.int .i64 0)) := Chg.setCell ((((Chg.refl (fun k => k = p ∨ k = q) w5).drewN k6)).trans hc9 fun _ _ h => .inl h) (p := ⟨q, 0, none⟩) (fun _ => .inr rfl) _
          have hPf := hP9.far (p := ⟨q, 0, none⟩) hpq (.int .i64 0)
          refine ⟨_, res_read hPf hs5 (hQ9.set_ 0 (.int .i64 0)) rfl rfl, ?_, .inl ⟨fr, tt, pk, v1, v2, v3, by rw [HAR.out], ?_, HOK.out.1, HOK.out.2.1, HOK.out.2.2, read_one HO.out.1 HT5.out⟩⟩
          · exact HC5.out.trans hcf (fun k hk e => by have := HPQ.out; omega)
          · exact (HV5.out.chg hcf (fun k h1 h2 e => by have := HXX.out; omega)).low (by have := HPQ.out; have := HXX.out; omega)
        · have HNO := hide (read_close HO.out.1 HT5.out (fun e => hz (HER.out.trans e)))
          have hne : (er != 0) = true := by simp [hz]
          have HZ := hide hz
          clear hz
          go_wp2_with (first | (go_at_call 32; refine HCL.out.mono ?_; rintro e w6 ⟨rfl, k6, rfl⟩) | (refine Great.wpList_readTo rfl (some 39) rfl (.agg zeroP) (by kernel_rfl) ?_) | (refine wpList_store_pkt rfl (.tmp 2) (.tmp 39) rfl p zeroP rfl rfl _ (hP5.dn k6) hs5 zeroP_size zeroP_one fun w9 hP9 hc9 => ?_; have hQ9 := Blk.chg (hQ5.dn k6) hc9 (fun e => hpq e.symm); have y9 := (show w9.cell? ⟨q, 0, none⟩ = some (.int .i64 0) from hQ9.cell 0); have z9 := hQ9.frozen 0))
          refine leaves_cons (f := 29) (args := #[.pointer (some ⟨p, 0, none⟩), .pointer (some ⟨q, 0, none⟩)]) (by simp) (by simp [go_sem]) ?_
          refine catch_none.mono ?_
          rintro e u' w' ⟨rfl, rfl, rfl⟩
          have hcf : Chg (fun k => k = p ∨ k = q) w5 (w9.setCell ⟨q, 0, none⟩ (.int .i64 er)) := Chg.setCell ((((Chg.refl (fun k => k = p ∨ k = q) w5).drewN k6)).trans hc9 fun _ _ h => .inl h) (p := ⟨q, 0, none⟩) (fun _ => .inr rfl) _
          have hPf := hP9.far (p := ⟨q, 0, none⟩) hpq (.int .i64 er)
          exact ⟨_, res_read hPf zeroP_size (hQ9.set_ 0 (.int .i64 er)) rfl rfl, HC5.out.trans hcf (fun k hk e => by have := HPQ.out; omega), .inr ⟨er, HZ.out, rfl, HNO.out⟩⟩
      · have HC5 := hide (hcx.trans hc5 (fun k hk h => by have := HPQ.out; have := HXX.out; omega))
        have HNO := hide (read_fell HO.out.1 hno)
        refine leaves_cons (f := 29) (args := #[.pointer (some ⟨p, 0, none⟩), .pointer (some ⟨q, 0, none⟩)]) (by simp) (by simp [go_sem]) ?_
        refine catch_none.mono ?_
        rintro e u' w' ⟨rfl, rfl, rfl⟩
        exact ⟨_, res_read (hP9.far (p := ⟨q, 0, none⟩) hpq _) zeroP_size (hQ9.set_ 0 (.int .i64 3)) rfl rfl, Chg.setCell (Chg.trans HC5.out hc9 (fun k hk e => by have := HPQ.out; omega)) (p := ⟨q, 0, none⟩) (fun h => by have h2 : q < w.heap.size := h; have := HPQ.out; omega) _, .inr ⟨3, by decide, rfl, HNO.out⟩⟩
      · have hQ5 := hQx.chg hc5 (fun h => by rcases h with h | h; exact hqx.2 h; exact hqx.1 h)
        have hcw := hcx.trans hc5 (fun k hk h => by have := HPQ.out; have := HXX.out; omega)
        refine leaves_cons (f := 29) (args := #[.pointer (some ⟨p, 0, none⟩), .pointer (some ⟨q, 0, none⟩)]) (by simp) (by simp [go_sem]) ?_
        refine (catch_panics hq5 hs5 hQ5 hpq).mono ?_
        rintro e u' w' ⟨rfl, rfl, hP9, hQ9, hc9⟩
        exact ⟨_, res_read hP9 zeroP_size hQ9 rfl rfl, hcw.trans hc9 (fun k hk h => by have := HPQ.out; omega), .inr ⟨er5, he5, rfl, read_fell HO.out.1 hno⟩⟩
  · have HO := hide (read_bad ho he)
    have HC := hide (openBad ho he hl w0 hr0)
    have hne : (eo != 0) = true := by simp [he]
    have HE := hide he
    clear ho he
    go_upto_region 3 with (go_at_call 30; refine HC.out.mono ?_; rintro e w1 ⟨u, rfl, hu, hc1⟩; have y1 := (show w1.cell? ⟨q, 0, none⟩ = some (.int .i64 0) from (hQa.c0 hc1).cell 0); have y2 := (hQa.c0 hc1).frozen 0; obtain ⟨U, un, uc, rfl⟩ := hu.shapeH)
    have hQ2 : Blk (w1.setCell ⟨q, 0, none⟩ (.int .i64 eo)) q 39 #[.int .i64 eo] := (hQa.c0 hc1).set_ 0 _
    have hP2 := (hPb.c0 hc1).far (p := ⟨q, 0, none⟩) hpq (.int .i64 eo)
    have hc2 : Chg Non w (w1.setCell ⟨q, 0, none⟩ (.int .i64 eo)) := Chg.setCell (hcW.trans0 hc1) (p := ⟨q, 0, none⟩) (fun h => by have h2 : q < w.heap.size := h; have := HPQ.out; omega) _
    clear y1 y2 hu hc1 hQa hPb hcW HC hr0
    generalize World.setCell _ _ _ = w2 at hQ2 hP2 hc2 ⊢
    have y1 : w2.cell? ⟨q, 0, none⟩ = some (.int .i64 eo) := hQ2.cell 0
    go_upto_region 4 with fail
    obtain ⟨S, hSd⟩ : ∃ S : World → Prop, ∀ w', S w' ↔ w'.cell? ⟨q, 0, none⟩ = some (.int .i64 eo) := ⟨_, fun _ => Iff.rfl⟩
    have HSd := hide hSd
    have HS := hide ((hSd w2.drew).2 y1)
    clear hSd
    refine wp_region_T S 99 (by kernel_rfl) ?_
    refine AnyT.take (i := 0) (v := .agg zeroP) rfl (by kernel_rfl) (by kernel_rfl) (fun _ _ _ h => panic_put (by decide) (by decide) h) (by kernel_rfl) (by kernel_rfl) (Or.inl ⟨by rfl, fun w9 _ => ?_⟩) HS.out ?_
    · kernel_rfl
    try simp only [getElem_toArray, getElem_cons_succ, getElem_cons_zero, Act.put, setIfInBounds_toArray, set_cons_zero, set_cons_succ]
    refine AnyT.take (i := 1) (v := ?_) rfl (by kernel_rfl) (by kernel_rfl) (fun _ _ _ h => panic_put (by decide) (by decide) h) (by kernel_rfl) (by kernel_rfl) (Or.inl ⟨by rfl, ?_⟩) HS.out ?_
    rotate_left
    · (intro w9 h9; have y0 := (HSd.out _).1 h9; go_simp; try with_reducible rfl)
    try simp only [getElem_toArray, getElem_cons_succ, getElem_cons_zero, Act.put, setIfInBounds_toArray, set_cons_zero, set_cons_succ]
    refine AnyT.one (i := 2) (by kernel_rfl) rfl (fun K hK => ?_)
    rw [if_pos (by rfl)]
    try simp only [getElem_toArray, getElem_cons_succ, getElem_cons_zero, Act.put, setIfInBounds_toArray, set_cons_zero, set_cons_succ]
    refine wp_store_pkt (.tmp 2) (.tmp 17) rfl p zeroP rfl rfl zeroP hP2 zeroP_size zeroP_size zeroP_one fun w3 hP3 hc3 => ?_
    have hc3 := ((Chg.refl (fun k => k = p) w2).drew).trans hc3 fun _ _ h => h
    have hQ3 := hQ2.chg hc3 (fun e => hpq e.symm)
    have y3 : w3.cell? ⟨q, 0, none⟩ = some (.int .i64 eo) := hQ3.cell 0
    have z3 := hQ3.frozen 0
    refine hK.out _ _ (fun _ => (HSd.out _).2 y3) ?_
    clear hK K
    try simp only [getElem_toArray, getElem_cons_succ, getElem_cons_zero, Act.put, setIfInBounds_toArray, set_cons_zero, set_cons_succ]
    have hc4 := hc2.trans hc3 (fun k hk e => by have := HPQ.out; omega)
    clear y1 hQ2 hP2 hc2 hc3
    refine AnyT.one (i := 3) (by kernel_rfl) rfl (fun K hK => ?_)
    rw [if_pos (by rfl)]
    try simp only [getElem_toArray, getElem_cons_succ, getElem_cons_zero, Act.put, setIfInBounds_toArray, set_cons_zero, set_cons_succ]
    go_simp
    have hQ4 := hQ3.set_ 0 (.int .i64 eo)
    have hP4 := hP3.far (p := ⟨q, 0, none⟩) hpq (.int .i64 eo)
    have hc5 : Chg Non w (w3.setCell ⟨q, 0, none⟩ (.int .i64 eo)) := Chg.setCell hc4 (p := ⟨q, 0, none⟩) (fun h => by have h2 : q < w.heap.size := h; have := HPQ.out; omega) _
    refine hK.out _ _ (fun _ => (HSd.out _).2 (hQ4.cell 0)) ?_
    clear hK K
    try simp only [getElem_toArray, getElem_cons_succ, getElem_cons_zero, Act.put, setIfInBounds_toArray, set_cons_zero, set_cons_succ]
    refine AnyT.nil (by kernel_rfl) ?_
    go_wp2_with fail
    refine leaves_cons (f := 29) (args := #[.pointer (some ⟨p, 0, none⟩), .pointer (some ⟨q, 0, none⟩)]) (by simp) (by simp [go_sem]) ?_
    refine catch_none.mono ?_
    rintro e u' w' ⟨rfl, rfl, rfl⟩
    exact ⟨_, res_read hP4 zeroP_size hQ4 rfl rfl, hc5, .inr ⟨eo, HE.out, rfl, HO.out⟩⟩
theorem rpcRead {v : Value} {b : List UInt8} {F0 : Nat → Prop} {w : World} (hr : RdB w F0 v b) (hl : b.length ≤ 100000000) :
    Calls Try.prog 10 #[v] w fun e w' => Chg Non w w' ∧
      ((∃ (fr tt : Nat) (p : Pay) (v1 v2 v3 : Value), e = .returned (.tuple #[.agg (pktA fr tt p v1 v2 v3), .int .i64 0]) ∧ PayV w' w.heap.size v1 v2 v3 p ∧ DPkt (fr, tt, p) ∧ b = sealB (pktB fr tt p) ∧ (pktB fr tt p).length ≤ 1048576) ∨
      (∃ er : Int, er ≠ 0 ∧ e = .returned (.tuple #[.agg zeroP, .int .i64 er]) ∧ NoPkt b)) := by
  refine (rpcRead2 hr hl).mono ?_
  rintro e w' ⟨hc, h⟩
  rcases h with ⟨fr, tt, p, v1, v2, v3, h1, h2, h3, h4, h5, _⟩ | h
  · exact ⟨hc, .inl ⟨fr, tt, p, v1, v2, v3, h1, h2, h3, h4, h5⟩⟩
  · exact ⟨hc, .inr h⟩
end Go.Proofs.Ytncchbcoldgpbaa
