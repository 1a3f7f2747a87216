/- rpc's client: a packet of one operation, of its own. -/
import Derived.Test.YtncchbcoldgpbaaClM
import Derived.Test.YtncchbcoldgpbaaSentO
import Derived.LoopN
import Derived.Test.YtncchbcoldgpbaaApM
open List (getElem_toArray getElem_cons_succ getElem_cons_zero setIfInBounds_toArray set_cons_zero set_cons_succ)
namespace Go.Proofs.Ytncchbcoldgpbaa
open Go.RowKit
set_option linter.unusedVariables false
set_option linter.unusedSimpArgs false
theorem info_op1 : (Try.prog.info? 85).map (fun i => (i.size, i.bytes)) = some (4, 64) := by kernel_rfl
theorem own_zO (w : World) : (w.alloc (.cells #[] 85)).ownsRow w.heap.size 85 4 (.slice (some ⟨w.heap.size, 0, none⟩) 0 0) 0 [] :=
  World.ownsRow_lit (size := 4) w #[] 0 (Nat.le_refl _) (by simp [maxLen]) rfl
set_option maxHeartbeats 400000 in
theorem cloneO {ad : Addr} {c n : Nat} {xs : List Value} {F : Nat → Prop} {w : World} (hr : RdV w F 4 (.slice (some ad) n c) n xs) (h1 : ∀ u ∈ xs, u.oneCell' = true) (hl : n ≤ 1000000000000) :
    Calls Try.prog 70 #[.slice (some ad) n c] w fun e w' => ∃ u, e = .returned u ∧ w'.ownsRow w.heap.size 85 4 u n xs ∧ Chg Non w w' := by
  have h0 := fun w => Lib.run_eql_slice_nil (P := Try.prog) w 25 85 (some ad) n c 0 0 Try.underlying25
  obtain ⟨i, hi, hz, hs1, hs2⟩ := info_parts info_op
  go_enter Try.func70, Try.ntmps70
  go_wp2_with (at_builtin; refine wpList_append_rd _ rfl _ _ _ rfl w.heap.size 85 i _ 4 64 Try.underlying25 hi hz hs1 hs2 rfl (by omega) (.slice (some ⟨w.heap.size, 0, none⟩) 0 0) rfl _ _ (own_zO w) _ _ rfl _ _ (hr.chg ((Chg.refl Non w).alloc _) (fun _ _ h => h)) h1 (by simp only [maxLen]; omega) (by omega) ((Chg.refl Non w).alloc _).size ?_; intro v1 w1 hown1 hg1 _ hat1)
  go_ret
  simp only [Nat.zero_add, List.nil_append] at hown1
  exact ⟨v1, rfl, hown1, ((Chg.refl Non w).alloc _).own hg1 (by simp [Value.ownBlock])⟩
/-- a row of the call's own of one operation: its block -/
theorem row1 {w : World} {base : Nat} {v a b c d : Value} (h : w.ownsRow base 85 4 v 1 [a, b, c, d]) : ∃ g cp cur, v = .slice (some ⟨g, 0, none⟩) 1 cp ∧ base ≤ g ∧ Blk w g 85 cur ∧ cur.toList.take 4 = [a, b, c, d] ∧ 1 ≤ cp ∧ cp ≤ maxLen ∧ cur.size = cp * 4 := by
  rcases h.2 with ⟨_, h2⟩ | ⟨g, cap, cur, h2, h3, h4, h5, h6, h7, h8⟩
  · omega
  · exact ⟨g, cap, cur, h2, h3, h4, h8, h5, h6, h7⟩
theorem mkRow1 {w : World} {base g cp : Nat} {cur : Array Value} {a b c d : Value} (hb : base ≤ g) (h : Blk w g 85 cur) (h4 : cur.toList.take 4 = [a, b, c, d]) (h1 : 1 ≤ cp) (h2 : cp ≤ maxLen) (h3 : cur.size = cp * 4) : w.ownsRow base 85 4 (.slice (some ⟨g, 0, none⟩) 1 cp) 1 [a, b, c, d] :=
  ⟨rfl, .inr ⟨g, cp, cur, rfl, hb, h, h1, h2, h3, h4⟩⟩
theorem take4 {cur : Array Value} {a b c d : Value} (h : cur.toList.take 4 = [a, b, c, d]) : cur[0]? = some a ∧ cur[1]? = some b ∧ cur[2]? = some c ∧ cur[3]? = some d := by
  have e : ∀ i, i < 4 → cur[i]? = [a, b, c, d][i]? := fun i hi => by
    rw [← h, List.getElem?_take, if_pos hi, Array.getElem?_toList]
  exact ⟨e 0 (by omega), e 1 (by omega), e 2 (by omega), e 3 (by omega)⟩
theorem set4 {cur : Array Value} {a b c d p q : Value} (h : cur.toList.take 4 = [a, b, c, d]) : ((cur.setIfInBounds 1 p).setIfInBounds 2 q).toList.take 4 = [a, p, q, d] := by
  rw [Array.toList_setIfInBounds, Array.toList_setIfInBounds, List.take_set, List.take_set, h]
  rfl
theorem op_row {w : World} {F : Nat → Prop} {v : Value} {o : OpS} (hr : RdOs w F v [o]) : ∃ (ad : Addr) (c : Nat) (p q : Value), v = .slice (some ad) 1 c ∧ RdV w F 4 v 1 [.int .i64 o.kind, p, q, .int .i64 o.most] ∧ RdB w F p o.key ∧ RdB w F q o.val := by
  obtain ⟨xs, h1, h2, h3⟩ := hr
  match xs, h1 with
  | [(p, q)], _ =>
    obtain ⟨_, A, c, e, _, _, h4⟩ := id h2
    obtain ⟨ad, ea, _⟩ := h4 (by simp)
    obtain ⟨r1, r2⟩ := h3 0 (p, q) o rfl rfl
    exact ⟨ad, c, p, q, by rw [e, ea]; rfl, h2, r1, r2⟩

set_option maxHeartbeats 16000000 in
set_option maxRecDepth 100000 in
theorem twin1 {arr : Array Value} {v : Value} {o : OpS} {F : Nat → Prop} {w : World} (hs : arr.size = 65) (h1 : arr.all (·.oneCell') = true) (h42 : arr[42]? = some v) (hr : RdOs w F v [o]) (hk : o.key.length ≤ 1000000000) (hv : o.val.length ≤ 1000000000) (hF : ∀ k, F k → k < w.heap.size) :
    Calls Try.prog 46 #[.agg arr] w fun e w' => ∃ (u : Value) (xs : List (Value × Value)), e = .returned (.agg (arr.setIfInBounds 42 u)) ∧ HasO w' w.heap.size u [o] xs ∧ Chg Non w w' := by
  obtain ⟨ad, cv, P, Q, rfl, hrow, hp0, hq0⟩ := op_row hr
  obtain ⟨P, np, cp, rfl⟩ : ∃ A m c, P = .slice A m c := by obtain ⟨A, c, e, _⟩ := hp0.shape; exact ⟨A, _, c, e⟩
  obtain ⟨R, nq, cq, rfl⟩ : ∃ A m c, Q = .slice A m c := by obtain ⟨A, c, e, _⟩ := hq0.shape; exact ⟨A, _, c, e⟩
  have hX := Blk.new w 63 arr
  have hcA := (Chg.refl Non w).alloc (.cells arr 63)
  have hsA : (w.alloc (.cells arr 63)).heap.size = w.heap.size + 1 := by simp
  have hY := Blk.new (w.alloc (.cells arr 63)) 63 zeroP
  have hcB := (Chg.refl Non (w.alloc (.cells arr 63))).alloc (.cells zeroP 63)
  have hXB := hX.c0 hcB
  have hcW := hcA.trans0 hcB
  rw [hsA] at hY
  have HS := hide (And.intro hs (And.intro h1 h42))
  have HKV := hide (And.intro hk hv)
  clear hX hcA hcB hs h1 h42 hk hv hr
  go_enter Try.func46, Try.ntmps46
  go_upto_region 1 with fail
  have hzz : (Try.zeroCells63 : Array Value) = zeroP := rfl
  try rw [hzz]
  clear hzz hsA
  generalize World.alloc (World.alloc w _) _ = w0 at hY hXB hcW ⊢
  obtain ⟨p, hp⟩ : ∃ p, p = w.heap.size := ⟨_, rfl⟩
  obtain ⟨q, hq⟩ : ∃ q, q = w.heap.size + 1 := ⟨_, rfl⟩
  rw [← hq] at hY
  rw [← hp] at hXB
  rw [← hq, ← hp]
  have HPQ := hide (And.intro hp hq)
  have hpq : p ≠ q := by omega
  have hql := hY.lt
  have hpl := hXB.lt
  clear hp hq
  have c42 : w0.cell? ⟨p, 42, none⟩ = some (.slice (some ad) 1 cv) := (hXB.cell 42).trans HS.out.2.2
  have f42 := hXB.frozen 42
  have hrow0 := hrow.chg hcW fun _ _ h => h
  have h1c : ∀ u ∈ [Value.int .i64 o.kind, .slice P np cp, .slice R nq cq, .int .i64 o.most], u.oneCell' = true := by simp [Value.oneCell']
  go_upto_region 2 with (go_at_call 70; refine (cloneO hrow0 h1c (by omega)).mono ?_; rintro e w1 ⟨u0, rfl, hown, hd1⟩; obtain ⟨g0, cg, cur, rfl, hg0, hG, htk, hcg1, hcg2, hcur⟩ := row1 hown; have c42 := hd1.cell c42 (fun h => h); have f42 := (hXB.c0 hd1).frozen 42)
  have hgl := hG.lt
  have hX2 := (hXB.c0 hd1).set_ 42 (.slice (some ⟨g0, 0, none⟩) 1 cg)
  have hd2 : Chg (fun k => k = p) w1 (w1.setCell ⟨p, 42, none⟩ (.slice (some ⟨g0, 0, none⟩) 1 cg)) := Chg.setCell (S := fun k => k = p) (Chg.refl _ w1) (p := ⟨p, 42, none⟩) (fun _ => rfl) _
  have hY2 := (hY.c0 hd1).chg hd2 (fun e => hpq e.symm)
  have hG2 := hG.chg hd2 (fun e => by omega)
  have hcw2 : Chg Non w _ := (hcW.trans0 hd1).trans hd2 fun k hk e => by have := HPQ.out; omega
  have hs12 := hd1.size
  clear c42 f42 hXB hcW hrow0 h1c hown hd1 hG hY hd2
  generalize World.setCell w1 _ _ = w2 at hX2 hY2 hG2 hcw2 ⊢
  obtain ⟨arr2, harr2⟩ : ∃ a, a = arr.setIfInBounds 42 (.slice (some ⟨g0, 0, none⟩) 1 cg) := ⟨_, rfl⟩
  rw [← harr2] at hX2
  have hs2 : arr2.size = 65 := by rw [harr2, Array.size_setIfInBounds]; exact HS.out.1
  have h12 : arr2.all (·.oneCell') = true := by rw [harr2]; exact set_all HS.out.2.1 rfl
  have e42 : arr2[42]? = some (.slice (some ⟨g0, 0, none⟩) 1 cg) := by rw [harr2, Array.getElem?_setIfInBounds_self_of_lt (by have := HS.out.1; omega)]
  have HA2 := hide harr2
  have HE := hide (And.intro hs2 (And.intro h12 e42))
  clear harr2 hs2 h12 e42
  obtain ⟨t0, t1, t2, t3⟩ := take4 htk
  have HT := hide htk
  have HCU := hide (And.intro hcur (And.intro hcg1 hcg2))
  have y0 : w2.cell? ⟨p, 42, none⟩ = some (.slice (some ⟨g0, 0, none⟩) 1 cg) := (hX2.cell 42).trans HE.out.2.2
  have r0 : w2.cell? ⟨g0, 0, none⟩ = some (.int .i64 o.kind) := (hG2.cell 0).trans t0
  have r1 : w2.cell? ⟨g0, 1, none⟩ = some (.slice P np cp) := (hG2.cell 1).trans t1
  have r2 : w2.cell? ⟨g0, 2, none⟩ = some (.slice R nq cq) := (hG2.cell 2).trans t2
  have r3 : w2.cell? ⟨g0, 3, none⟩ = some (.int .i64 o.most) := (hG2.cell 3).trans t3
  clear t0 t1 t2 t3 htk hcur
  go_wp2_with fail
  refine wp_loop_rounds 2 ?_
  rw [rounds_succ]
  go_upto_region 5 with fail
  have hL := Blk.new w2 85 #[.int .i64 o.kind, .slice P np cp, .slice R nq cq, .int .i64 o.most]
  have hcl := (Chg.refl Non w2).alloc (.cells #[.int .i64 o.kind, .slice P np cp, .slice R nq cq, .int .i64 o.most] 85)
  obtain ⟨t, ht⟩ : ∃ t, t = w2.heap.size := ⟨_, rfl⟩
  rw [← ht] at hL ⊢
  generalize hww : World.alloc w2 _ = w3
  rw [show w2.alloc (.cells #[.int .i64 o.kind, .slice P np cp, .slice R nq cq, .int .i64 o.most] 85) = w3 from hww] at hL hcl
  clear hww
  have htg : t ≠ g0 ∧ t ≠ p ∧ t ≠ q := by have := hG2.lt; have := hX2.lt; have := hY2.lt; omega
  have hX3 := hX2.c0 hcl
  have hY3 := hY2.c0 hcl
  have hG3 := hG2.c0 hcl
  have hcw3 := hcw2.trans0 hcl
  clear ht hX2 hY2 hG2 hcw2 hcl y0 r0 r1 r2 r3
  obtain ⟨S, hSd⟩ : ∃ S : World → Prop, ∀ w', S w' ↔ (w'.cell? ⟨p, 42, none⟩ = some (.slice (some ⟨g0, 0, none⟩) 1 cg) ∧ w'.cell? ⟨t, 1, none⟩ = some (.slice P np cp) ∧ w'.cell? ⟨t, 2, none⟩ = some (.slice R nq cq)) := ⟨_, fun _ => Iff.rfl⟩
  have HSd := hide hSd
  have HSB := hide (fun (w' : World) (h : Blk w' p 63 arr2) (h2 : Blk w' t 85 #[.int .i64 o.kind, .slice P np cp, .slice R nq cq, .int .i64 o.most]) => (hSd w').2 ⟨(h.cell 42).trans HE.out.2.2, h2.cell 1, h2.cell 2⟩)
  have HS1 := hide (HSB.out w3.drew hX3 hL)
  clear hSd
  refine wp_region_T S 99 (by kernel_rfl) ?_
  have hdd := (Chg.refl Non w3).drew
  have hX4 := hX3.c0 hdd
  have hY4 := hY3.c0 hdd
  have hG4 := hG3.c0 hdd
  have hL4 := hL.c0 hdd
  have hcw4 := hcw3.trans0 hdd
  generalize World.drew w3 = w4 at hdd hX4 hY4 hG4 hL4 hcw4 HS1 ⊢
  have hg4 : g0 < w4.heap.size := hG4.lt
  clear hdd hX3 hY3 hG3 hL hcw3
  have HS := HS1
  refine AnyT.take (i := 0) (v := ?_) rfl (by kernel_rfl) (by kernel_rfl) (fun _ _ _ h => h) (by kernel_rfl) (by kernel_rfl) (Or.inl ⟨by rfl, ?_⟩) HS.out ?_
  rotate_left
  · (intro w9 h9; first | (go_simp; with_reducible rfl) | (obtain ⟨y0, y1, y2⟩ := (HSd.out _).1 h9; go_simp; try with_reducible rfl))
  try simp only [getElem_toArray, getElem_cons_succ, getElem_cons_zero, Act.put, setIfInBounds_toArray, set_cons_zero, set_cons_succ]
  refine AnyT.take (i := 1) (v := ?_) rfl (by kernel_rfl) (by kernel_rfl) (fun _ _ _ h => h) (by kernel_rfl) (by kernel_rfl) (Or.inl ⟨by rfl, ?_⟩) HS.out ?_
  rotate_left
  · (intro w9 h9; first | (go_simp; with_reducible rfl) | (obtain ⟨y0, y1, y2⟩ := (HSd.out _).1 h9; go_simp; try with_reducible rfl))
  try simp only [getElem_toArray, getElem_cons_succ, getElem_cons_zero, Act.put, setIfInBounds_toArray, set_cons_zero, set_cons_succ]
  refine AnyT.take (i := 2) (v := ?_) rfl (by kernel_rfl) (by kernel_rfl) (fun _ _ _ h => h) (by kernel_rfl) (by kernel_rfl) (Or.inl ⟨by rfl, ?_⟩) HS.out ?_
  rotate_left
  · (intro w9 h9; first | (go_simp; with_reducible rfl) | (obtain ⟨y0, y1, y2⟩ := (HSd.out _).1 h9; go_simp; try with_reducible rfl))
  try simp only [getElem_toArray, getElem_cons_succ, getElem_cons_zero, Act.put, setIfInBounds_toArray, set_cons_zero, set_cons_succ]
  refine AnyT.take (i := 3) (v := ?_) rfl (by kernel_rfl) (by kernel_rfl) (fun _ _ _ h => h) (by kernel_rfl) (by kernel_rfl) (Or.inl ⟨by rfl, ?_⟩) HS.out ?_
  rotate_left
  · (intro w9 h9; first | (go_simp; with_reducible rfl) | (obtain ⟨y0, y1, y2⟩ := (HSd.out _).1 h9; go_simp; try with_reducible rfl))
  try simp only [getElem_toArray, getElem_cons_succ, getElem_cons_zero, Act.put, setIfInBounds_toArray, set_cons_zero, set_cons_succ]
  refine AnyT.take (i := 4) (v := ?_) rfl (by kernel_rfl) (by kernel_rfl) (fun _ _ _ h => h) (by kernel_rfl) (by kernel_rfl) (Or.inl ⟨by rfl, ?_⟩) HS.out ?_
  rotate_left
  · (intro w9 h9; first | (go_simp; with_reducible rfl) | (obtain ⟨y0, y1, y2⟩ := (HSd.out _).1 h9; go_simp; try with_reducible rfl))
  try simp only [getElem_toArray, getElem_cons_succ, getElem_cons_zero, Act.put, setIfInBounds_toArray, set_cons_zero, set_cons_succ]
  refine AnyT.take (i := 5) (v := ?_) rfl (by kernel_rfl) (by kernel_rfl) (fun _ _ _ h => h) (by kernel_rfl) (by kernel_rfl) (Or.inl ⟨by rfl, ?_⟩) HS.out ?_
  rotate_left
  · (intro w9 h9; first | (go_simp; with_reducible rfl) | (obtain ⟨y0, y1, y2⟩ := (HSd.out _).1 h9; go_simp; try with_reducible rfl))
  try simp only [getElem_toArray, getElem_cons_succ, getElem_cons_zero, Act.put, setIfInBounds_toArray, set_cons_zero, set_cons_succ]
  refine AnyT.take (i := 6) (v := ?_) rfl (by kernel_rfl) (by kernel_rfl) (fun _ _ _ h => h) (by kernel_rfl) (by kernel_rfl) (Or.inl ⟨by rfl, ?_⟩) HS.out ?_
  rotate_left
  · (intro w9 h9; first | (go_simp; with_reducible rfl) | (obtain ⟨y0, y1, y2⟩ := (HSd.out _).1 h9; go_simp; try with_reducible rfl))
  try simp only [getElem_toArray, getElem_cons_succ, getElem_cons_zero, Act.put, setIfInBounds_toArray, set_cons_zero, set_cons_succ]
  refine AnyT.take (i := 7) (v := ?_) rfl (by kernel_rfl) (by kernel_rfl) (fun _ _ _ h => h) (by kernel_rfl) (by kernel_rfl) (Or.inl ⟨by rfl, ?_⟩) HS.out ?_
  rotate_left
  · (intro w9 h9; first | (go_simp; with_reducible rfl) | (obtain ⟨y0, y1, y2⟩ := (HSd.out _).1 h9; go_simp; try with_reducible rfl))
  try simp only [getElem_toArray, getElem_cons_succ, getElem_cons_zero, Act.put, setIfInBounds_toArray, set_cons_zero, set_cons_succ]
  refine AnyT.take (i := 8) (v := ?_) rfl (by kernel_rfl) (by kernel_rfl) (fun _ _ _ h => h) (by kernel_rfl) (by kernel_rfl) (Or.inl ⟨by rfl, ?_⟩) HS.out ?_
  rotate_left
  · (intro w9 h9; first | (go_simp; with_reducible rfl) | (obtain ⟨y0, y1, y2⟩ := (HSd.out _).1 h9; go_simp; try with_reducible rfl))
  try simp only [getElem_toArray, getElem_cons_succ, getElem_cons_zero, Act.put, setIfInBounds_toArray, set_cons_zero, set_cons_succ]
  refine AnyT.take (i := 9) (v := ?_) rfl (by kernel_rfl) (by kernel_rfl) (fun _ _ _ h => h) (by kernel_rfl) (by kernel_rfl) (Or.inl ⟨by rfl, ?_⟩) HS.out ?_
  rotate_left
  · (intro w9 h9; first | (go_simp; with_reducible rfl) | (obtain ⟨y0, y1, y2⟩ := (HSd.out _).1 h9; go_simp; try with_reducible rfl))
  try simp only [getElem_toArray, getElem_cons_succ, getElem_cons_zero, Act.put, setIfInBounds_toArray, set_cons_zero, set_cons_succ]
  refine AnyT.take (i := 11) (v := ?_) rfl (by kernel_rfl) (by kernel_rfl) (fun _ _ _ h => h) (by kernel_rfl) (by kernel_rfl) (Or.inl ⟨by rfl, ?_⟩) HS.out ?_
  rotate_left
  · (intro w9 h9; first | (go_simp; with_reducible rfl) | (obtain ⟨y0, y1, y2⟩ := (HSd.out _).1 h9; go_simp; try with_reducible rfl))
  try simp only [getElem_toArray, getElem_cons_succ, getElem_cons_zero, Act.put, setIfInBounds_toArray, set_cons_zero, set_cons_succ]
  refine AnyT.take (i := 12) (v := ?_) rfl (by kernel_rfl) (by kernel_rfl) (fun _ _ _ h => h) (by kernel_rfl) (by kernel_rfl) (Or.inl ⟨by rfl, ?_⟩) HS.out ?_
  rotate_left
  · (intro w9 h9; first | (go_simp; with_reducible rfl) | (obtain ⟨y0, y1, y2⟩ := (HSd.out _).1 h9; go_simp; try with_reducible rfl))
  try simp only [getElem_toArray, getElem_cons_succ, getElem_cons_zero, Act.put, setIfInBounds_toArray, set_cons_zero, set_cons_succ]
  refine AnyT.one (i := 10) (by kernel_rfl) rfl (fun K hK => ?_)
  rw [if_pos (by rfl)]
  try simp only [getElem_toArray, getElem_cons_succ, getElem_cons_zero, Act.put, setIfInBounds_toArray, set_cons_zero, set_cons_succ]
  go_wp2_with (go_at_call 63; refine (bytesClone (hp0.c0 hcw4) (by have := HKV.out.1; omega)).mono ?_; rintro e w5 ⟨a1, rfl, hu1, hd5⟩)
  obtain ⟨U1, m1, k1, rfl⟩ : ∃ A m c, a1 = .slice A m c := hu1.shapeH
  have hX5 := hX4.c0 hd5
  have hY5 := hY4.c0 hd5
  have hG5 := hG4.c0 hd5
  have hL5 := hL4.c0 hd5
  have hcw5 := hcw4.trans0 hd5
  refine hK.out _ _ (fun _ => HSB.out w5 hX5 hL5) ?_
  clear hK K
  try simp only [getElem_toArray, getElem_cons_succ, getElem_cons_zero, Act.put, setIfInBounds_toArray, set_cons_zero, set_cons_succ]
  refine AnyT.one (i := 13) (by kernel_rfl) rfl (fun K hK => ?_)
  rw [if_pos (by rfl)]
  try simp only [getElem_toArray, getElem_cons_succ, getElem_cons_zero, Act.put, setIfInBounds_toArray, set_cons_zero, set_cons_succ]
  go_wp2_with (go_at_call 63; refine (bytesClone (hq0.c0 hcw5) (by have := HKV.out.2; omega)).mono ?_; rintro e w6 ⟨a2, rfl, hu2, hd6⟩)
  obtain ⟨U2, m2, k2, rfl⟩ : ∃ A m c, a2 = .slice A m c := hu2.shapeH
  have hX6 := hX5.c0 hd6
  have hY6 := hY5.c0 hd6
  have hG6 := hG5.c0 hd6
  have hL6 := hL5.c0 hd6
  have hcw6 := hcw5.trans0 hd6
  have hu16 := hu1.chg hd6 fun _ _ h => h
  refine hK.out _ _ (fun _ => HSB.out w6 hX6 hL6) ?_
  clear hK K
  try simp only [getElem_toArray, getElem_cons_succ, getElem_cons_zero, Act.put, setIfInBounds_toArray, set_cons_zero, set_cons_succ]
  replace HS := hide (HSB.out w6 hX6 hL6)
  refine AnyT.take (i := 14) (v := ?_) rfl (by kernel_rfl) (by kernel_rfl) (fun _ _ _ h => h) (by kernel_rfl) (by kernel_rfl) (Or.inl ⟨by rfl, ?_⟩) HS.out ?_
  rotate_left
  · (intro w9 h9; first | (go_simp; with_reducible rfl) | (obtain ⟨y0, y1, y2⟩ := (HSd.out _).1 h9; go_simp; try with_reducible rfl))
  try simp only [getElem_toArray, getElem_cons_succ, getElem_cons_zero, Act.put, setIfInBounds_toArray, set_cons_zero, set_cons_succ]
  refine AnyT.take (i := 15) (v := ?_) rfl (by kernel_rfl) (by kernel_rfl) (fun _ _ _ h => h) (by kernel_rfl) (by kernel_rfl) (Or.inl ⟨by rfl, ?_⟩) HS.out ?_
  rotate_left
  · (intro w9 h9; first | (go_simp; with_reducible rfl) | (obtain ⟨y0, y1, y2⟩ := (HSd.out _).1 h9; go_simp; try with_reducible rfl))
  try simp only [getElem_toArray, getElem_cons_succ, getElem_cons_zero, Act.put, setIfInBounds_toArray, set_cons_zero, set_cons_succ]
  refine AnyT.one (i := 16) (by kernel_rfl) rfl (fun K hK => ?_)
  rw [if_pos (by rfl)]
  try simp only [getElem_toArray, getElem_cons_succ, getElem_cons_zero, Act.put, setIfInBounds_toArray, set_cons_zero, set_cons_succ]
  have k0 : w6.cell? ⟨g0, 1, none⟩ = some (.slice P np cp) := (hG6.cell 1).trans (take4 HT.out).2.1
  have k1' : w6.frozen? ⟨g0, 1, none⟩ = false := hG6.frozen 1
  go_wp2_with fail
  have hG7 := hG6.set_ 1 (.slice U1 m1 k1)
  have hd7 : Chg (fun k => k = g0) w6 (w6.setCell ⟨g0, 1, none⟩ (.slice U1 m1 k1)) := Chg.setCell (S := fun k => k = g0) (Chg.refl _ w6) (p := ⟨g0, 1, none⟩) (fun _ => rfl) _
  generalize World.setCell w6 _ _ = w7 at hG7 hd7 ⊢
  have hs12' : p ≠ g0 ∧ q ≠ g0 := by constructor <;> (intro e; omega)
  have hX7 := hX6.chg hd7 (fun e => hs12'.1 e)
  have hL7 := hL6.chg hd7 (fun e => htg.1 e)
  clear k0 k1'
  refine hK.out _ _ (fun _ => HSB.out w7 hX7 hL7) ?_
  clear hK K
  try simp only [getElem_toArray, getElem_cons_succ, getElem_cons_zero, Act.put, setIfInBounds_toArray, set_cons_zero, set_cons_succ]
  replace HS := hide (HSB.out w7 hX7 hL7)
  refine AnyT.take (i := 17) (v := ?_) rfl (by kernel_rfl) (by kernel_rfl) (fun _ _ _ h => h) (by kernel_rfl) (by kernel_rfl) (Or.inl ⟨by rfl, ?_⟩) HS.out ?_
  rotate_left
  · (intro w9 h9; first | (go_simp; with_reducible rfl) | (obtain ⟨y0, y1, y2⟩ := (HSd.out _).1 h9; go_simp; try with_reducible rfl))
  try simp only [getElem_toArray, getElem_cons_succ, getElem_cons_zero, Act.put, setIfInBounds_toArray, set_cons_zero, set_cons_succ]
  refine AnyT.take (i := 18) (v := ?_) rfl (by kernel_rfl) (by kernel_rfl) (fun _ _ _ h => h) (by kernel_rfl) (by kernel_rfl) (Or.inl ⟨by rfl, ?_⟩) HS.out ?_
  rotate_left
  · (intro w9 h9; first | (go_simp; with_reducible rfl) | (obtain ⟨y0, y1, y2⟩ := (HSd.out _).1 h9; go_simp; try with_reducible rfl))
  try simp only [getElem_toArray, getElem_cons_succ, getElem_cons_zero, Act.put, setIfInBounds_toArray, set_cons_zero, set_cons_succ]
  refine AnyT.one (i := 19) (by kernel_rfl) rfl (fun K hK => ?_)
  rw [if_pos (by rfl)]
  try simp only [getElem_toArray, getElem_cons_succ, getElem_cons_zero, Act.put, setIfInBounds_toArray, set_cons_zero, set_cons_succ]
  have k0 : w7.cell? ⟨g0, 2, none⟩ = some (.slice R nq cq) := (hG7.cell 2).trans (by rw [Array.getElem?_setIfInBounds_ne (by decide)]; exact (take4 HT.out).2.2.1)
  have k1' : w7.frozen? ⟨g0, 2, none⟩ = false := hG7.frozen 2
  go_wp2_with fail
  have hG8 := hG7.set_ 2 (.slice U2 m2 k2)
  have hd8 : Chg (fun k => k = g0) w7 (w7.setCell ⟨g0, 2, none⟩ (.slice U2 m2 k2)) := Chg.setCell (S := fun k => k = g0) (Chg.refl _ w7) (p := ⟨g0, 2, none⟩) (fun _ => rfl) _
  generalize World.setCell w7 _ _ = w8 at hG8 hd8 ⊢
  have hX8 := hX7.chg hd8 (fun e => hs12'.1 e)
  have hL8 := hL7.chg hd8 (fun e => htg.1 e)
  have hd68 := hd7.trans hd8 fun _ _ h => h
  have hY8 := hY6.chg hd68 (fun e => hs12'.2 e)
  clear k0 k1'
  refine hK.out _ _ (fun _ => HSB.out w8 hX8 hL8) ?_
  clear hK K
  try simp only [getElem_toArray, getElem_cons_succ, getElem_cons_zero, Act.put, setIfInBounds_toArray, set_cons_zero, set_cons_succ]
  refine AnyT.nil (by kernel_rfl) ?_
  have hs45 := hd5.size
  have hs56 := hd6.size
  have hv1 : OwnB w8 w0.heap.size (.slice U1 m1 k1) o.key := (hu16.chg hd68 (fun k hk e => by have h1 := (hu1.lt k hk).1; omega)).low (by omega)
  have hv2 : OwnB w8 w0.heap.size (.slice U2 m2 k2) o.val := (hu2.chg hd68 (fun k hk e => by have h1 := (hu2.lt k hk).1; omega)).low (by omega)
  have hgw : w.heap.size ≤ g0 := by have := HPQ.out; omega
  have hcw8 : Chg Non w w8 := hcw6.trans hd68 fun k hk e => by omega
  have hap : Apt (.slice U1 m1 k1) (.slice U2 m2 k2) := fun k hk e => by have h1 := (hu1.lt k hk).2; have h2 := (hu2.lt k e).1; omega
  have hbp1 : ∀ k, (Value.slice U1 m1 k1).ownBlock = some k → k ≠ g0 := fun k hk e => by have h1 := (hu1.lt k hk).1; omega
  have hbp2 : ∀ k, (Value.slice U2 m2 k2).ownBlock = some k → k ≠ g0 := fun k hk e => by have h1 := (hu2.lt k hk).1; omega
  have hHas : HasO w8 w0.heap.size (.slice (some ⟨g0, 0, none⟩) 1 cg) [o] [(.slice U1 m1 k1, .slice U2 m2 k2)] := by
    refine ⟨rfl, mkRow1 hg0 hG8 (set4 HT.out) HCU.out.2.1 HCU.out.2.2 (by rw [Array.size_setIfInBounds, Array.size_setIfInBounds]; exact HCU.out.1), ⟨?_, ?_⟩, ?_⟩
    · intro pr hpr
      simp only [pcO, List.zip_cons_cons, List.zip_nil_right, List.flatMap_cons, List.flatMap_nil, List.append_nil, List.mem_cons, List.not_mem_nil, or_false] at hpr
      rcases hpr with rfl | rfl
      · exact hv1
      · exact hv2
    · simp only [pcO, List.zip_cons_cons, List.zip_nil_right, List.flatMap_cons, List.flatMap_nil, List.append_nil, List.pairwise_cons, List.mem_cons, List.not_mem_nil, or_false]
      exact ⟨fun b hb => by rw [hb]; exact hap, fun b hb => hb.elim, .nil⟩
    · intro pr hpr k hk e
      simp only [pcO, List.zip_cons_cons, List.zip_nil_right, List.flatMap_cons, List.flatMap_nil, List.append_nil, List.mem_cons, List.not_mem_nil, or_false] at hpr
      simp only [Value.ownBlock, Option.map_some, Option.some.injEq] at hk
      rcases hpr with rfl | rfl
      · exact hbp1 k e hk.symm
      · exact hbp2 k e hk.symm
  have y0 : w8.cell? ⟨p, 42, none⟩ = some (.slice (some ⟨g0, 0, none⟩) 1 cg) := (hX8.cell 42).trans HE.out.2.2
  clear HS HS1 HSB HSd hu1 hu2 hu16 hX4 hX5 hX6 hX7 hL4 hL5 hL6 hL7 hL8 hY4 hY5 hY6 hG4 hG5 hG6 hG7 hG8 hd5 hd6 hd7 hd8 hd68 hcw4 hcw5 hcw6 hv1 hv2 hap hbp1 hbp2
  go_wp2_with fail
  rw [rounds_succ]
  go_wp2_with (first | (refine wpList_load_row rfl 63 (.tmp 1) rfl p rfl 63 arr2 (0, 0) _ hX8 Try.underlying63 rfl (by rw [HE.out.1]; exact info_pkt) ?_) | (refine wpList_store_pkt rfl (.tmp 2) (.tmp 39) rfl q arr2 rfl rfl _ hY8 zeroP_size HE.out.1 HE.out.2.1 fun w9 hP9 hc9 => ?_))
  refine bodyPost_ret (res_pkt rfl rfl hP9 HE.out.1) rfl ⟨_, _, by rw [HA2.out], (hHas.chg hc9 (fun k h1 h2 e => by omega)).low (by have := HPQ.out; omega), hcw8.trans hc9 fun k hk e => by have := HPQ.out; omega⟩
end Go.Proofs.Ytncchbcoldgpbaa

namespace Go.Proofs.Ytncchbcoldgpbaa
open Go.RowKit
set_option linter.unusedVariables false
set_option linter.unusedSimpArgs false

set_option maxHeartbeats 4000000 in
set_option maxRecDepth 100000 in
theorem fault1 {P R : Option Addr} {n1 c1 n2 c2 : Nat} {w : World} (h1 : n1 ≤ 64) (h2 : n2 ≤ 128) :
    Calls Try.prog 69 #[.agg #[.int .i64 2, .slice P n1 c1, .slice R n2 c2, .int .i64 0]] w fun e w' => e = .returned (.int .i64 0) ∧ Chg Non w w' := by
  have hA := Blk.new w 85 #[.int .i64 2, .slice P n1 c1, .slice R n2 c2, .int .i64 0]
  have hcA := (Chg.refl Non w).alloc (.cells #[.int .i64 2, .slice P n1 c1, .slice R n2 c2, .int .i64 0] 85)
  have d1 : decide ((64 : Int) < (n1 : Int)) = false := decide_eq_false (by omega)
  have d2 : decide ((128 : Int) < (n2 : Int)) = false := decide_eq_false (by omega)
  have e1 : ¬ 64 < n1 := by omega
  have e2 : ¬ 128 < n2 := by omega
  go_enter Try.func69, Try.ntmps69
  go_upto_region 1 with fail
  obtain ⟨p, hp⟩ : ∃ p, p = w.heap.size := ⟨_, rfl⟩
  rw [← hp] at hA ⊢
  clear hp
  generalize World.alloc w _ = w1 at hA hcA ⊢
  have a0 : w1.cell? ⟨p, 0, none⟩ = some (.int .i64 2) := hA.cell 0
  have a1 : w1.cell? ⟨p, 1, none⟩ = some (.slice P n1 c1) := hA.cell 1
  have a2 : w1.cell? ⟨p, 2, none⟩ = some (.slice R n2 c2) := hA.cell 2
  have a3 : w1.cell? ⟨p, 3, none⟩ = some (.int .i64 0) := hA.cell 3
  go_wp2_with fail
  go_ret
  exact ⟨rfl, hcA⟩

theorem HasO.rds {w : World} {b : Nat} {v : Value} {l : List OpS} {xs : List (Value × Value)} (h : HasO w b v l xs) : RdOs w (fun k => b ≤ k ∧ k < w.heap.size) v l :=
  ⟨xs, h.len, (RdV.of_own h.row).mono fun k hk => World.ownsRow.lt h.row k hk, fun i x y hx hy => by
    have hz : (xs.zip l)[i]? = some (x, y) := List.getElem?_zip_eq_some.2 ⟨hx, hy⟩
    have hmem := List.mem_of_getElem? hz
    exact ⟨(h.own.1 (x.1, y.key) (List.mem_flatMap.2 ⟨_, hmem, by simp⟩)).rdB, (h.own.1 (x.2, y.val) (List.mem_flatMap.2 ⟨_, hmem, by simp⟩)).rdB⟩⟩
/-- the one operation of a list that comes in: its cells -/
theorem op_cells {w : World} {F : Nat → Prop} {v : Value} {o : OpS} (hr : RdOs w F v [o]) : ∃ (ad : Addr) (c : Nat) (p q : Value), v = .slice (some ad) 1 c ∧ w.cell? ad = some (.int .i64 o.kind) ∧ w.cell? ⟨ad.block, ad.off + 1, none⟩ = some p ∧ w.cell? ⟨ad.block, ad.off + 2, none⟩ = some q ∧ w.cell? ⟨ad.block, ad.off + 3, none⟩ = some (.int .i64 o.most) ∧ RdB w F p o.key ∧ RdB w F q o.val := by
  obtain ⟨A, c, e, _, _⟩ := hr.shape
  subst e
  obtain ⟨ad, p, q, e, _, h0, h1, h2, h3, r1, r2⟩ := hr.at_ (k := 0) (by simp)
  rw [Nat.zero_mul] at h0 h1 h2 h3
  have hz : ad.add 0 = ad := by cases ad; rfl
  rw [hz] at h0 h1 h2 h3
  exact ⟨ad, c, p, q, by rw [e]; rfl, h0, h1, h2, h3, r1, r2⟩
set_option maxHeartbeats 4000000 in
set_option maxRecDepth 100000 in
theorem check1 {v : Value} {key val : List UInt8} {F : Nat → Prop} {w : World} (hr : RdOs w F v [⟨2, key, val, 0⟩]) (h1 : key.length ≤ 64) (h2 : val.length ≤ 128) :
    Calls Try.prog 42 #[v] w fun e w' => e = .returned (.int .i64 0) ∧ Chg Non w w' := by
  obtain ⟨ad, c, p, q, rfl, c0, c1, c2, c3, r1, r2⟩ := op_cells hr
  obtain ⟨P, n1, k1, rfl, hn1⟩ : ∃ A m c, p = .slice A m c ∧ m = key.length := by obtain ⟨A, c, e, _⟩ := r1.shape; exact ⟨A, _, c, e, rfl⟩
  obtain ⟨R, n2, k2, rfl, hn2⟩ : ∃ A m c, q = .slice A m c ∧ m = val.length := by obtain ⟨A, c, e, _⟩ := r2.shape; exact ⟨A, _, c, e, rfl⟩
  have hl1 : n1 ≤ 64 := by omega
  have hl2 : n2 ≤ 128 := by omega
  clear hr r1 r2 hn1 hn2 h1 h2
  have hz : ad.add 0 = ad := by cases ad; rfl
  go_enter Try.func42, Try.ntmps42
  go_wp2_with fail
  refine wp_loop_rounds 2 ?_
  rw [rounds_succ]
  go_upto_region 5 with fail
  have hL := Blk.new w 85 #[.int .i64 2, .slice P n1 k1, .slice R n2 k2, .int .i64 0]
  have hcl := (Chg.refl Non w).alloc (.cells #[.int .i64 2, .slice P n1 k1, .slice R n2 k2, .int .i64 0] 85)
  obtain ⟨t, ht⟩ : ∃ t, t = w.heap.size := ⟨_, rfl⟩
  rw [← ht] at hL ⊢
  clear ht
  generalize World.alloc w _ = w1 at hL hcl ⊢
  clear c0 c1 c2 c3
  have y0 : w1.cell? ⟨t, 0, none⟩ = some (.int .i64 2) := hL.cell 0
  have y1 : w1.cell? ⟨t, 1, none⟩ = some (.slice P n1 k1) := hL.cell 1
  have y2 : w1.cell? ⟨t, 2, none⟩ = some (.slice R n2 k2) := hL.cell 2
  have y3 : w1.cell? ⟨t, 3, none⟩ = some (.int .i64 0) := hL.cell 3
  go_wp2_with (go_at_call 69; refine (fault1 hl1 hl2).mono ?_; rintro e w2 ⟨rfl, hd2⟩)
  rw [rounds_succ]
  go_wp2_with fail
  go_ret
  exact ⟨rfl, hcl.trans0 hd2⟩
set_option maxHeartbeats 4000000 in
set_option maxRecDepth 100000 in
theorem wait1 {c s q i b : Nat} {wt : List Value} {arr : Array Value} {w : World} (hC : Blk w c 116 (cliA s q i b wt)) (hwt : wt.length = 65) (hs : arr.size = 65) (h1 : arr.all (·.oneCell') = true) {v : Value} {o : OpS} {F : Nat → Prop} (h42 : arr[42]? = some v) (hr : RdOs w F v [o]) (hk : o.key.length ≤ 1000000000) (hv : o.val.length ≤ 1000000000) (hF : ∀ k, F k → k < w.heap.size) :
    Calls Try.prog 45 #[.pointer (some ⟨c, 0, none⟩), .agg arr] w fun e w' => e = .returned (.tuple #[.agg arr, .int .i64 0]) ∧ ∃ (u : Value) (xs : List (Value × Value)), Blk w' c 116 (cliA s q i b (arr.setIfInBounds 42 u).toList) ∧ HasO w' w.heap.size u [o] xs ∧ Chg (fun k => k = c) w w' := by
  have hX := Blk.new w 63 arr
  have hcA := (Chg.refl Non w).alloc (.cells arr 63)
  have hsA : (w.alloc (.cells arr 63)).heap.size = w.heap.size + 1 := by simp
  have hY := Blk.new (w.alloc (.cells arr 63)) 63 zeroP
  have hcB := (Chg.refl Non (w.alloc (.cells arr 63))).alloc (.cells zeroP 63)
  have hXB := hX.c0 hcB
  have hcW := hcA.trans0 hcB
  have hC0 := hC.c0 hcW
  have hcl := hC.lt
  rw [hsA] at hY
  clear hX hcA hcB
  go_enter Try.func45, Try.ntmps45
  go_upto_region 1 with fail
  have hzz : (Try.zeroCells63 : Array Value) = zeroP := rfl
  try rw [hzz]
  clear hzz hsA
  generalize World.alloc (World.alloc w _) _ = w0 at hY hXB hcW hC0 ⊢
  obtain ⟨p, hp⟩ : ∃ p, p = w.heap.size := ⟨_, rfl⟩
  obtain ⟨p2, hq⟩ : ∃ q, q = w.heap.size + 1 := ⟨_, rfl⟩
  rw [← hq] at hY
  rw [← hp] at hXB
  rw [← hq, ← hp]
  have HPQ := hide (And.intro hp hq)
  have hpq : p ≠ p2 ∧ p ≠ c ∧ p2 ≠ c := by omega
  clear hp hq hC
  have hyl := hY.lt
  go_upto_region 2 with (first | (refine wpList_load_row rfl 63 (.tmp 3) rfl p rfl 63 arr (0, 0) _ hXB Try.underlying63 rfl (by rw [hs]; exact info_pkt) ?_) | (go_at_call 46; refine (twin1 hs h1 h42 (hr.c0 hcW) hk hv (fun k hk => by have := hF k hk; have := hcW.size; omega)).mono ?_; rintro e w1 ⟨u, xs, rfl, hO, hc1⟩; have hsu : (arr.setIfInBounds 42 u).size = 65 := by { rw [Array.size_setIfInBounds]; exact hs }; have h1u : (arr.setIfInBounds 42 u).all (·.oneCell') = true := set_all h1 (HasO.one hO)) | (refine wpList_store_cli rfl (.tmp 10) (.tmp 8) rfl (arr.setIfInBounds 42 u) rfl rfl (hC0.c0 hc1) hwt hsu h1u fun w2 hC2 hc2 => ?_))
  have hX2 := (hXB.c0 hc1).chg hc2 hpq.2.1
  have hY2 := (hY.c0 hc1).chg hc2 hpq.2.2
  go_wp2_with (first | (refine wpList_load_row rfl 63 (.tmp 3) rfl p rfl 63 arr (0, 0) _ hX2 Try.underlying63 rfl (by rw [hs]; exact info_pkt) ?_) | (refine wpList_store_pkt rfl (.tmp 4) (.tmp 11) rfl p2 arr rfl rfl _ hY2 zeroP_size hs h1 fun w9 hP9 hc9 => ?_))
  refine bodyPost_ret (res_pkt2 rfl rfl hP9 hs rfl) rfl ⟨rfl, u, xs, hC2.chg hc9 (fun e => hpq.2.2 e.symm), ((hO.chg hc2 (fun k h1 h2 e => by have := hcW.size; omega)).chg hc9 (fun k h1 h2 e => by omega)).low hcW.size, ?_⟩
  exact ((chgX (hcW.trans0 hc1)).trans hc2 fun _ _ h => h).trans hc9 fun k hk e => by have := HPQ.out; omega

theorem pktC_set (f i b s q : Nat) (v u : Value) : (pktC f i b s q v).setIfInBounds 42 u = pktC f i b s q u := by
  unfold pktC
  rw [Array.setIfInBounds_setIfInBounds]
set_option maxHeartbeats 16000000 in
set_option maxRecDepth 100000 in
theorem callOne {c s q i b : Nat} {wt : List Value} {w : World} (hC : Blk w c 116 (cliA s q i b wt)) (hwt : wt.length = 65) (h0 : wt[0]? = some (.int .i64 0)) (hb : b ≠ 0) (hs : U64 (s + 16)) (hq : U64 (q + 1)) {v : Value} {key val : List UInt8} {F : Nat → Prop} (hr : RdOs w F v [⟨2, key, val, 0⟩]) (hkl : key.length ≤ 64) (hvl : val.length ≤ 128) (hF : ∀ k, F k → k < w.heap.size ∧ k ≠ c) :
    Calls Try.prog 17 #[.pointer (some ⟨c, 0, none⟩), v] w fun e w' => ∃ (u1 u2 : Value) (xs ys : List (Value × Value)), e = .returned (.tuple #[.agg (pktC (s + 16) i b s (q + 1) u1), .int .i64 0]) ∧
      Blk w' c 116 (cliA s (q + 1) i b (pktC (s + 16) i b s (q + 1) u2).toList) ∧ (∃ m : Nat, HasO w' w.heap.size u1 [⟨2, key, val, 0⟩] xs ∧ HasO w' m u2 [⟨2, key, val, 0⟩] ys ∧ w.heap.size ≤ m ∧ (∀ k, u1.ownBlock = some k → k < m) ∧ ∀ p ∈ pcO xs [⟨2, key, val, 0⟩], ∀ k, p.1.ownBlock = some k → k < m) ∧ Chg (fun k => k = c) w w' := by
  obtain ⟨ad, cv, P0, Q0, rfl, _⟩ := op_row hr
  have hY := Blk.new w 63 zeroP
  have hcW := (Chg.refl Non w).alloc (.cells zeroP 63)
  have hC0 := hC.c0 hcW
  have hcl := hC.lt
  have c3 : (w.alloc (.cells zeroP 63)).cell? ⟨c, 3, none⟩ = some (.int .u64 (b : Int)) := hC0.cell 3
  have c1 : (w.alloc (.cells zeroP 63)).cell? ⟨c, 1, none⟩ = some (.int .u64 (q : Int)) := hC0.cell 1
  have f1 := hC0.frozen 1
  have hbz : ((b : Int) == 0) = false := beq_eq_false_iff_ne.2 (by omega)
  have hw1 : IntKind.u64.wrap ((q : Int) + 1) = ((q + 1 : Nat) : Int) := wrap_u64n hq
  obtain ⟨q1, hq1⟩ : ∃ q1, q1 = q + 1 := ⟨_, rfl⟩
  rw [← hq1] at hw1 ⊢
  obtain ⟨fr, hfr⟩ : ∃ fr, fr = s + 16 := ⟨_, rfl⟩
  have HFR := hide hfr
  rw [← hfr]
  have HQ1 := hide hq1
  have HSU := hide hs
  obtain ⟨ar, har⟩ : ∃ ar, ar = pktC fr i b s q1 (.slice (some ad) 1 cv) := ⟨_, rfl⟩
  have h1 : ar.all (·.oneCell') = true := by rw [har]; exact pktC_one rfl
  have h2 : ar.size = 65 := by rw [har]; exact pktC_size _ _ _ _ _ _
  have h42 : ar[42]? = some (.slice (some ad) 1 cv) := by rw [har]; rfl
  have HAR := hide har
  have H42 := hide h42
  clear har h42
  clear hq1 hfr hq hs hb
  go_enter Try.func17, Try.ntmps17
  go_upto_region 1 with fail
  have hzz : (Try.zeroCells63 : Array Value) = zeroP := rfl
  try rw [hzz]
  obtain ⟨p, hp⟩ : ∃ p, p = w.heap.size := ⟨_, rfl⟩
  rw [← hp] at hY ⊢
  have HP := hide hp
  have hpc : p ≠ c := by omega
  clear hp hC
  generalize World.alloc _ _ = w1 at hY hcW hC0 c3 c1 f1 ⊢
  go_upto_region 2 with (go_at_call 42; refine (check1 (hr.c0 hcW) hkl hvl).mono ?_; rintro e wk ⟨rfl, hdk⟩)
  replace hY := hY.c0 hdk
  replace hC0 := hC0.c0 hdk
  replace c3 := hdk.cell c3 (fun h => h)
  replace c1 := hdk.cell c1 (fun h => h)
  replace f1 := hC0.frozen 1
  replace hcW := hcW.trans0 hdk
  clear hdk
  generalize wk = w1 at hY hC0 c3 c1 f1 hcW ⊢
  go_upto_region 9 with (first | (go_at_call 43; refine (cliWaiting hC0 h0).mono ?_; rintro e w9 ⟨rfl, h9⟩; have h8 := h9.symm; clear h9; subst h8))
  have hC1 : Blk (w1.setCell ⟨c, 1, none⟩ (.int .u64 (q1 : Int))) c 116 (cliA s q1 i b wt) := hC0.set_ 1 _
  have hY1 := hY.far (p := ⟨c, 1, none⟩) hpc (.int .u64 (q1 : Int))
  have hcc : Chg (fun k => k = c) w (w1.setCell ⟨c, 1, none⟩ (.int .u64 (q1 : Int))) := Chg.setCell (S := fun k => k = c) (chgX hcW) (p := ⟨c, 1, none⟩) (fun _ => rfl) _
  generalize World.setCell _ _ _ = w2 at hC1 hY1 hcc ⊢
  clear hC0 hY hcW c3 c1 f1 hbz hw1
  have hX := fun (w' : World) => Blk.new w' 63 zeroP
  have HPK := hide (cliPacket (k := 6) hC1 HSU.out)
  rw [← HFR.out] at HPK
  go_upto_region 10 with (first | (go_at_call 44; refine HPK.out.mono ?_; rintro e w3 ⟨rfl, hc3⟩; have hX3 := Blk.new w3 63 zeroP; have hcA := (Chg.refl Non w3).alloc (.cells zeroP 63)) | (refine wpList_store_pkt rfl (.tmp 7) (.tmp 34) rfl w3.heap.size (pktS 6 fr) rfl rfl _ hX3 zeroP_size (pktS_size _ _) (pktS_one _ _) fun w4 hP4 hc4 => ?_))
  obtain ⟨g, hg⟩ : ∃ g, g = w3.heap.size := ⟨_, rfl⟩
  rw [← hg] at hP4 hX3 hc4 ⊢
  have hsz3 := (hcc.trans0 hc3).size
  have hpl : p < w2.heap.size := hY1.lt
  have hcl3 := hc3.size
  have hgc : g ≠ c ∧ p ≠ g := by omega
  have hC4 := ((hC1.c0 hc3).c0 hcA).chg hc4 (fun e => hgc.1 e.symm)
  have hY4 := ((hY1.c0 hc3).c0 hcA).chg hc4 hgc.2
  have hcd : Chg (fun k => k = c) w w4 := ((hcc.trans0 hc3).trans0 hcA).trans hc4 fun k hk e => by omega
  have HG := hide (And.intro hg hsz3)
  clear hg hX3 hcA hc3 hc4 hC1 hY1 hcc HPK hX hsz3 hpl hcl3
  go_upto_region 10 with fail
  obtain ⟨S, hSd⟩ : ∃ S : World → Prop, ∀ w', S w' ↔ (w'.cell? ⟨c, 0, none⟩ = some (.int .u64 (s : Int)) ∧ w'.cell? ⟨c, 1, none⟩ = some (.int .u64 (q1 : Int)) ∧ w'.cell? ⟨c, 2, none⟩ = some (.int .u64 (i : Int)) ∧ w'.cell? ⟨c, 3, none⟩ = some (.int .u64 (b : Int))) := ⟨_, fun _ => Iff.rfl⟩
  have HSd := hide hSd
  have HS := hide ((hSd w4.drew).2 ⟨hC4.cell 0, hC4.cell 1, hC4.cell 2, hC4.cell 3⟩)
  clear hSd
  refine wp_region_T S 22 (by kernel_rfl) ?_
  refine AnyT.take (i := 0) (v := ?_) rfl (by kernel_rfl) (by kernel_rfl) (fun _ _ _ h => h) (by kernel_rfl) (by kernel_rfl) (Or.inl ⟨by rfl, ?_⟩) HS.out ?_
  rotate_left
  · (intro w9 h9; first | (go_simp; with_reducible rfl) | (obtain ⟨y0, y1, y2, y3⟩ := (HSd.out _).1 h9; go_simp; try with_reducible rfl))
  try simp only [getElem_toArray, getElem_cons_succ, getElem_cons_zero, Act.put, setIfInBounds_toArray, set_cons_zero, set_cons_succ]
  refine AnyT.take (i := 1) (v := ?_) rfl (by kernel_rfl) (by kernel_rfl) (fun _ _ _ h => h) (by kernel_rfl) (by kernel_rfl) (Or.inl ⟨by rfl, ?_⟩) HS.out ?_
  rotate_left
  · (intro w9 h9; first | (go_simp; with_reducible rfl) | (obtain ⟨y0, y1, y2, y3⟩ := (HSd.out _).1 h9; go_simp; try with_reducible rfl))
  try simp only [getElem_toArray, getElem_cons_succ, getElem_cons_zero, Act.put, setIfInBounds_toArray, set_cons_zero, set_cons_succ]
  refine AnyT.take (i := 2) (v := ?_) rfl (by kernel_rfl) (by kernel_rfl) (fun _ _ _ h => h) (by kernel_rfl) (by kernel_rfl) (Or.inl ⟨by rfl, ?_⟩) HS.out ?_
  rotate_left
  · (intro w9 h9; first | (go_simp; with_reducible rfl) | (obtain ⟨y0, y1, y2, y3⟩ := (HSd.out _).1 h9; go_simp; try with_reducible rfl))
  try simp only [getElem_toArray, getElem_cons_succ, getElem_cons_zero, Act.put, setIfInBounds_toArray, set_cons_zero, set_cons_succ]
  refine AnyT.take (i := 3) (v := ?_) rfl (by kernel_rfl) (by kernel_rfl) (fun _ _ _ h => h) (by kernel_rfl) (by kernel_rfl) (Or.inl ⟨by rfl, ?_⟩) HS.out ?_
  rotate_left
  · (intro w9 h9; first | (go_simp; with_reducible rfl) | (obtain ⟨y0, y1, y2, y3⟩ := (HSd.out _).1 h9; go_simp; try with_reducible rfl))
  try simp only [getElem_toArray, getElem_cons_succ, getElem_cons_zero, Act.put, setIfInBounds_toArray, set_cons_zero, set_cons_succ]
  refine AnyT.take (i := 4) (v := ?_) rfl (by kernel_rfl) (by kernel_rfl) (fun _ _ _ h => h) (by kernel_rfl) (by kernel_rfl) (Or.inl ⟨by rfl, ?_⟩) HS.out ?_
  rotate_left
  · (intro w9 h9; first | (go_simp; with_reducible rfl) | (obtain ⟨y0, y1, y2, y3⟩ := (HSd.out _).1 h9; go_simp; try with_reducible rfl))
  try simp only [getElem_toArray, getElem_cons_succ, getElem_cons_zero, Act.put, setIfInBounds_toArray, set_cons_zero, set_cons_succ]
  refine AnyT.take (i := 5) (v := ?_) rfl (by kernel_rfl) (by kernel_rfl) (fun _ _ _ h => h) (by kernel_rfl) (by kernel_rfl) (Or.inl ⟨by rfl, ?_⟩) HS.out ?_
  rotate_left
  · (intro w9 h9; first | (go_simp; with_reducible rfl) | (obtain ⟨y0, y1, y2, y3⟩ := (HSd.out _).1 h9; go_simp; try with_reducible rfl))
  try simp only [getElem_toArray, getElem_cons_succ, getElem_cons_zero, Act.put, setIfInBounds_toArray, set_cons_zero, set_cons_succ]
  refine AnyT.take (i := 6) (v := ?_) rfl (by kernel_rfl) (by kernel_rfl) (fun _ _ _ h => h) (by kernel_rfl) (by kernel_rfl) (Or.inl ⟨by rfl, ?_⟩) HS.out ?_
  rotate_left
  · (intro w9 h9; first | (go_simp; with_reducible rfl) | (obtain ⟨y0, y1, y2, y3⟩ := (HSd.out _).1 h9; go_simp; try with_reducible rfl))
  try simp only [getElem_toArray, getElem_cons_succ, getElem_cons_zero, Act.put, setIfInBounds_toArray, set_cons_zero, set_cons_succ]
  refine AnyT.take (i := 7) (v := ?_) rfl (by kernel_rfl) (by kernel_rfl) (fun _ _ _ h => h) (by kernel_rfl) (by kernel_rfl) (Or.inl ⟨by rfl, ?_⟩) HS.out ?_
  rotate_left
  · (intro w9 h9; first | (go_simp; with_reducible rfl) | (obtain ⟨y0, y1, y2, y3⟩ := (HSd.out _).1 h9; go_simp; try with_reducible rfl))
  try simp only [getElem_toArray, getElem_cons_succ, getElem_cons_zero, Act.put, setIfInBounds_toArray, set_cons_zero, set_cons_succ]
  refine AnyT.take (i := 8) (v := ?_) rfl (by kernel_rfl) (by kernel_rfl) (fun _ _ _ h => h) (by kernel_rfl) (by kernel_rfl) (Or.inl ⟨by rfl, ?_⟩) HS.out ?_
  rotate_left
  · (intro w9 h9; first | (go_simp; with_reducible rfl) | (obtain ⟨y0, y1, y2, y3⟩ := (HSd.out _).1 h9; go_simp; try with_reducible rfl))
  try simp only [getElem_toArray, getElem_cons_succ, getElem_cons_zero, Act.put, setIfInBounds_toArray, set_cons_zero, set_cons_succ]
  refine AnyT.take (i := 9) (v := ?_) rfl (by kernel_rfl) (by kernel_rfl) (fun _ _ _ h => h) (by kernel_rfl) (by kernel_rfl) (Or.inl ⟨by rfl, ?_⟩) HS.out ?_
  rotate_left
  · (intro w9 h9; first | (go_simp; with_reducible rfl) | (obtain ⟨y0, y1, y2, y3⟩ := (HSd.out _).1 h9; go_simp; try with_reducible rfl))
  try simp only [getElem_toArray, getElem_cons_succ, getElem_cons_zero, Act.put, setIfInBounds_toArray, set_cons_zero, set_cons_succ]
  refine AnyT.take (i := 10) (v := ?_) rfl (by kernel_rfl) (by kernel_rfl) (fun _ _ _ h => h) (by kernel_rfl) (by kernel_rfl) (Or.inl ⟨by rfl, ?_⟩) HS.out ?_
  rotate_left
  · (intro w9 h9; first | (go_simp; with_reducible rfl) | (obtain ⟨y0, y1, y2, y3⟩ := (HSd.out _).1 h9; go_simp; try with_reducible rfl))
  try simp only [getElem_toArray, getElem_cons_succ, getElem_cons_zero, Act.put, setIfInBounds_toArray, set_cons_zero, set_cons_succ]
  refine AnyT.take (i := 11) (v := ?_) rfl (by kernel_rfl) (by kernel_rfl) (fun _ _ _ h => h) (by kernel_rfl) (by kernel_rfl) (Or.inl ⟨by rfl, ?_⟩) HS.out ?_
  rotate_left
  · (intro w9 h9; first | (go_simp; with_reducible rfl) | (obtain ⟨y0, y1, y2, y3⟩ := (HSd.out _).1 h9; go_simp; try with_reducible rfl))
  try simp only [getElem_toArray, getElem_cons_succ, getElem_cons_zero, Act.put, setIfInBounds_toArray, set_cons_zero, set_cons_succ]
  refine AnyT.take (i := 12) (v := ?_) rfl (by kernel_rfl) (by kernel_rfl) (fun _ _ _ h => h) (by kernel_rfl) (by kernel_rfl) (Or.inl ⟨by rfl, ?_⟩) HS.out ?_
  rotate_left
  · (intro w9 h9; first | (go_simp; with_reducible rfl) | (obtain ⟨y0, y1, y2, y3⟩ := (HSd.out _).1 h9; go_simp; try with_reducible rfl))
  try simp only [getElem_toArray, getElem_cons_succ, getElem_cons_zero, Act.put, setIfInBounds_toArray, set_cons_zero, set_cons_succ]
  refine AnyT.take (i := 13) (v := ?_) rfl (by kernel_rfl) (by kernel_rfl) (fun _ _ _ h => h) (by kernel_rfl) (by kernel_rfl) (Or.inl ⟨by rfl, ?_⟩) HS.out ?_
  rotate_left
  · (intro w9 h9; first | (go_simp; with_reducible rfl) | (obtain ⟨y0, y1, y2, y3⟩ := (HSd.out _).1 h9; go_simp; try with_reducible rfl))
  try simp only [getElem_toArray, getElem_cons_succ, getElem_cons_zero, Act.put, setIfInBounds_toArray, set_cons_zero, set_cons_succ]
  refine AnyT.take (i := 14) (v := ?_) rfl (by kernel_rfl) (by kernel_rfl) (fun _ _ _ h => h) (by kernel_rfl) (by kernel_rfl) (Or.inl ⟨by rfl, ?_⟩) HS.out ?_
  rotate_left
  · (intro w9 h9; first | (go_simp; with_reducible rfl) | (obtain ⟨y0, y1, y2, y3⟩ := (HSd.out _).1 h9; go_simp; try with_reducible rfl))
  try simp only [getElem_toArray, getElem_cons_succ, getElem_cons_zero, Act.put, setIfInBounds_toArray, set_cons_zero, set_cons_succ]
  refine AnyT.take (i := 15) (v := ?_) rfl (by kernel_rfl) (by kernel_rfl) (fun _ _ _ h => h) (by kernel_rfl) (by kernel_rfl) (Or.inl ⟨by rfl, ?_⟩) HS.out ?_
  rotate_left
  · (intro w9 h9; first | (go_simp; with_reducible rfl) | (obtain ⟨y0, y1, y2, y3⟩ := (HSd.out _).1 h9; go_simp; try with_reducible rfl))
  try simp only [getElem_toArray, getElem_cons_succ, getElem_cons_zero, Act.put, setIfInBounds_toArray, set_cons_zero, set_cons_succ]
  refine AnyT.take (i := 16) (v := ?_) rfl (by kernel_rfl) (by kernel_rfl) (fun _ _ _ h => h) (by kernel_rfl) (by kernel_rfl) (Or.inl ⟨by rfl, ?_⟩) HS.out ?_
  rotate_left
  · (intro w9 h9; first | (go_simp; with_reducible rfl) | (obtain ⟨y0, y1, y2, y3⟩ := (HSd.out _).1 h9; go_simp; try with_reducible rfl))
  try simp only [getElem_toArray, getElem_cons_succ, getElem_cons_zero, Act.put, setIfInBounds_toArray, set_cons_zero, set_cons_succ]
  refine AnyT.take (i := 17) (v := ?_) rfl (by kernel_rfl) (by kernel_rfl) (fun _ _ _ h => h) (by kernel_rfl) (by kernel_rfl) (Or.inl ⟨by rfl, ?_⟩) HS.out ?_
  rotate_left
  · (intro w9 h9; first | (go_simp; with_reducible rfl) | (obtain ⟨y0, y1, y2, y3⟩ := (HSd.out _).1 h9; go_simp; try with_reducible rfl))
  try simp only [getElem_toArray, getElem_cons_succ, getElem_cons_zero, Act.put, setIfInBounds_toArray, set_cons_zero, set_cons_succ]
  refine AnyT.take (i := 18) (v := ?_) rfl (by kernel_rfl) (by kernel_rfl) (fun _ _ _ h => h) (by kernel_rfl) (by kernel_rfl) (Or.inl ⟨by rfl, ?_⟩) HS.out ?_
  rotate_left
  · (intro w9 h9; first | (go_simp; with_reducible rfl) | (obtain ⟨y0, y1, y2, y3⟩ := (HSd.out _).1 h9; go_simp; try with_reducible rfl))
  try simp only [getElem_toArray, getElem_cons_succ, getElem_cons_zero, Act.put, setIfInBounds_toArray, set_cons_zero, set_cons_succ]
  refine AnyT.take (i := 19) (v := ?_) rfl (by kernel_rfl) (by kernel_rfl) (fun _ _ _ h => h) (by kernel_rfl) (by kernel_rfl) (Or.inl ⟨by rfl, ?_⟩) HS.out ?_
  rotate_left
  · (intro w9 h9; first | (go_simp; with_reducible rfl) | (obtain ⟨y0, y1, y2, y3⟩ := (HSd.out _).1 h9; go_simp; try with_reducible rfl))
  try simp only [getElem_toArray, getElem_cons_succ, getElem_cons_zero, Act.put, setIfInBounds_toArray, set_cons_zero, set_cons_succ]
  refine AnyT.take (i := 20) (v := ?_) rfl (by kernel_rfl) (by kernel_rfl) (fun _ _ _ h => h) (by kernel_rfl) (by kernel_rfl) (Or.inl ⟨by rfl, ?_⟩) HS.out ?_
  rotate_left
  · (intro w9 h9; first | (go_simp; with_reducible rfl) | (obtain ⟨y0, y1, y2, y3⟩ := (HSd.out _).1 h9; go_simp; try with_reducible rfl))
  try simp only [getElem_toArray, getElem_cons_succ, getElem_cons_zero, Act.put, setIfInBounds_toArray, set_cons_zero, set_cons_succ]
  refine AnyT.take (i := 21) (v := ?_) rfl (by kernel_rfl) (by kernel_rfl) (fun _ _ _ h => h) (by kernel_rfl) (by kernel_rfl) (Or.inl ⟨by rfl, ?_⟩) HS.out ?_
  rotate_left
  · (intro w9 h9; first | (go_simp; with_reducible rfl) | (obtain ⟨y0, y1, y2, y3⟩ := (HSd.out _).1 h9; go_simp; try with_reducible rfl))
  try simp only [getElem_toArray, getElem_cons_succ, getElem_cons_zero, Act.put, setIfInBounds_toArray, set_cons_zero, set_cons_succ]
  have hm := pktS_mid (i := i) (b := b) (s := s) (q := q1) (vo := .slice (some ad) 1 cv) (show Blk w4.drew g 63 (pktS 6 fr) from hP4)
  have hth := there_of (o := 38) (n := 5) (show Blk w4.drew g 63 (pktS 6 fr) from hP4) (by rw [pktS_size]; decide)
  have HTH := hide (And.intro hth hm)
  clear hth hm
  refine AnyT.one (i := 22) (by kernel_rfl) rfl (fun K hK => ?_)
  rw [if_pos (by rfl)]
  try simp only [getElem_toArray, getElem_cons_succ, getElem_cons_zero, Act.put, setIfInBounds_toArray, set_cons_zero, set_cons_succ]
  refine wp_store_mid (P := Try.prog) 51 (.tmp 56) (.tmp 55) rfl g 38 #[uv i, uv b, uv s, uv q1, .slice (some ad) 1 cv] rfl rfl HTH.out.1 info_call (by simp [uv, Value.oneCell']) ?_
  refine hK.out _ _ (fun h => absurd h (by decide)) ?_
  clear hK K
  have hm := HTH.out.2
  try simp only [getElem_toArray, getElem_cons_succ, getElem_cons_zero, Act.put, setIfInBounds_toArray, set_cons_zero, set_cons_succ]
  generalize World.setCells _ _ _ _ = w5 at hm ⊢
  obtain ⟨hP5, hc5⟩ := hm
  have hc5 := ((Chg.refl (fun k => k = g) w4).drew).trans hc5 fun _ _ h => h
  have hC5 := hC4.chg hc5 (fun e => hgc.1 e.symm)
  have hY5 := hY4.chg hc5 hgc.2
  have hcd5 : Chg (fun k => k = c) w w5 := hcd.trans hc5 fun k hk e => by have := HG.out; omega
  clear HS HSd HTH hP4 hC4 hY4 hcd hc5
  refine AnyT.nil (by kernel_rfl) ?_
  rw [← HAR.out] at hP5
  have hr5 := hr.chg hcd5 (fun k hk => (hF k hk).2)
  have hF5 : ∀ k, F k → k < w5.heap.size := fun k hk => by have := (hF k hk).1; have := hcd5.size; omega
  have hk9 : key.length ≤ 1000000000 := by omega
  have hv9 : val.length ≤ 1000000000 := by omega
  have hset : ∀ u, ar.setIfInBounds 42 u = pktC fr i b s q1 u := fun u => by rw [HAR.out]; exact pktC_set _ _ _ _ _ _ _
  have HSET := hide hset
  clear hset
  go_wp2_with (refine wpList_load_row rfl 63 (.tmp 7) rfl g rfl 63 ar (0, 0) _ hP5 Try.underlying63 rfl (by rw [h2]; exact info_pkt) ?_)
  refine (twin1 h2 h1 H42.out hr5 hk9 hv9 hF5).mono ?_
  rintro e w6 ⟨u1, xs, rfl, hO1, hc6⟩
  have hsz1 : (ar.setIfInBounds 42 u1).size = 65 := by rw [HSET.out]; exact pktC_size _ _ _ _ _ _
  have hon1 : (ar.setIfInBounds 42 u1).all (·.oneCell') = true := by rw [HSET.out]; exact pktC_one (HasO.one hO1)
  have h421 : (ar.setIfInBounds 42 u1)[42]? = some u1 := by rw [Array.getElem?_setIfInBounds_self_of_lt (by omega)]
  have hr6 := hO1.rds
  go_wp2_with (first
    | (go_at_call 45; refine (wait1 (hC5.c0 hc6) hwt hsz1 hon1 h421 hr6 hk9 hv9 (fun k hk => hk.2)).mono ?_; rintro e w7 ⟨rfl, u2, ys, hC7, hO2, hc7⟩; have hY7 := (hY5.c0 hc6).chg hc7 hpc)
    | (refine wpList_store_pkt rfl (.tmp 4) (.tmp 61) rfl p (ar.setIfInBounds 42 u1) rfl rfl _ hY7 zeroP_size hsz1 hon1 fun w9 hP9 hc9 => ?_))
  have hcl5 : c < w5.heap.size := hC5.lt
  have hpl5 : p < w5.heap.size := hY5.lt
  have hs56 := hc6.size
  have hO1' := (hO1.chg hc7 (fun k h1 h2 e => by omega)).chg hc9 (fun k h1 h2 e => by omega)
  have hO2' := hO2.chg hc9 (fun k h1 h2 e => by omega)
  have hu1 : (ar.setIfInBounds 42 u1).setIfInBounds 42 u2 = pktC fr i b s q1 u2 := by rw [HSET.out]; exact pktC_set _ _ _ _ _ _ _
  rw [hu1] at hC7
  refine bodyPost_ret (res_pkt2 rfl rfl hP9 hsz1 rfl) rfl ⟨u1, u2, xs, ys, by rw [HSET.out u1]; rfl, hC7.chg hc9 (fun e => hpc e.symm), ⟨w6.heap.size, hO1'.low hcd5.size, hO2', Nat.le_trans hcd5.size hs56, fun k hk => (World.ownsRow.lt hO1.row k hk).2, fun p hp k hk => ((hO1.own.1 p hp).lt k hk).2⟩, ?_⟩
  exact ((hcd5.trans0 hc6).trans hc7 fun _ _ h => h).trans hc9 fun k hk e => by have := HP.out; omega

theorem cli_range {w : World} {c s q i b : Nat} {wt : List Value} (hC : Blk w c 116 (cliA s q i b wt)) : w.rangeAt c 4 wt := fun j v hv => (hC.cell (4 + j)).trans ((cliA_wait s q i b wt j).trans hv)
set_option maxHeartbeats 4000000 in
set_option maxRecDepth 100000 in
theorem again1 {c s q i b : Nat} {wt : Array Value} {w : World} (hC : Blk w c 116 (cliA s q i b wt.toList)) (hs : wt.size = 65) (h1 : wt.all (·.oneCell') = true) {kk : Int} (h0 : wt.toList[0]? = some (.int .i64 kk)) (hkk : kk ≠ 0) {v : Value} {o : OpS} {F : Nat → Prop} (h42 : wt[42]? = some v) (hr : RdOs w F v [o]) (hk : o.key.length ≤ 1000000000) (hv : o.val.length ≤ 1000000000) (hF : ∀ k, F k → k < w.heap.size) :
    Calls Try.prog 18 #[.pointer (some ⟨c, 0, none⟩)] w fun e w' => ∃ (u : Value) (xs : List (Value × Value)), e = .returned (.agg (wt.setIfInBounds 42 u)) ∧ HasO w' w.heap.size u [o] xs ∧ Chg Non w w' := by
  have hY := Blk.new w 63 zeroP
  have hcW := (Chg.refl Non w).alloc (.cells zeroP 63)
  have hC0 := hC.c0 hcW
  have hne : (kk != 0) = true := by simp [hkk]
  go_enter Try.func18, Try.ntmps18
  go_upto_region 1 with fail
  have hzz : (Try.zeroCells63 : Array Value) = zeroP := rfl
  try rw [hzz]
  clear hzz
  obtain ⟨p, hp⟩ : ∃ p, p = w.heap.size := ⟨_, rfl⟩
  rw [← hp] at hY ⊢
  have HP := hide hp
  clear hp hC
  generalize World.alloc _ _ = w1 at hY hcW hC0 ⊢
  have hpl := hY.lt
  have hr1 := hr.c0 hcW
  have hF1 : ∀ k, F k → k < w1.heap.size := fun k hk => by have := hF k hk; have := hcW.size; omega
  go_wp2_with (first | (go_at_call 43; refine (cliWaiting hC0 h0).mono ?_; rintro e w9 ⟨rfl, h9⟩; have h8 := h9.symm; clear h9; subst h8) | (refine wpList_load_mid (P := Try.prog) rfl 63 (.tmp 10) rfl c 4 rfl wt.toList _ (cli_range hC0) Try.underlying63 rfl (by rw [Array.length_toList, hs]; exact info_pkt) ?_; simp only [Array.toArray_toList]) | (go_at_call 46; refine (twin1 hs h1 h42 hr1 hk hv hF1).mono ?_; rintro e w6 ⟨u1, xs, rfl, hO1, hc6⟩; have hsz1 : (wt.setIfInBounds 42 u1).size = 65 := by { rw [Array.size_setIfInBounds]; exact hs }; have hon1 : (wt.setIfInBounds 42 u1).all (·.oneCell') = true := set_all h1 (HasO.one hO1)) | (refine wpList_store_pkt rfl (.tmp 2) (.tmp 12) rfl p (wt.setIfInBounds 42 u1) rfl rfl _ (hY.c0 hc6) zeroP_size hsz1 hon1 fun w9 hP9 hc9 => ?_))
  refine bodyPost_ret (res_pkt rfl rfl hP9 hsz1) rfl ⟨u1, xs, rfl, (hO1.chg hc9 (fun k h1 h2 e => by omega)).low hcW.size, (hcW.trans0 hc6).trans hc9 fun k hk e => by have := HP.out; omega⟩
end Go.Proofs.Ytncchbcoldgpbaa

namespace Go.Proofs.Ytncchbcoldgpbaa
open Go.RowKit
set_option linter.unusedVariables false
set_option linter.unusedSimpArgs false

set_option maxHeartbeats 4000000 in
theorem outNumber {v : Value} {n : Nat} {F : Nat → Prop} {w : World} (hr : RdB w F v (numB n)) (hn : n < 9223372036854775808) :
    Calls Try.prog 85 #[v] w fun e w' => e = .returned (.tuple #[.int .i64 (n : Int), .int .i64 0]) ∧ w' = w := by
  have hh : hd ((numB n).drop 0) = (n, (numB n).length, 0) := by
    have := hd_numB (n := n) (by omega) []
    rw [List.append_nil] at this
    rw [List.drop_zero]
    exact this
  obtain ⟨L, hL⟩ : ∃ L, L = (numB n).length := ⟨_, rfl⟩
  have hc := packTake_ok (a := 0) hr (Nat.zero_le _) hh
  rw [Nat.zero_add, ← hL] at hc
  obtain ⟨A, c, rfl, _, _⟩ := hr.shape
  rw [← hL] at hc ⊢
  have HC := hide hc
  have hw : IntKind.i64.wrap (n : Int) = (n : Int) := IntWalk.i64_in _ (by omega)
  have dll : decide ((L : Int) < (L : Int)) = false := decide_eq_false (by omega)
  clear hr hh hL hc
  go_enter Try.func85, Try.ntmps85
  go_wp2_with (go_at_call 89; refine HC.out.mono ?_; rintro e w1 ⟨rfl, h9⟩; have h8 := h9.symm; clear h9; subst h8)
  go_ret2
  exact ⟨rfl, rfl⟩

set_option maxHeartbeats 4000000 in
set_option maxRecDepth 100000 in
theorem learnSame {c s q i b : Nat} {wt : List Value} {w : World} (hC : Blk w c 116 (cliA s q i b wt)) :
    Calls Try.prog 39 #[.pointer (some ⟨c, 0, none⟩), .agg #[.int .u64 (i : Int), .int .u64 (b : Int)]] w fun e w' => e = .returned (.tuple #[]) ∧ Chg Non w w' := by
  have hX := Blk.new w 61 #[.int .u64 (i : Int), .int .u64 (b : Int)]
  have hcA := (Chg.refl Non w).alloc (.cells #[.int .u64 (i : Int), .int .u64 (b : Int)] 61)
  have hC0 := hC.c0 hcA
  have hd1 : decide ((i : Int) < (i : Int)) = false := decide_eq_false (by omega)
  have hd2 : decide ((b : Int) < (b : Int)) = false := decide_eq_false (by omega)
  go_enter Try.func39, Try.ntmps39
  go_upto_region 1 with fail
  obtain ⟨g, hg⟩ : ∃ g, g = w.heap.size := ⟨_, rfl⟩
  rw [← hg] at hX ⊢
  generalize World.alloc _ _ = w1 at hX hcA hC0 ⊢
  clear hg hC
  have g0 : w1.cell? ⟨g, 0, none⟩ = some (.int .u64 (i : Int)) := hX.cell 0
  have g1 : w1.cell? ⟨g, 1, none⟩ = some (.int .u64 (b : Int)) := hX.cell 1
  have c2 : w1.cell? ⟨c, 2, none⟩ = some (.int .u64 (i : Int)) := hC0.cell 2
  have c3 : w1.cell? ⟨c, 3, none⟩ = some (.int .u64 (b : Int)) := hC0.cell 3
  go_quiet (fail)
  go_wp2_with fail
  exact bodyPost_end (results_none rfl _ _ _) rfl ⟨rfl, hcA.drewN nq⟩

set_option maxHeartbeats 4000000 in
set_option maxRecDepth 100000 in
theorem forget {c s q i b : Nat} {wt : List Value} {w : World} (hC : Blk w c 116 (cliA s q i b wt)) (hw : wt.length = 65) :
    Calls Try.prog 41 #[.pointer (some ⟨c, 0, none⟩)] w fun e w' => e = .returned (.tuple #[]) ∧ Blk w' c 116 (cliA s q i b zeroP.toList) ∧ Chg (fun k => k = c) w w' := by
  go_enter Try.func41, Try.ntmps41
  go_wp2_with (first | (refine Great.wpList_readTo rfl (some 3) rfl (.agg zeroP) (by kernel_rfl) ?_) | (refine wpList_store_cli rfl (.tmp 5) (.tmp 3) rfl zeroP rfl rfl hC hw zeroP_size zeroP_one fun w2 hC2 hc2 => ?_))
  exact bodyPost_end (results_none rfl _ _ _) rfl ⟨rfl, hC2, hc2⟩

set_option maxHeartbeats 4000000 in
theorem over {g n m c base : Nat} {l : List UInt8} {w : World} (hO : OwnB w base (.slice (some ⟨g, 0, none⟩) m c) l) (hn : n ≤ l.length) (hl : l.length ≤ 1000000000000) :
    Calls Try.prog 20 #[.slice (some ⟨g, 0, none⟩) n c] w fun e w' => e = .returned (.tuple #[]) ∧ (∃ l' : List UInt8, l'.length = l.length ∧ OwnB w' base (.slice (some ⟨g, 0, none⟩) m c) l') ∧ Chg (fun k => k = g) w w' := by
  have hcn : n ≤ c := by obtain ⟨A', c', e, h1, _⟩ := hO.shape; injection e with e1 e2 e3; omega
  go_enter Try.func20, Try.ntmps20
  go_wp2_with fail
  go_loopw [2] (fun iv wr => ∃ (k : Nat) (l' : List UInt8), iv = .int .i64 (k : Int) ∧ k ≤ n ∧ Hid (l'.length = l.length) ∧ OwnB wr base (.slice (some ⟨g, 0, none⟩) m c) l' ∧ Chg (fun k => k = g) w wr) (fun iv _ => n - (intOf iv).toNat)
  case atStart => exact ⟨0, l, rfl, Nat.zero_le _, hide rfl, hO, Chg.refl _ _⟩
  case round =>
    clear hO
    obtain ⟨k, l', rfl, hk, hl', hO, hc⟩ := hrel
    by_cases h1 : k < n
    · have h1i : (k : Int) < (n : Int) := by omega
      have h0i : (0 : Int) ≤ (k : Int) := by omega
      obtain ⟨hce, hfz⟩ := hO.cell (i := k) (by have := hl'.out; omega)
      obtain ⟨y, hy⟩ : ∃ y, y = l'[k]'(by have := hl'.out; omega) := ⟨_, rfl⟩
      rw [← hy] at hce
      have hxv := xorV y 255
      have hst := hO.stored k (y ^^^ 255)
      have hcs := hc.trans (Chg.setCell (S := fun k => k = g) (Chg.refl _ wr) (p := ⟨g, k, none⟩) (fun _ => rfl) (.int .u8 ((y ^^^ 255).toNat : Int))) fun _ _ h => h
      have h255 : ((255 : UInt8).toNat : Int) = 255 := rfl
      rw [h255] at hxv
      have HE := hide (And.intro (show (l'.set k (y ^^^ 255)).length = l.length by rw [List.length_set]; exact hl'.out) (And.intro hst hcs))
      clear hst hcs hy h255
      go_wp2_with fail
      go_roundw
      case rel => exact ⟨k + 1, _, by go_num, by omega, hide HE.out.1, HE.out.2.1, HE.out.2.2⟩
      case measure => simp [intOf]; omega
    · have h1i : ¬ (k : Int) < (n : Int) := by omega
      go_wp2_with fail
      exact bodyPost_end (results_none rfl _ _ _) rfl ⟨rfl, ⟨l', hl'.out, hO⟩, hc⟩
set_option maxRecDepth 100000 in
set_option maxHeartbeats 1000000 in
theorem refSpare2 {u : Value} {b : List UInt8} {F : Nat → Prop} {w : World} (hr : RdB w F u b) (hbl : b.length ≤ 1000000000000) :
    Calls Try.prog 14 #[u] w fun e w' => ∃ g n m : Nat, e = .returned (.tuple #[.slice (some ⟨g, 0, none⟩) b.length n, .slice (some ⟨g, 0, none⟩) m n]) ∧ OwnB w' w.heap.size (.slice (some ⟨g, 0, none⟩) m n) (spareL b) ∧ RdB w' (fun k => k = g) (.slice (some ⟨g, 0, none⟩) b.length n) b ∧ Chg Non w w' := by
  have hr0 := hr.lt
  have hlen8 := fun (w' : World) (ty : TypeId) => run_len8 hr w' ty
  obtain ⟨A, c, rfl, hcc, hcm⟩ := hr.shape
  unfold maxLen at hcm
  have hsl := spareL_len b
  obtain ⟨N, hN⟩ : ∃ N, N = b.length + 33 := ⟨_, rfl⟩
  have hNl : N ≤ 2000000000000 := by omega
  have hbN : b.length ≤ N := by omega
  have HSL := hide (show (spareL b).length = N by omega)
  have hw : IntKind.i64.wrap ((b.length : Int) + 33) = (N : Int) := by rw [IntWalk.i64_in _ (by omega)]; omega
  have hmk := fun (w' : World) => run_mkall w' N (by omega)
  have hown := own_mkall w N (by omega)
  have c1 := (Chg.refl Non w).alloc (.cells (madeCells #[.int .u8 0] N) 5)
  have hr1 := hr0.c0 c1
  clear hr hr0 hN hsl
  go_enter Try.func14, Try.ntmps14
  go_wp2_with fail
  generalize w.alloc (.cells (madeCells #[.int .u8 0] N) 5) = w1 at hown c1 hr1 ⊢
  obtain ⟨g, hg, hgw⟩ : ∃ g, g = w.heap.size ∧ w.heap.size ≤ g := ⟨_, rfl, Nat.le_refl _⟩
  have HG := hide hg
  rw [← hg] at hown ⊢
  clear hmk hw hg
  go_loopw [5] (fun iv wr => ∃ (k : Nat) (l : List UInt8), iv = .int .i64 (k : Int) ∧ k ≤ N ∧ OwnB wr g (.slice (some ⟨g, 0, none⟩) N N) l ∧ Hid (l.length = N ∧ l.take k = (spareL b).take k) ∧ RdB wr (fun k => F k ∧ k < w.heap.size) (.slice A b.length c) b ∧ Chg Non w wr) (fun iv _ => N - (intOf iv).toNat)
  case atStart => exact ⟨0, _, rfl, Nat.zero_le _, hown, hide ⟨by simp, by simp⟩, hr1, c1⟩
  case round =>
    clear hown c1 hr1
    obtain ⟨k, l, rfl, hk, hO, hl, hr, hcw⟩ := hrel
    by_cases h1 : k < N
    · have hkN : (k : Int) < (N : Int) := by omega
      have hk0 : (0 : Int) ≤ (k : Int) := by omega
      have htint := fun (w' : World) => refTint (i := k) (w := w') (by omega)
      have hll := hl.out.1
      have hfz := (hO.cell (i := k) (by omega)).2
      obtain ⟨cell0, hcell0⟩ : ∃ z, wr.cell? ⟨g, k, none⟩ = some z := ⟨_, (hO.cell (i := k) (by omega)).1⟩
      have hst := hO.stored k (tintB k)
      have hcst := hcw.setCell (p := ⟨g, k, none⟩) (fun hlt => by simp at hlt; omega) (.int .u8 ((tintB k).toNat : Int))
      have hrst := hr.chg ((Chg.refl (fun x => x = g) wr).setCell (p := ⟨g, k, none⟩) (fun _ => rfl) (.int .u8 ((tintB k).toNat : Int))) (fun x hx e => by have := hx.2; omega)
      by_cases h2 : k < b.length
      · have hd2 : decide ((k : Int) < (b.length : Int)) = true := decide_eq_true (by omega)
        have hkb : (k : Int) < (b.length : Int) := by omega
        have HN := hide (show ((l.set k (tintB k)).set k b[k]).length = N ∧ ((l.set k (tintB k)).set k b[k]).take (k + 1) = (spareL b).take (k + 1) by
          have hs := spareL_head b k (by have := HSL.out; omega) h2
          refine ⟨by rw [List.length_set, List.length_set]; exact hll, ?_⟩
          rw [List.set_set, ← hs]
          exact take_set_succ (by have := HSL.out; omega) (by have := HSL.out; omega) hl.out.2)
        obtain ⟨ad, rfl, hadF, hcb⟩ := hrst.at_ h2
        obtain ⟨y, hy⟩ : ∃ y, y = b[k] := ⟨_, rfl⟩
        rw [← hy] at hcb HN
        have hfz2 := (hst.cell (i := k) (by rw [List.length_set]; omega)).2
        have hll2 : (l.set k (tintB k)).length = N := by rw [List.length_set]; exact hll
        have hst2 := hst.stored k y
        have hcst2 := hcst.setCell (p := ⟨g, k, none⟩) (fun hlt => by simp at hlt; omega) (.int .u8 (y.toNat : Int))
        have hrst2 := hrst.chg ((Chg.refl (fun x => x = g) _).setCell (p := ⟨g, k, none⟩) (fun _ => rfl) (.int .u8 (y.toNat : Int))) (fun x hx e => by have := hx.2; omega)
        clear hll2
        clear hy hr hO hcw hl hll hst hcst hrst
        go_wp2_with fail
        refine (htint _).mono ?_
        rintro e w2 ⟨rfl, rfl⟩
        go_wp2_with fail
        go_round
        case rel => exact ⟨k + 1, _, by go_num, by omega, hst2, HN, hrst2, hcst2⟩
        case measure => simp [intOf]; omega
      · have hd2 : decide ((k : Int) < (b.length : Int)) = false := decide_eq_false (by omega)
        have HN := hide (show (l.set k (tintB k)).length = N ∧ (l.set k (tintB k)).take (k + 1) = (spareL b).take (k + 1) by
          have hs := spareL_tint b k (by have := HSL.out; omega) h2
          refine ⟨by rw [List.length_set]; exact hll, ?_⟩
          rw [← hs]
          exact take_set_succ (by have := HSL.out; omega) (by have := HSL.out; omega) hl.out.2)
        clear hr hO hcw hl hll
        go_wp2_with fail
        refine (htint _).mono ?_
        rintro e w2 ⟨rfl, rfl⟩
        go_wp2_with fail
        go_round
        case rel => exact ⟨k + 1, _, by go_num, by omega, hst, HN, hrst, hcst⟩
        case measure => simp [intOf]; omega
    · obtain rfl : k = N := by omega
      have hl2 := hl.out.2
      rw [List.take_of_length_le (by have := hl.out.1; omega), List.take_of_length_le (by have := HSL.out; omega)] at hl2
      rw [hl2] at hO
      have hs1 := hO.rd.front (j := b.length) (by have := HSL.out; omega)
      rw [spareL, List.take_left] at hs1
      have i1 : (b.length : Int) ≤ (k : Int) := by omega
      have i2 : b.length ≤ k := by omega
      have i0 : (0 : Int) ≤ (b.length : Int) := by omega
      clear hl hl2 hr
      go_wp2_with fail
      go_ret2
      exact ⟨g, k, k, rfl, hO.low hgw, hs1.mono fun j hj => by simpa [Value.ownBlock, eq_comm] using hj, hcw⟩
end Go.Proofs.Ytncchbcoldgpbaa
