/- rpc's client: a new one, what waits, a packet of its own. -/
import Derived.Test.YtncchbcoldgpbaaRvF
import Derived.Deep.MidRow
import Derived.BigQuiet
open List (getElem_toArray getElem_cons_succ getElem_cons_zero setIfInBounds_toArray set_cons_zero set_cons_succ)
namespace Go.Proofs.Ytncchbcoldgpbaa
open Go.RowKit
set_option linter.unusedVariables false
set_option linter.unusedSimpArgs false

/-- a client's cells: its session, its count, what it knows, what waits -/
def cliA (s q i b : Nat) (wt : List Value) : Array Value := ([uv s, uv q, uv i, uv b] ++ wt).toArray
theorem cliA_wait (s q i b : Nat) (wt : List Value) (k : Nat) : (cliA s q i b wt)[4 + k]? = wt[k]? := by
  rw [cliA, List.getElem?_toArray, List.getElem?_append_right (by simp)]
  simp
def zeroL : List Value := zeroP.toList

set_option maxHeartbeats 4000000 in
theorem cliNew {s : Nat} {w : World} : Calls Try.prog 15 #[.int .u64 (s : Int)] w fun e w' => ∃ g, e = .returned (.pointer (some ⟨g, 0, none⟩)) ∧ w.heap.size ≤ g ∧ Blk w' g 116 (cliA s 0 0 0 zeroL) ∧ Chg Non w w' := by
  have hX := Blk.new w 116 (cliA s 0 0 0 zeroL)
  have hcA := (Chg.refl Non w).alloc (.cells (cliA s 0 0 0 zeroL) 116)
  obtain ⟨ca, hca⟩ : ∃ ca, ca = cliA s 0 0 0 zeroL := ⟨_, rfl⟩
  rw [← hca] at hX hcA ⊢
  have HCA := hide hca
  clear hca
  go_enter Try.func15, Try.ntmps15
  go_wp2_with (refine Great.wpList_readTo rfl (some 4) rfl (.agg ca) (by rw [HCA.out]; kernel_rfl) ?_)
  go_ret
  exact ⟨_, rfl, Nat.le_refl _, hX, hcA⟩

theorem cliWaiting {c s q i b : Nat} {k : Int} {wt : List Value} {w : World} (hC : Blk w c 116 (cliA s q i b wt)) (h0 : wt[0]? = some (.int .i64 k)) :
    Calls Try.prog 43 #[.pointer (some ⟨c, 0, none⟩)] w fun e w' => e = .returned (.bool (k != 0)) ∧ w' = w := by
  have c4 : w.cell? ⟨c, 4, none⟩ = some (.int .i64 k) := (hC.cell 4).trans ((cliA_wait s q i b wt 0).trans h0)
  go_enter Try.func43, Try.ntmps43
  go_wp2_with fail
  go_ret
  exact ⟨rfl, rfl⟩

/-- a client's packet of a kind -/
def pktS (k : Int) (f : Nat) : Array Value := (zeroP.setIfInBounds 0 (.int .i64 k)).setIfInBounds 1 (.int .u64 (f : Int))
theorem pktS_size (k : Int) (f : Nat) : (pktS k f).size = 65 := by simp only [pktS, Array.size_setIfInBounds]; rfl
theorem pktS_one (k : Int) (f : Nat) : (pktS k f).all (·.oneCell') = true := set_all (set_all zeroP_one rfl) rfl

theorem res_pkt {fn : Func} {tm : Tmp} (h : fn.results = #[.cell tm 63]) {tmps : Array Value} {w : World} {p : Nat} {cs : Array Value} (hp : tmps.getD tm undef = .pointer (some ⟨p, 0, none⟩)) (hP : Blk w p 63 cs) (hs : cs.size = 65) :
    (results fn tmps).run Try.prog w = .ok (.agg cs) w :=
  results_cell_row (P := Try.prog) h tmps w p 63 cs (0, 0) _ hp hP Try.underlying63 rfl (by rw [hs]; exact info_pkt)
theorem res_pkt2 {fn : Func} {tm tn : Tmp} (h : fn.results = #[.cell tm 63, .tmp tn]) {tmps : Array Value} {w : World} {p : Nat} {cs : Array Value} {v : Value} (hp : tmps.getD tm undef = .pointer (some ⟨p, 0, none⟩)) (hP : Blk w p 63 cs) (hs : cs.size = 65) (hv : tmps.getD tn undef = v) :
    (results fn tmps).run Try.prog w = .ok (.tuple #[.agg cs, v]) w := by
  have hp' : tmps[tm]?.getD undef = .pointer (some ⟨p, 0, none⟩) := by simpa using hp
  have hv' : tmps[tn]?.getD undef = v := by simpa using hv
  simp [results, h, hp', hv', asAddr, run_loadP hP hs]

set_option maxHeartbeats 4000000 in
theorem cliPacket {c s q i b : Nat} {k : Int} {wt : List Value} {w : World} (hC : Blk w c 116 (cliA s q i b wt)) (hs : U64 (s + 16)) :
    Calls Try.prog 44 #[.pointer (some ⟨c, 0, none⟩), .int .i64 k] w fun e w' => e = .returned (.agg (pktS k (s + 16))) ∧ Chg Non w w' := by
  have c0 : w.cell? ⟨c, 0, none⟩ = some (.int .u64 (s : Int)) := hC.cell 0
  have hw : IntKind.u64.wrap ((s : Int) + 16) = ((s + 16 : Nat) : Int) := wrap_u64n hs
  have hX := Blk.new w 63 zeroP
  have hcA := (Chg.refl Non w).alloc (.cells zeroP 63)
  have c0A := hcA.cell c0 (fun h => h)
  obtain ⟨ps, hps⟩ : ∃ ps, ps = pktS k (s + 16) := ⟨_, rfl⟩
  have hp1 := pktS_one k (s + 16)
  have hp2 := pktS_size k (s + 16)
  rw [← hps] at hp1 hp2 ⊢
  obtain ⟨f, hf⟩ : ∃ f : Nat, f = s + 16 := ⟨_, rfl⟩
  rw [← hf] at hps hw
  have HPS := hide hps
  clear hps hf hs
  go_enter Try.func44, Try.ntmps44
  go_upto_region 1 with fail
  have hzz : (Try.zeroCells63 : Array Value) = zeroP := rfl
  try rw [hzz]
  clear hzz
  obtain ⟨p, hp⟩ : ∃ p, p = w.heap.size := ⟨_, rfl⟩
  rw [← hp] at hX ⊢
  have HP := hide hp
  clear hp c0
  generalize World.alloc _ _ = w1 at hX hcA c0A ⊢
  go_wp2_with (first | (refine Great.wpList_readTo rfl (some 11) rfl (.agg ps) (by rw [HPS.out]; kernel_rfl) ?_) | (refine wpList_store_pkt rfl (.tmp 4) (.tmp 11) rfl p ps rfl rfl _ hX zeroP_size hp2 hp1 fun w9 hP9 hc9 => ?_))
  exact bodyPost_ret (res_pkt rfl rfl hP9 hp2) rfl ⟨rfl, hcA.trans hc9 fun k hk e => by have := HP.out; omega⟩

/-- a packet that calls for nothing is its own twin -/
theorem clone0 {w : World} : Calls Try.prog 70 #[.slice none 0 0] w fun e w' => e = .returned (.slice none 0 0) ∧ w' = w := by
  have qT : ∀ (w : World) (a : Option Addr) (n c n' c' : Nat), (binOp .eql 25 (.slice a n c) (.slice none n' c')).run Try.prog w = .ok (.bool a.isNone) w := fun w a n c n' c' => Lib.run_eql_slice_nil w _ _ a n c n' c' Try.underlying25
  go_enter Try.func70, Try.ntmps70
  go_wp2_with fail
  go_ret
  exact ⟨rfl, rfl⟩

set_option maxHeartbeats 4000000 in
set_option maxRecDepth 100000 in
theorem twin0 {arr : Array Value} {w : World} (hs : arr.size = 65) (h1 : arr.all (·.oneCell') = true) (h42 : arr[42]? = some (.slice none 0 0)) :
    Calls Try.prog 46 #[.agg arr] w fun e w' => e = .returned (.agg arr) ∧ Chg Non w w' := by
  have hX := Blk.new w 63 arr
  have hcA := (Chg.refl Non w).alloc (.cells arr 63)
  have hsA : (w.alloc (.cells arr 63)).heap.size = w.heap.size + 1 := by simp
  have hY := Blk.new (w.alloc (.cells arr 63)) 63 zeroP
  have hcB := (Chg.refl Non (w.alloc (.cells arr 63))).alloc (.cells zeroP 63)
  have hXB := hX.c0 hcB
  have hcW := hcA.trans0 hcB
  rw [hsA] at hY
  have hz42 : arr.setIfInBounds 42 (.slice none 0 0) = arr := by
    refine Array.ext_getElem? fun j => ?_
    by_cases e : 42 = j
    · subst e; rw [Array.getElem?_setIfInBounds_self_of_lt (by omega)]; exact h42.symm
    · rw [Array.getElem?_setIfInBounds_ne e]
  have HZ := hide (And.intro hz42 h42)
  clear hX hcA hcB hz42 h42
  go_enter Try.func46, Try.ntmps46
  go_upto_region 1 with fail
  have hzz : (Try.zeroCells63 : Array Value) = zeroP := rfl
  try rw [hzz]
  clear hzz hsA
  generalize World.alloc (World.alloc w _) _ = w0 at hY hXB hcW ⊢
  obtain ⟨p, hp⟩ : ∃ p, p = w.heap.size := ⟨_, rfl⟩
  obtain ⟨q, hq⟩ : ∃ q, q = w.heap.size + 1 := ⟨_, rfl⟩
  rw [← hq] at hY
  rw [← hp] at hXB
  rw [← hq, ← hp]
  have HPQ := hide (And.intro hp hq)
  have hpq : p ≠ q := by omega
  clear hp hq
  have c42 : w0.cell? ⟨p, 42, none⟩ = some (.slice none 0 0) := (hXB.cell 42).trans HZ.out.2
  have f42 := hXB.frozen 42
  go_upto_region 2 with (go_at_call 70; refine clone0.mono ?_; rintro e w9 ⟨rfl, h9⟩; have h8 := h9.symm; clear h9; subst h8)
  rw [setCell_id c42]
  go_wp2_with fail
  go_loopw [15] (fun iv wr => iv = .int .i64 0 ∧ wr = w0) (fun iv _ => 0)
  case atStart => exact ⟨rfl, rfl⟩
  case round =>
    obtain ⟨rfl, rfl⟩ := hrel
    go_wp2_with (first | (refine wpList_load_row rfl 63 (.tmp 1) rfl p rfl 63 arr (0, 0) _ hXB Try.underlying63 rfl (by rw [hs]; exact info_pkt) ?_) | (refine wpList_store_pkt rfl (.tmp 2) (.tmp 39) rfl q arr rfl rfl _ hY zeroP_size hs h1 fun w9 hP9 hc9 => ?_))
    exact bodyPost_ret (res_pkt rfl rfl hP9 hs) rfl ⟨rfl, hcW.trans hc9 fun k hk e => by have := HPQ.out; omega⟩
end Go.Proofs.Ytncchbcoldgpbaa

namespace Go.Proofs.Ytncchbcoldgpbaa
open Go.RowKit
set_option linter.unusedVariables false
set_option linter.unusedSimpArgs false

theorem setCells_blk {g : Nat} {t : TypeId} : ∀ (vs : List Value) (pre old post : List Value) (w : World), old.length = vs.length → Blk w g t (pre ++ (old ++ post)).toArray →
    Blk (w.setCells g pre.length vs) g t (pre ++ (vs ++ post)).toArray ∧ Chg (fun k => k = g) w (w.setCells g pre.length vs)
  | [], pre, old, post, w, hl, h => by
    have ho : old = [] := List.eq_nil_of_length_eq_zero hl
    subst ho
    exact ⟨h, Chg.refl _ _⟩
  | v :: vs, pre, [], post, w, hl, h => by simp at hl
  | v :: vs, pre, o :: old, post, w, hl, h => by
    have h1 := h.set_ pre.length v
    rw [List.setIfInBounds_toArray, List.set_append, if_neg (by omega), Nat.sub_self, List.cons_append, List.set_cons_zero] at h1
    have h2 := setCells_blk vs (pre ++ [v]) old post _ (by simpa using hl) (by rw [List.append_assoc]; exact h1)
    rw [List.append_assoc, List.length_append, List.length_singleton] at h2
    exact ⟨h2.1, (Chg.setCell (S := fun k => k = g) (Chg.refl _ w) (p := ⟨g, pre.length, none⟩) (fun _ => rfl) v).trans h2.2 fun _ _ h => h⟩
theorem there_of {w : World} {g o n : Nat} {t : TypeId} {cs : Array Value} (h : Blk w g t cs) (hn : o + n ≤ cs.size) : w.there g o n := fun j hj => by
  rw [h.cell, h.frozen]
  refine ⟨?_, rfl⟩
  rw [Array.getElem?_eq_getElem (by omega)]
  rfl
theorem cliA_size (s q i b : Nat) (wt : List Value) : (cliA s q i b wt).size = 4 + wt.length := by simp [cliA]; omega
/-- a packet stored as what waits -/
theorem wpList_store_cli {ops : Array Oper} {rest : List Oper} {o : Oper} {a : Act} {w : World} {Q : Exit → Act → World → Prop} (hgd : o.guard = none) (x y : Operand) (ho : o.op = .store 63 x y)
    {c s q i b : Nat} {wt : List Value} (cells : Array Value) (hx : a.eval x = .pointer (some ⟨c, 4, none⟩)) (hy : a.eval y = .agg cells) (hC : Blk w c 116 (cliA s q i b wt)) (hw : wt.length = 65) (hc : cells.size = 65) (h1 : cells.all (·.oneCell') = true)
    (h : ∀ w', Blk w' c 116 (cliA s q i b cells.toList) → Chg (fun k => k = c) w w' → wpList Try.prog ops Q rest (a.put o.dst undef) w') : wpList Try.prog ops Q (o :: rest) a w := by
  have hb := setCells_blk cells.toList [uv s, uv q, uv i, uv b] wt [] w (by simp [hw, hc]) (by rw [List.append_nil]; exact hC)
  rw [List.append_nil] at hb
  exact wpList_store_mid (P := Try.prog) hgd 63 x y ho c 4 cells hx hy (there_of hC (by rw [cliA_size]; omega)) (by rw [hc]; exact info_pkt) h1 (h _ hb.1 hb.2)

set_option maxHeartbeats 4000000 in
set_option maxRecDepth 100000 in
theorem wait0 {c s q i b : Nat} {wt : List Value} {arr : Array Value} {w : World} (hC : Blk w c 116 (cliA s q i b wt)) (hwt : wt.length = 65) (hs : arr.size = 65) (h1 : arr.all (·.oneCell') = true) (h42 : arr[42]? = some (.slice none 0 0)) :
    Calls Try.prog 45 #[.pointer (some ⟨c, 0, none⟩), .agg arr] w fun e w' => e = .returned (.tuple #[.agg arr, .int .i64 0]) ∧ Blk w' c 116 (cliA s q i b arr.toList) ∧ Chg (fun k => k = c) w w' := by
  have hX := Blk.new w 63 arr
  have hcA := (Chg.refl Non w).alloc (.cells arr 63)
  have hsA : (w.alloc (.cells arr 63)).heap.size = w.heap.size + 1 := by simp
  have hY := Blk.new (w.alloc (.cells arr 63)) 63 zeroP
  have hcB := (Chg.refl Non (w.alloc (.cells arr 63))).alloc (.cells zeroP 63)
  have hXB := hX.c0 hcB
  have hcW := hcA.trans0 hcB
  have hC0 := hC.c0 hcW
  have hcl := hC.lt
  rw [hsA] at hY
  clear hX hcA hcB
  go_enter Try.func45, Try.ntmps45
  go_upto_region 1 with fail
  have hzz : (Try.zeroCells63 : Array Value) = zeroP := rfl
  try rw [hzz]
  clear hzz hsA
  generalize World.alloc (World.alloc w _) _ = w0 at hY hXB hcW hC0 ⊢
  obtain ⟨p, hp⟩ : ∃ p, p = w.heap.size := ⟨_, rfl⟩
  obtain ⟨p2, hq⟩ : ∃ q, q = w.heap.size + 1 := ⟨_, rfl⟩
  rw [← hq] at hY
  rw [← hp] at hXB
  rw [← hq, ← hp]
  have HPQ := hide (And.intro hp hq)
  have hpq : p ≠ p2 ∧ p ≠ c ∧ p2 ≠ c := by omega
  clear hp hq hC
  have hyl := hY.lt
  go_upto_region 2 with (first | (refine wpList_load_row rfl 63 (.tmp 3) rfl p rfl 63 arr (0, 0) _ hXB Try.underlying63 rfl (by rw [hs]; exact info_pkt) ?_) | (go_at_call 46; refine (twin0 hs h1 h42).mono ?_; rintro e w1 ⟨rfl, hc1⟩) | (refine wpList_store_cli rfl (.tmp 10) (.tmp 8) rfl arr rfl rfl (hC0.c0 hc1) hwt hs h1 fun w2 hC2 hc2 => ?_))
  have hX2 := (hXB.c0 hc1).chg hc2 hpq.2.1
  have hY2 := (hY.c0 hc1).chg hc2 hpq.2.2
  go_wp2_with (first | (refine wpList_load_row rfl 63 (.tmp 3) rfl p rfl 63 arr (0, 0) _ hX2 Try.underlying63 rfl (by rw [hs]; exact info_pkt) ?_) | (refine wpList_store_pkt rfl (.tmp 4) (.tmp 11) rfl p2 arr rfl rfl _ hY2 zeroP_size hs h1 fun w9 hP9 hc9 => ?_))
  refine bodyPost_ret (res_pkt2 rfl rfl hP9 hs rfl) rfl ⟨rfl, hC2.chg hc9 (fun e => hpq.2.2 e.symm), ?_⟩
  exact ((chgX (hcW.trans0 hc1)).trans hc2 fun _ _ h => h).trans hc9 fun k hk e => by have := HPQ.out; omega

set_option maxHeartbeats 4000000 in
theorem check0 {w : World} : Calls Try.prog 42 #[.slice none 0 0] w fun e w' => e = .returned (.int .i64 0) ∧ w' = w := by
  go_enter Try.func42, Try.ntmps42
  go_wp2_with fail
  go_loopw [3, 9] (fun ov iv wr => ov = .int .i64 0 ∧ iv = .int .i64 0 ∧ wr = w) (fun _ iv _ => 0)
  case atStart => exact ⟨rfl, rfl, rfl⟩
  case round =>
    obtain ⟨rfl, rfl, h⟩ := hrel
    have h8 := h.symm
    clear h
    subst h8
    go_wp2_with fail
    go_ret
    exact ⟨rfl, rfl⟩
/-- the packet of a call for nothing -/
def pktC (f i b s q : Nat) (vo : Value) : Array Value := ((((((pktS 6 f).setIfInBounds 38 (uv i)).setIfInBounds 39 (uv b)).setIfInBounds 40 (uv s)).setIfInBounds 41 (uv q)).setIfInBounds 42 vo)

set_option maxHeartbeats 4000000 in
set_option maxRecDepth 100000 in
theorem callNone {c s q i : Nat} {wt : List Value} {w : World} (hC : Blk w c 116 (cliA s q i 0 wt)) (h0 : wt[0]? = some (.int .i64 0)) :
    Calls Try.prog 17 #[.pointer (some ⟨c, 0, none⟩), .slice none 0 0] w fun e w' => e = .returned (.tuple #[.agg zeroP, .int .i64 6]) ∧ Chg Non w w' := by
  have hY := Blk.new w 63 zeroP
  have hcW := (Chg.refl Non w).alloc (.cells zeroP 63)
  have hC0 := hC.c0 hcW
  have c3 : (w.alloc (.cells zeroP 63)).cell? ⟨c, 3, none⟩ = some (.int .u64 0) := hC0.cell 3
  go_enter Try.func17, Try.ntmps17
  go_upto_region 1 with fail
  have hzz : (Try.zeroCells63 : Array Value) = zeroP := rfl
  try rw [hzz]
  clear hzz hC
  obtain ⟨p, hp⟩ : ∃ p, p = w.heap.size := ⟨_, rfl⟩
  rw [← hp] at hY ⊢
  have HP := hide hp
  clear hp
  generalize World.alloc _ _ = w1 at hY hcW hC0 c3 ⊢
  go_wp2_with (first | (go_at_call 42; refine check0.mono ?_; rintro e w9 ⟨rfl, h9⟩; have h8 := h9.symm; clear h9; subst h8) | (go_at_call 43; refine (cliWaiting hC0 h0).mono ?_; rintro e w9 ⟨rfl, h9⟩; have h8 := h9.symm; clear h9; subst h8) | (refine Great.wpList_readTo rfl (some 25) rfl (.agg zeroP) (by kernel_rfl) ?_) | (refine wpList_store_pkt rfl (.tmp 4) (.tmp 25) rfl p zeroP rfl rfl _ hY zeroP_size zeroP_size zeroP_one fun w9 hP9 hc9 => ?_))
  exact bodyPost_ret (res_pkt2 rfl rfl hP9 zeroP_size rfl) rfl ⟨rfl, hcW.trans hc9 fun k hk e => by have := HP.out; omega⟩

set_option maxHeartbeats 4000000 in
set_option maxRecDepth 100000 in
theorem callBusy {c s q i b : Nat} {k : Int} {wt : List Value} {w : World} (hC : Blk w c 116 (cliA s q i b wt)) (h0 : wt[0]? = some (.int .i64 k)) (hk : k ≠ 0) :
    Calls Try.prog 17 #[.pointer (some ⟨c, 0, none⟩), .slice none 0 0] w fun e w' => e = .returned (.tuple #[.agg zeroP, .int .i64 14]) ∧ Chg Non w w' := by
  have hY := Blk.new w 63 zeroP
  have hcW := (Chg.refl Non w).alloc (.cells zeroP 63)
  have hC0 := hC.c0 hcW
  have hne : (k != 0) = true := by simp [hk]
  go_enter Try.func17, Try.ntmps17
  go_upto_region 1 with fail
  have hzz : (Try.zeroCells63 : Array Value) = zeroP := rfl
  try rw [hzz]
  clear hzz hC
  obtain ⟨p, hp⟩ : ∃ p, p = w.heap.size := ⟨_, rfl⟩
  rw [← hp] at hY ⊢
  have HP := hide hp
  clear hp
  generalize World.alloc _ _ = w1 at hY hcW hC0 ⊢
  go_wp2_with (first | (go_at_call 42; refine check0.mono ?_; rintro e w9 ⟨rfl, h9⟩; have h8 := h9.symm; clear h9; subst h8) | (go_at_call 43; refine (cliWaiting hC0 h0).mono ?_; rintro e w9 ⟨rfl, h9⟩; have h8 := h9.symm; clear h9; subst h8) | (refine Great.wpList_readTo rfl (some 17) rfl (.agg zeroP) (by kernel_rfl) ?_) | (refine wpList_store_pkt rfl (.tmp 4) (.tmp 17) rfl p zeroP rfl rfl _ hY zeroP_size zeroP_size zeroP_one fun w9 hP9 hc9 => ?_))
  exact bodyPost_ret (res_pkt2 rfl rfl hP9 zeroP_size rfl) rfl ⟨rfl, hcW.trans hc9 fun k hk e => by have := HP.out; omega⟩
end Go.Proofs.Ytncchbcoldgpbaa

namespace Go.Proofs.Ytncchbcoldgpbaa
open Go.RowKit
set_option linter.unusedVariables false
set_option linter.unusedSimpArgs false

theorem info_call : (Try.prog.info? 51).map (·.size) = some 5 := by kernel_rfl
theorem pktC_mid (f i b s q : Nat) (vo : Value) : (((pktS 6 f).toList.take 38) ++ ([uv i, uv b, uv s, uv q, vo] ++ (pktS 6 f).toList.drop 43)).toArray = pktC f i b s q vo := rfl
theorem pktC_one {f i b s q : Nat} {vo : Value} (h : vo.oneCell' = true) : (pktC f i b s q vo).all (·.oneCell') = true := set_all (set_all (set_all (set_all (set_all (pktS_one _ _) rfl) rfl) rfl) rfl) h
theorem pktC_size (f i b s q : Nat) (vo : Value) : (pktC f i b s q vo).size = 65 := by simp only [pktC, Array.size_setIfInBounds, pktS_size]
theorem pktS_mid {w : World} {g f i b s q : Nat} {vo : Value} (h : Blk w g 63 (pktS 6 f)) : Blk (w.setCells g 38 [uv i, uv b, uv s, uv q, vo]) g 63 (pktC f i b s q vo) ∧ Chg (fun k => k = g) w (w.setCells g 38 [uv i, uv b, uv s, uv q, vo]) := by
  have h1 := setCells_blk [uv i, uv b, uv s, uv q, vo] ((pktS 6 f).toList.take 38) (((pktS 6 f).toList.drop 38).take 5) ((pktS 6 f).toList.drop 43) w rfl h
  rw [pktC_mid] at h1
  exact h1

set_option maxHeartbeats 16000000 in
set_option maxRecDepth 100000 in
theorem callGo {c s q i b : Nat} {wt : List Value} {w : World} (hC : Blk w c 116 (cliA s q i b wt)) (hwt : wt.length = 65) (h0 : wt[0]? = some (.int .i64 0)) (hb : b ≠ 0) (hs : U64 (s + 16)) (hq : U64 (q + 1)) :
    Calls Try.prog 17 #[.pointer (some ⟨c, 0, none⟩), .slice none 0 0] w fun e w' => e = .returned (.tuple #[.agg (pktC (s + 16) i b s (q + 1) (.slice none 0 0)), .int .i64 0]) ∧
      Blk w' c 116 (cliA s (q + 1) i b (pktC (s + 16) i b s (q + 1) (.slice none 0 0)).toList) ∧ Chg (fun k => k = c) w w' := by
  have hY := Blk.new w 63 zeroP
  have hcW := (Chg.refl Non w).alloc (.cells zeroP 63)
  have hC0 := hC.c0 hcW
  have hcl := hC.lt
  have c3 : (w.alloc (.cells zeroP 63)).cell? ⟨c, 3, none⟩ = some (.int .u64 (b : Int)) := hC0.cell 3
  have c1 : (w.alloc (.cells zeroP 63)).cell? ⟨c, 1, none⟩ = some (.int .u64 (q : Int)) := hC0.cell 1
  have f1 := hC0.frozen 1
  have hbz : ((b : Int) == 0) = false := beq_eq_false_iff_ne.2 (by omega)
  have hw1 : IntKind.u64.wrap ((q : Int) + 1) = ((q + 1 : Nat) : Int) := wrap_u64n hq
  obtain ⟨q1, hq1⟩ : ∃ q1, q1 = q + 1 := ⟨_, rfl⟩
  rw [← hq1] at hw1 ⊢
  obtain ⟨fr, hfr⟩ : ∃ fr, fr = s + 16 := ⟨_, rfl⟩
  have HFR := hide hfr
  rw [← hfr]
  have HQ1 := hide hq1
  have HSU := hide hs
  obtain ⟨ar, har⟩ : ∃ ar, ar = pktC fr i b s q1 (.slice none 0 0) := ⟨_, rfl⟩
  have h1 : ar.all (·.oneCell') = true := by rw [har]; exact pktC_one rfl
  have h2 : ar.size = 65 := by rw [har]; exact pktC_size _ _ _ _ _ _
  have h42 : ar[42]? = some (.slice none 0 0) := by rw [har]; rfl
  rw [← har]
  have HAR := hide har
  have H42 := hide h42
  clear har h42
  clear hq1 hfr hq hs hb
  go_enter Try.func17, Try.ntmps17
  go_upto_region 1 with fail
  have hzz : (Try.zeroCells63 : Array Value) = zeroP := rfl
  try rw [hzz]
  obtain ⟨p, hp⟩ : ∃ p, p = w.heap.size := ⟨_, rfl⟩
  rw [← hp] at hY ⊢
  have HP := hide hp
  have hpc : p ≠ c := by omega
  clear hp hC
  generalize World.alloc _ _ = w1 at hY hcW hC0 c3 c1 f1 ⊢
  go_upto_region 9 with (first | (go_at_call 42; refine check0.mono ?_; rintro e w9 ⟨rfl, h9⟩; have h8 := h9.symm; clear h9; subst h8) | (go_at_call 43; refine (cliWaiting hC0 h0).mono ?_; rintro e w9 ⟨rfl, h9⟩; have h8 := h9.symm; clear h9; subst h8))
  have hC1 : Blk (w1.setCell ⟨c, 1, none⟩ (.int .u64 (q1 : Int))) c 116 (cliA s q1 i b wt) := hC0.set_ 1 _
  have hY1 := hY.far (p := ⟨c, 1, none⟩) hpc (.int .u64 (q1 : Int))
  have hcc : Chg (fun k => k = c) w (w1.setCell ⟨c, 1, none⟩ (.int .u64 (q1 : Int))) := Chg.setCell (S := fun k => k = c) (chgX hcW) (p := ⟨c, 1, none⟩) (fun _ => rfl) _
  generalize World.setCell _ _ _ = w2 at hC1 hY1 hcc ⊢
  clear hC0 hY hcW c3 c1 f1 hbz hw1
  have hX := fun (w' : World) => Blk.new w' 63 zeroP
  have HPK := hide (cliPacket (k := 6) hC1 HSU.out)
  rw [← HFR.out] at HPK
  go_upto_region 10 with (first | (go_at_call 44; refine HPK.out.mono ?_; rintro e w3 ⟨rfl, hc3⟩; have hX3 := Blk.new w3 63 zeroP; have hcA := (Chg.refl Non w3).alloc (.cells zeroP 63)) | (refine wpList_store_pkt rfl (.tmp 7) (.tmp 34) rfl w3.heap.size (pktS 6 fr) rfl rfl _ hX3 zeroP_size (pktS_size _ _) (pktS_one _ _) fun w4 hP4 hc4 => ?_))
  obtain ⟨g, hg⟩ : ∃ g, g = w3.heap.size := ⟨_, rfl⟩
  rw [← hg] at hP4 hX3 hc4 ⊢
  have hsz3 := (hcc.trans0 hc3).size
  have hpl : p < w2.heap.size := hY1.lt
  have hcl3 := hc3.size
  have hgc : g ≠ c ∧ p ≠ g := by omega
  have hC4 := ((hC1.c0 hc3).c0 hcA).chg hc4 (fun e => hgc.1 e.symm)
  have hY4 := ((hY1.c0 hc3).c0 hcA).chg hc4 hgc.2
  have hcd : Chg (fun k => k = c) w w4 := ((hcc.trans0 hc3).trans0 hcA).trans hc4 fun k hk e => by omega
  have HG := hide (And.intro hg hsz3)
  clear hg hX3 hcA hc3 hc4 hC1 hY1 hcc HPK hX hsz3 hpl hcl3
  go_upto_region 10 with fail
  obtain ⟨S, hSd⟩ : ∃ S : World → Prop, ∀ w', S w' ↔ (w'.cell? ⟨c, 0, none⟩ = some (.int .u64 (s : Int)) ∧ w'.cell? ⟨c, 1, none⟩ = some (.int .u64 (q1 : Int)) ∧ w'.cell? ⟨c, 2, none⟩ = some (.int .u64 (i : Int)) ∧ w'.cell? ⟨c, 3, none⟩ = some (.int .u64 (b : Int))) := ⟨_, fun _ => Iff.rfl⟩
  have HSd := hide hSd
  have HS := hide ((hSd w4.drew).2 ⟨hC4.cell 0, hC4.cell 1, hC4.cell 2, hC4.cell 3⟩)
  clear hSd
  refine wp_region_T S 22 (by kernel_rfl) ?_
  refine AnyT.take (i := 0) (v := ?_) rfl (by kernel_rfl) (by kernel_rfl) (fun _ _ _ h => h) (by kernel_rfl) (by kernel_rfl) (Or.inl ⟨by rfl, ?_⟩) HS.out ?_
  rotate_left
  · (intro w9 h9; first | (go_simp; with_reducible rfl) | (obtain ⟨y0, y1, y2, y3⟩ := (HSd.out _).1 h9; go_simp; try with_reducible rfl))
  try simp only [getElem_toArray, getElem_cons_succ, getElem_cons_zero, Act.put, setIfInBounds_toArray, set_cons_zero, set_cons_succ]
  refine AnyT.take (i := 1) (v := ?_) rfl (by kernel_rfl) (by kernel_rfl) (fun _ _ _ h => h) (by kernel_rfl) (by kernel_rfl) (Or.inl ⟨by rfl, ?_⟩) HS.out ?_
  rotate_left
  · (intro w9 h9; first | (go_simp; with_reducible rfl) | (obtain ⟨y0, y1, y2, y3⟩ := (HSd.out _).1 h9; go_simp; try with_reducible rfl))
  try simp only [getElem_toArray, getElem_cons_succ, getElem_cons_zero, Act.put, setIfInBounds_toArray, set_cons_zero, set_cons_succ]
  refine AnyT.take (i := 2) (v := ?_) rfl (by kernel_rfl) (by kernel_rfl) (fun _ _ _ h => h) (by kernel_rfl) (by kernel_rfl) (Or.inl ⟨by rfl, ?_⟩) HS.out ?_
  rotate_left
  · (intro w9 h9; first | (go_simp; with_reducible rfl) | (obtain ⟨y0, y1, y2, y3⟩ := (HSd.out _).1 h9; go_simp; try with_reducible rfl))
  try simp only [getElem_toArray, getElem_cons_succ, getElem_cons_zero, Act.put, setIfInBounds_toArray, set_cons_zero, set_cons_succ]
  refine AnyT.take (i := 3) (v := ?_) rfl (by kernel_rfl) (by kernel_rfl) (fun _ _ _ h => h) (by kernel_rfl) (by kernel_rfl) (Or.inl ⟨by rfl, ?_⟩) HS.out ?_
  rotate_left
  · (intro w9 h9; first | (go_simp; with_reducible rfl) | (obtain ⟨y0, y1, y2, y3⟩ := (HSd.out _).1 h9; go_simp; try with_reducible rfl))
  try simp only [getElem_toArray, getElem_cons_succ, getElem_cons_zero, Act.put, setIfInBounds_toArray, set_cons_zero, set_cons_succ]
  refine AnyT.take (i := 4) (v := ?_) rfl (by kernel_rfl) (by kernel_rfl) (fun _ _ _ h => h) (by kernel_rfl) (by kernel_rfl) (Or.inl ⟨by rfl, ?_⟩) HS.out ?_
  rotate_left
  · (intro w9 h9; first | (go_simp; with_reducible rfl) | (obtain ⟨y0, y1, y2, y3⟩ := (HSd.out _).1 h9; go_simp; try with_reducible rfl))
  try simp only [getElem_toArray, getElem_cons_succ, getElem_cons_zero, Act.put, setIfInBounds_toArray, set_cons_zero, set_cons_succ]
  refine AnyT.take (i := 5) (v := ?_) rfl (by kernel_rfl) (by kernel_rfl) (fun _ _ _ h => h) (by kernel_rfl) (by kernel_rfl) (Or.inl ⟨by rfl, ?_⟩) HS.out ?_
  rotate_left
  · (intro w9 h9; first | (go_simp; with_reducible rfl) | (obtain ⟨y0, y1, y2, y3⟩ := (HSd.out _).1 h9; go_simp; try with_reducible rfl))
  try simp only [getElem_toArray, getElem_cons_succ, getElem_cons_zero, Act.put, setIfInBounds_toArray, set_cons_zero, set_cons_succ]
  refine AnyT.take (i := 6) (v := ?_) rfl (by kernel_rfl) (by kernel_rfl) (fun _ _ _ h => h) (by kernel_rfl) (by kernel_rfl) (Or.inl ⟨by rfl, ?_⟩) HS.out ?_
  rotate_left
  · (intro w9 h9; first | (go_simp; with_reducible rfl) | (obtain ⟨y0, y1, y2, y3⟩ := (HSd.out _).1 h9; go_simp; try with_reducible rfl))
  try simp only [getElem_toArray, getElem_cons_succ, getElem_cons_zero, Act.put, setIfInBounds_toArray, set_cons_zero, set_cons_succ]
  refine AnyT.take (i := 7) (v := ?_) rfl (by kernel_rfl) (by kernel_rfl) (fun _ _ _ h => h) (by kernel_rfl) (by kernel_rfl) (Or.inl ⟨by rfl, ?_⟩) HS.out ?_
  rotate_left
  · (intro w9 h9; first | (go_simp; with_reducible rfl) | (obtain ⟨y0, y1, y2, y3⟩ := (HSd.out _).1 h9; go_simp; try with_reducible rfl))
  try simp only [getElem_toArray, getElem_cons_succ, getElem_cons_zero, Act.put, setIfInBounds_toArray, set_cons_zero, set_cons_succ]
  refine AnyT.take (i := 8) (v := ?_) rfl (by kernel_rfl) (by kernel_rfl) (fun _ _ _ h => h) (by kernel_rfl) (by kernel_rfl) (Or.inl ⟨by rfl, ?_⟩) HS.out ?_
  rotate_left
  · (intro w9 h9; first | (go_simp; with_reducible rfl) | (obtain ⟨y0, y1, y2, y3⟩ := (HSd.out _).1 h9; go_simp; try with_reducible rfl))
  try simp only [getElem_toArray, getElem_cons_succ, getElem_cons_zero, Act.put, setIfInBounds_toArray, set_cons_zero, set_cons_succ]
  refine AnyT.take (i := 9) (v := ?_) rfl (by kernel_rfl) (by kernel_rfl) (fun _ _ _ h => h) (by kernel_rfl) (by kernel_rfl) (Or.inl ⟨by rfl, ?_⟩) HS.out ?_
  rotate_left
  · (intro w9 h9; first | (go_simp; with_reducible rfl) | (obtain ⟨y0, y1, y2, y3⟩ := (HSd.out _).1 h9; go_simp; try with_reducible rfl))
  try simp only [getElem_toArray, getElem_cons_succ, getElem_cons_zero, Act.put, setIfInBounds_toArray, set_cons_zero, set_cons_succ]
  refine AnyT.take (i := 10) (v := ?_) rfl (by kernel_rfl) (by kernel_rfl) (fun _ _ _ h => h) (by kernel_rfl) (by kernel_rfl) (Or.inl ⟨by rfl, ?_⟩) HS.out ?_
  rotate_left
  · (intro w9 h9; first | (go_simp; with_reducible rfl) | (obtain ⟨y0, y1, y2, y3⟩ := (HSd.out _).1 h9; go_simp; try with_reducible rfl))
  try simp only [getElem_toArray, getElem_cons_succ, getElem_cons_zero, Act.put, setIfInBounds_toArray, set_cons_zero, set_cons_succ]
  refine AnyT.take (i := 11) (v := ?_) rfl (by kernel_rfl) (by kernel_rfl) (fun _ _ _ h => h) (by kernel_rfl) (by kernel_rfl) (Or.inl ⟨by rfl, ?_⟩) HS.out ?_
  rotate_left
  · (intro w9 h9; first | (go_simp; with_reducible rfl) | (obtain ⟨y0, y1, y2, y3⟩ := (HSd.out _).1 h9; go_simp; try with_reducible rfl))
  try simp only [getElem_toArray, getElem_cons_succ, getElem_cons_zero, Act.put, setIfInBounds_toArray, set_cons_zero, set_cons_succ]
  refine AnyT.take (i := 12) (v := ?_) rfl (by kernel_rfl) (by kernel_rfl) (fun _ _ _ h => h) (by kernel_rfl) (by kernel_rfl) (Or.inl ⟨by rfl, ?_⟩) HS.out ?_
  rotate_left
  · (intro w9 h9; first | (go_simp; with_reducible rfl) | (obtain ⟨y0, y1, y2, y3⟩ := (HSd.out _).1 h9; go_simp; try with_reducible rfl))
  try simp only [getElem_toArray, getElem_cons_succ, getElem_cons_zero, Act.put, setIfInBounds_toArray, set_cons_zero, set_cons_succ]
  refine AnyT.take (i := 13) (v := ?_) rfl (by kernel_rfl) (by kernel_rfl) (fun _ _ _ h => h) (by kernel_rfl) (by kernel_rfl) (Or.inl ⟨by rfl, ?_⟩) HS.out ?_
  rotate_left
  · (intro w9 h9; first | (go_simp; with_reducible rfl) | (obtain ⟨y0, y1, y2, y3⟩ := (HSd.out _).1 h9; go_simp; try with_reducible rfl))
  try simp only [getElem_toArray, getElem_cons_succ, getElem_cons_zero, Act.put, setIfInBounds_toArray, set_cons_zero, set_cons_succ]
  refine AnyT.take (i := 14) (v := ?_) rfl (by kernel_rfl) (by kernel_rfl) (fun _ _ _ h => h) (by kernel_rfl) (by kernel_rfl) (Or.inl ⟨by rfl, ?_⟩) HS.out ?_
  rotate_left
  · (intro w9 h9; first | (go_simp; with_reducible rfl) | (obtain ⟨y0, y1, y2, y3⟩ := (HSd.out _).1 h9; go_simp; try with_reducible rfl))
  try simp only [getElem_toArray, getElem_cons_succ, getElem_cons_zero, Act.put, setIfInBounds_toArray, set_cons_zero, set_cons_succ]
  refine AnyT.take (i := 15) (v := ?_) rfl (by kernel_rfl) (by kernel_rfl) (fun _ _ _ h => h) (by kernel_rfl) (by kernel_rfl) (Or.inl ⟨by rfl, ?_⟩) HS.out ?_
  rotate_left
  · (intro w9 h9; first | (go_simp; with_reducible rfl) | (obtain ⟨y0, y1, y2, y3⟩ := (HSd.out _).1 h9; go_simp; try with_reducible rfl))
  try simp only [getElem_toArray, getElem_cons_succ, getElem_cons_zero, Act.put, setIfInBounds_toArray, set_cons_zero, set_cons_succ]
  refine AnyT.take (i := 16) (v := ?_) rfl (by kernel_rfl) (by kernel_rfl) (fun _ _ _ h => h) (by kernel_rfl) (by kernel_rfl) (Or.inl ⟨by rfl, ?_⟩) HS.out ?_
  rotate_left
  · (intro w9 h9; first | (go_simp; with_reducible rfl) | (obtain ⟨y0, y1, y2, y3⟩ := (HSd.out _).1 h9; go_simp; try with_reducible rfl))
  try simp only [getElem_toArray, getElem_cons_succ, getElem_cons_zero, Act.put, setIfInBounds_toArray, set_cons_zero, set_cons_succ]
  refine AnyT.take (i := 17) (v := ?_) rfl (by kernel_rfl) (by kernel_rfl) (fun _ _ _ h => h) (by kernel_rfl) (by kernel_rfl) (Or.inl ⟨by rfl, ?_⟩) HS.out ?_
  rotate_left
  · (intro w9 h9; first | (go_simp; with_reducible rfl) | (obtain ⟨y0, y1, y2, y3⟩ := (HSd.out _).1 h9; go_simp; try with_reducible rfl))
  try simp only [getElem_toArray, getElem_cons_succ, getElem_cons_zero, Act.put, setIfInBounds_toArray, set_cons_zero, set_cons_succ]
  refine AnyT.take (i := 18) (v := ?_) rfl (by kernel_rfl) (by kernel_rfl) (fun _ _ _ h => h) (by kernel_rfl) (by kernel_rfl) (Or.inl ⟨by rfl, ?_⟩) HS.out ?_
  rotate_left
  · (intro w9 h9; first | (go_simp; with_reducible rfl) | (obtain ⟨y0, y1, y2, y3⟩ := (HSd.out _).1 h9; go_simp; try with_reducible rfl))
  try simp only [getElem_toArray, getElem_cons_succ, getElem_cons_zero, Act.put, setIfInBounds_toArray, set_cons_zero, set_cons_succ]
  refine AnyT.take (i := 19) (v := ?_) rfl (by kernel_rfl) (by kernel_rfl) (fun _ _ _ h => h) (by kernel_rfl) (by kernel_rfl) (Or.inl ⟨by rfl, ?_⟩) HS.out ?_
  rotate_left
  · (intro w9 h9; first | (go_simp; with_reducible rfl) | (obtain ⟨y0, y1, y2, y3⟩ := (HSd.out _).1 h9; go_simp; try with_reducible rfl))
  try simp only [getElem_toArray, getElem_cons_succ, getElem_cons_zero, Act.put, setIfInBounds_toArray, set_cons_zero, set_cons_succ]
  refine AnyT.take (i := 20) (v := ?_) rfl (by kernel_rfl) (by kernel_rfl) (fun _ _ _ h => h) (by kernel_rfl) (by kernel_rfl) (Or.inl ⟨by rfl, ?_⟩) HS.out ?_
  rotate_left
  · (intro w9 h9; first | (go_simp; with_reducible rfl) | (obtain ⟨y0, y1, y2, y3⟩ := (HSd.out _).1 h9; go_simp; try with_reducible rfl))
  try simp only [getElem_toArray, getElem_cons_succ, getElem_cons_zero, Act.put, setIfInBounds_toArray, set_cons_zero, set_cons_succ]
  refine AnyT.take (i := 21) (v := ?_) rfl (by kernel_rfl) (by kernel_rfl) (fun _ _ _ h => h) (by kernel_rfl) (by kernel_rfl) (Or.inl ⟨by rfl, ?_⟩) HS.out ?_
  rotate_left
  · (intro w9 h9; first | (go_simp; with_reducible rfl) | (obtain ⟨y0, y1, y2, y3⟩ := (HSd.out _).1 h9; go_simp; try with_reducible rfl))
  try simp only [getElem_toArray, getElem_cons_succ, getElem_cons_zero, Act.put, setIfInBounds_toArray, set_cons_zero, set_cons_succ]
  have hm := pktS_mid (i := i) (b := b) (s := s) (q := q1) (vo := .slice none 0 0) (show Blk w4.drew g 63 (pktS 6 fr) from hP4)
  have hth := there_of (o := 38) (n := 5) (show Blk w4.drew g 63 (pktS 6 fr) from hP4) (by rw [pktS_size]; decide)
  have HTH := hide (And.intro hth hm)
  clear hth hm
  refine AnyT.one (i := 22) (by kernel_rfl) rfl (fun K hK => ?_)
  rw [if_pos (by rfl)]
  try simp only [getElem_toArray, getElem_cons_succ, getElem_cons_zero, Act.put, setIfInBounds_toArray, set_cons_zero, set_cons_succ]
  refine wp_store_mid (P := Try.prog) 51 (.tmp 56) (.tmp 55) rfl g 38 #[uv i, uv b, uv s, uv q1, .slice none 0 0] rfl rfl HTH.out.1 info_call (by simp [uv, Value.oneCell']) ?_
  refine hK.out _ _ (fun h => absurd h (by decide)) ?_
  clear hK K
  have hm := HTH.out.2
  try simp only [getElem_toArray, getElem_cons_succ, getElem_cons_zero, Act.put, setIfInBounds_toArray, set_cons_zero, set_cons_succ]
  generalize World.setCells _ _ _ _ = w5 at hm ⊢
  obtain ⟨hP5, hc5⟩ := hm
  have hc5 := ((Chg.refl (fun k => k = g) w4).drew).trans hc5 fun _ _ h => h
  have hC5 := hC4.chg hc5 (fun e => hgc.1 e.symm)
  have hY5 := hY4.chg hc5 hgc.2
  have hcd5 : Chg (fun k => k = c) w w5 := hcd.trans hc5 fun k hk e => by have := HG.out; omega
  clear HS HSd HTH hP4 hC4 hY4 hcd hc5
  refine AnyT.nil (by kernel_rfl) ?_
  rw [← HAR.out] at hP5
  go_wp2_with (first | (refine wpList_load_row rfl 63 (.tmp 7) rfl g rfl 63 ar (0, 0) _ hP5 Try.underlying63 rfl (by rw [h2]; exact info_pkt) ?_) | (go_at_call 46; refine (twin0 h2 h1 H42.out).mono ?_; rintro e w6 ⟨rfl, hc6⟩) | (go_at_call 45; refine (wait0 (hC5.c0 hc6) hwt h2 h1 H42.out).mono ?_; rintro e w7 ⟨rfl, hC7, hc7⟩; have hY7 := (hY5.c0 hc6).chg hc7 hpc) | (refine wpList_store_pkt rfl (.tmp 4) (.tmp 61) rfl p ar rfl rfl _ hY7 zeroP_size h2 h1 fun w9 hP9 hc9 => ?_))
  refine bodyPost_ret (res_pkt2 rfl rfl hP9 h2 rfl) rfl ⟨rfl, hC7.chg hc9 (fun e => hpc e.symm), ?_⟩
  exact ((hcd5.trans0 hc6).trans hc7 fun _ _ h => h).trans hc9 fun k hk e => by have := HP.out; omega
end Go.Proofs.Ytncchbcoldgpbaa

namespace Go.Proofs.Ytncchbcoldgpbaa
open Go.RowKit
set_option linter.unusedVariables false
set_option linter.unusedSimpArgs false

theorem wpList_store_any {T : TypeId} {n : Nat} (hT : (Try.prog.info? T).map (·.size) = some n) {ops : Array Oper} {rest : List Oper} {o : Oper} {a : Act} {w : World} {Q : Exit → Act → World → Prop} (hgd : o.guard = none) (x y : Operand) (ho : o.op = .store T x y)
    (g : Nat) (cells : Array Value) (hx : a.eval x = .pointer (some ⟨g, 0, none⟩)) (hy : a.eval y = .agg cells) (old : Array Value) (hB : Blk w g T old) (hs : old.size = n) (hc : cells.size = n) (h1 : cells.all (·.oneCell') = true)
    (h : ∀ w', Blk w' g T cells → Chg (fun k => k = g) w w' → wpList Try.prog ops Q rest (a.put o.dst undef) w') : wpList Try.prog ops Q (o :: rest) a w :=
  wpList_plain hgd fun _ hK => wp_store_row (P := Try.prog) T x y ho g cells hx hy T old hB (by rw [hc]; exact hT) (by omega) h1 (hK _ _ (h _ (setRow_blk hB).1 (setRow_blk hB).2))
def zeroH : Array Value := #[.bool false, .int .i64 0, .int .i64 0, .int .i64 0, .slice none 0 0, .slice none 0 0, .int .u64 0, .int .u64 0, .int .u64 0]
theorem info_heard : (Try.prog.info? 81).map (·.size) = some 9 := by kernel_rfl
theorem zeroH_one : zeroH.all (·.oneCell') = true := by kernel_rfl
theorem zeroH_size : zeroH.size = 9 := rfl

set_option maxHeartbeats 8000000 in
set_option maxRecDepth 100000 in
theorem learnNew {c s q i b inc boot : Nat} {wt : List Value} {w : World} (hC : Blk w c 116 (cliA s q i b wt)) (hn : i < inc) :
    Calls Try.prog 39 #[.pointer (some ⟨c, 0, none⟩), .agg #[.int .u64 (inc : Int), .int .u64 (boot : Int)]] w fun e w' => e = .returned (.tuple #[]) ∧ Blk w' c 116 (cliA s q inc boot wt) ∧ Chg (fun k => k = c) w w' := by
  have hX := Blk.new w 61 #[.int .u64 (inc : Int), .int .u64 (boot : Int)]
  have hcA := (Chg.refl Non w).alloc (.cells #[.int .u64 (inc : Int), .int .u64 (boot : Int)] 61)
  have hC0 := hC.c0 hcA
  have hcl := hC.lt
  have hd : decide ((i : Int) < (inc : Int)) = true := decide_eq_true (by omega)
  go_enter Try.func39, Try.ntmps39
  go_upto_region 1 with fail
  obtain ⟨g, hg⟩ : ∃ g, g = w.heap.size := ⟨_, rfl⟩
  rw [← hg] at hX ⊢
  generalize World.alloc _ _ = w1 at hX hcA hC0 ⊢
  have hgc : g ≠ c := by omega
  clear hg hC
  have g0 : w1.cell? ⟨g, 0, none⟩ = some (.int .u64 (inc : Int)) := hX.cell 0
  have g1 : w1.cell? ⟨g, 1, none⟩ = some (.int .u64 (boot : Int)) := hX.cell 1
  have c2 : w1.cell? ⟨c, 2, none⟩ = some (.int .u64 (i : Int)) := hC0.cell 2
  have c3 : w1.cell? ⟨c, 3, none⟩ = some (.int .u64 (b : Int)) := hC0.cell 3
  have f2 := hC0.frozen 2
  have f3 := hC0.frozen 3
  go_quiet (fail)
  clear hd hn
  go_wp2_with fail
  refine bodyPost_end (results_none rfl _ _ _) rfl ⟨rfl, ?_, ?_⟩
  · exact ((hC0.dn nq).set_ 2 (.int .u64 (inc : Int))).set_ 3 (.int .u64 (boot : Int))
  · exact Chg.setCell (S := fun k => k = c) (Chg.setCell (S := fun k => k = c) ((chgX hcA).drewN nq) (p := ⟨c, 2, none⟩) (fun _ => rfl) _) (p := ⟨c, 3, none⟩) (fun _ => rfl) _

set_option maxHeartbeats 8000000 in
set_option maxRecDepth 100000 in
theorem takeWelcome {c s q i b inc boot : Nat} {wt : List Value} {arr : Array Value} {w : World} (hC : Blk w c 116 (cliA s q i b wt)) (hs : U64 (s + 16)) (hn : i < inc) (h0 : arr[0]? = some (.int .i64 11)) (h2 : arr[2]? = some (.int .u64 ((s + 16 : Nat) : Int)))
    (h63 : arr[63]? = some (.int .u64 (inc : Int))) (h64 : arr[64]? = some (.int .u64 (boot : Int))) :
    Calls Try.prog 16 #[.pointer (some ⟨c, 0, none⟩), .agg arr] w fun e w' => (∃ v, e = .returned v) ∧ Blk w' c 116 (cliA s q inc boot wt) ∧ Chg (fun k => k = c) w w' := by
  have hX := Blk.new w 63 arr
  have hcA := (Chg.refl Non w).alloc (.cells arr 63)
  have hsA : (w.alloc (.cells arr 63)).heap.size = w.heap.size + 1 := by simp
  have hY := Blk.new (w.alloc (.cells arr 63)) 81 zeroH
  have hcB := (Chg.refl Non (w.alloc (.cells arr 63))).alloc (.cells zeroH 81)
  have hXB := hX.c0 hcB
  have hcW := hcA.trans0 hcB
  have hC0 := hC.c0 hcW
  have hcl := hC.lt
  rw [hsA] at hY
  have hw : IntKind.u64.wrap ((s : Int) + 16) = ((s + 16 : Nat) : Int) := wrap_u64n hs
  obtain ⟨f, hf⟩ : ∃ f : Nat, f = s + 16 := ⟨_, rfl⟩
  rw [← hf] at hw h2
  clear hX hcA hcB hf hs
  have hzz : (#[.bool false, .int .i64 0, .int .i64 0, .int .i64 0, .slice none 0 0, .slice none 0 0, .int .u64 0, .int .u64 0, .int .u64 0] : Array Value) = zeroH := rfl
  go_enter Try.func16, Try.ntmps16
  go_upto_region 1 with fail
  try rw [hzz]
  clear hsA
  obtain ⟨p, hp⟩ : ∃ p, p = w.heap.size := ⟨_, rfl⟩
  obtain ⟨g, hg⟩ : ∃ g, g = w.heap.size + 1 := ⟨_, rfl⟩
  rw [← hg] at hY
  rw [← hp] at hXB
  rw [← hg, ← hp]
  generalize World.alloc (World.alloc w _) _ = w1 at hY hXB hcW hC0 ⊢
  have hpg : p ≠ c ∧ g ≠ c := by omega
  have HPG := hide (And.intro hp hg)
  clear hp hg hC
  have p2 : w1.cell? ⟨p, 2, none⟩ = some (.int .u64 (f : Int)) := (hXB.cell 2).trans h2
  have p0 : w1.cell? ⟨p, 0, none⟩ = some (.int .i64 11) := (hXB.cell 0).trans h0
  have p63 : w1.cell? ⟨p, 63, none⟩ = some (.int .u64 (inc : Int)) := (hXB.cell 63).trans h63
  have p64 : w1.cell? ⟨p, 64, none⟩ = some (.int .u64 (boot : Int)) := (hXB.cell 64).trans h64
  have c0 : w1.cell? ⟨c, 0, none⟩ = some (.int .u64 (s : Int)) := hC0.cell 0
  go_quiet (fail)
  go_wp2_with (first | (go_at_call 39; refine (learnNew (hC0.dn nq) hn).mono ?_; rintro e w2 ⟨rfl, hC2, hc2⟩; have hY2 := (hY.dn nq).chg hc2 hpg.2) | (refine Great.wpList_readTo rfl (some 72) rfl (.agg zeroH) (by kernel_rfl) ?_) | (refine wpList_store_any info_heard rfl (.tmp 4) (.tmp 72) rfl g zeroH rfl rfl _ hY2 zeroH_size zeroH_size zeroH_one fun w9 hP9 hc9 => ?_))
  refine bodyPost_ret (results_cell_row (P := Try.prog) rfl _ _ g 81 zeroH (0, 0) _ rfl hP9 Try.underlying81 rfl (by rw [zeroH_size]; exact info_heard)) rfl ⟨⟨_, rfl⟩, hC2.chg hc9 (fun e => hpg.2 e.symm), ?_⟩
  exact (((chgX hcW).drewN nq).trans hc2 fun _ _ h => h).trans hc9 fun k hk e => by have := HPG.out; omega
end Go.Proofs.Ytncchbcoldgpbaa

namespace Go.Proofs.Ytncchbcoldgpbaa
open Go.RowKit
set_option linter.unusedVariables false
set_option linter.unusedSimpArgs false

def welP : Array Value := (((zeroP.setIfInBounds 0 (.int .i64 11)).setIfInBounds 2 (.int .u64 21)).setIfInBounds 63 (.int .u64 1)).setIfInBounds 64 (.int .u64 9)

set_option maxHeartbeats 16000000 in
set_option maxRecDepth 100000 in
theorem awake23 {w : World} : Calls Try.prog 6 #[] w fun e w' => e = .returned (.bool true) ∧ Chg Non w w' := by
  have hzz : (Try.zeroCells63 : Array Value) = zeroP := rfl
  have hnp : ∀ (w : World) (a : Addr), (binOp .eql 78 (.pointer (some a)) (.pointer none)).run Try.prog w = .ok (.bool false) w := fun w a => by
    simp [go_sem]
  go_enter Try.func6, Try.ntmps6
  go_upto_region 4 with (go_at_call 15; refine (cliNew (s := 5)).mono ?_; rintro e w1 ⟨c, rfl, hc, hC1, hc1⟩)
  have hz0 : zeroL[0]? = some (.int .i64 0) := rfl
  have hzl : zeroL.length = 65 := rfl
  have HZ := hide (And.intro hz0 hzl)
  clear hz0 hzl
  go_upto_region 5 with (first | (go_at_call 17; refine (callNone hC1 HZ.out.1).mono ?_; rintro e w2 ⟨rfl, hc2⟩; have hX2 := Blk.new w2 63 zeroP; have hcA := (Chg.refl Non w2).alloc (.cells zeroP 63)) | (refine wpList_store_pkt rfl (.tmp 2) (.tmp 14) rfl w2.heap.size zeroP rfl rfl _ hX2 zeroP_size zeroP_size zeroP_one fun w3 hP3 hc3 => ?_))
  have hcl := hC1.lt
  have hs2 := hc2.size
  have hC3 := ((hC1.c0 hc2).c0 hcA).chg hc3 (fun e => by omega)
  have hcW := (((hc1.trans0 hc2).trans0 hcA).trans hc3 fun k hk e => by have := hc1.size; omega)
  clear hC1 hc1 hc2 hX2 hcA hP3 hc3 hs2 hcl
  go_upto_region 6 with (first | (refine Great.wpList_readTo rfl (some 17) rfl (.agg #[.int .u64 1, .int .u64 9]) (by kernel_rfl) ?_) | (refine Great.wpList_readTo rfl (some 18) rfl (.agg welP) (by kernel_rfl) ?_) | (go_at_call 16; refine (takeWelcome (inc := 1) (boot := 9) hC3 (by unfold U64; omega) (by omega) rfl rfl rfl rfl).mono ?_; rintro e w4 ⟨⟨v4, rfl⟩, hC4, hc4⟩))
  have hcw4 := hcW.trans hc4 (fun k hk e => by omega)
  have h21 : U64 (5 + 16) := by unfold U64; omega
  have h1 : U64 (0 + 1) := by unfold U64; omega
  clear hC3 hcW hc4
  obtain ⟨ar, har⟩ : ∃ ar, ar = pktC (5 + 16) 1 9 5 (0 + 1) (.slice none 0 0) := ⟨_, rfl⟩
  have hCG := hide (callGo hC4 HZ.out.2 HZ.out.1 (by decide) h21 h1)
  rw [← har] at hCG
  have ho : ar.all (·.oneCell') = true := by rw [har]; exact pktC_one rfl
  have hs : ar.size = 65 := by rw [har]; exact pktC_size _ _ _ _ _ _
  have t39 : ar[39]? = some (.int .u64 9) := by rw [har]; rfl
  have t40 : ar[40]? = some (.int .u64 5) := by rw [har]; rfl
  have t41 : ar[41]? = some (.int .u64 1) := by rw [har]; rfl
  have t0 : ar.toList[0]? = some (.int .i64 6) := by rw [har]; rfl
  have HT := hide (And.intro t39 (And.intro t40 (And.intro t41 t0)))
  clear har t39 t40 t41 t0 h21 h1
  go_upto_region 7 with (first | (go_at_call 17; refine hCG.out.mono ?_; rintro e w5 ⟨rfl, hC5, hc5⟩; have hX5 := Blk.new w5 63 zeroP; have hcA := (Chg.refl Non w5).alloc (.cells zeroP 63)) | (refine wpList_store_pkt rfl (.tmp 4) (.tmp 23) rfl w5.heap.size ar rfl rfl _ hX5 zeroP_size hs ho fun w6 hP6 hc6 => ?_))
  have hcl := hC5.lt
  have hC6 := (hC5.c0 hcA).chg hc6 (fun e => by omega)
  have hcw6 := ((hcw4.trans hc5 (fun k hk e => by omega)).trans0 hcA).trans hc6 (fun k hk e => by have := (hcw4.trans hc5 (fun k hk e => by omega)).size; omega)
  obtain ⟨g, hg⟩ : ∃ g, g = w5.heap.size := ⟨_, rfl⟩
  rw [← hg] at hP6 ⊢
  clear hC4 hcw4 hCG hC5 hc5 hX5 hcA hc6 hcl hg
  go_upto_region 8 with (first | (go_at_call 17; refine (callBusy hC6 HT.out.2.2.2 (by decide)).mono ?_; rintro e w7 ⟨rfl, hc7⟩; have hX7 := Blk.new w7 63 zeroP; have hcA := (Chg.refl Non w7).alloc (.cells zeroP 63)) | (refine wpList_store_pkt rfl (.tmp 6) (.tmp 28) rfl w7.heap.size zeroP rfl rfl _ hX7 zeroP_size zeroP_size zeroP_one fun w8 hP8 hc8 => ?_))
  have hgl := hP6.lt
  have hP9 := ((hP6.c0 hc7).c0 hcA).chg hc8 (fun e => by have := hc7.size; omega)
  have hcw8 := ((hcw6.trans0 hc7).trans0 hcA).trans hc8 (fun k hk e => by have := (hcw6.trans0 hc7).size; omega)
  have y39 : w8.cell? ⟨g, 39, none⟩ = some (.int .u64 9) := (hP9.cell 39).trans HT.out.1
  have y40 : w8.cell? ⟨g, 40, none⟩ = some (.int .u64 5) := (hP9.cell 40).trans HT.out.2.1
  have y41 : w8.cell? ⟨g, 41, none⟩ = some (.int .u64 1) := (hP9.cell 41).trans HT.out.2.2.1
  clear hP6 hc7 hX7 hcA hP8 hc8 hcw6 hC6
  go_wp2_with fail
  go_ret
  exact ⟨rfl, hcw8⟩
end Go.Proofs.Ytncchbcoldgpbaa
