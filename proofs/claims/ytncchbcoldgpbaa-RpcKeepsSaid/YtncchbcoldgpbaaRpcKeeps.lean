/- RpcKeeps: no call of rpc changes or keeps what it is handed, and all answers are memory of their own: for every input the statement's function answers true. No condition. -/
import Derived.Test.YtncchbcoldgpbaaKqM
import Derived.Test.YtncchbcoldgpbaaWirQ
import Derived.Test.YtncchbcoldgpbaaRvF
import Derived.Test.YtncchbcoldgpbaaClM
import Derived.Test.YtncchbcoldgpbaaOpM
import Derived.Test.YtncchbcoldgpbaaApM
import Derived.Test.YtncchbcoldgpbaaOrdM
open List (getElem_toArray getElem_cons_succ getElem_cons_zero setIfInBounds_toArray set_cons_zero set_cons_succ)
namespace Go.Proofs.Ytncchbcoldgpbaa.rpcKeeps
open Go.ChangeShapes Go.WideShapes Go.ChangeAt Go.RowKit Go.Deep
set_option linter.unusedVariables false
set_option linter.unusedSimpArgs false

def welQ : Array Value := (((zeroP.setIfInBounds 0 (.int .i64 11)).setIfInBounds 2 (.int .u64 17)).setIfInBounds 63 (.int .u64 1)).setIfInBounds 64 (.int .u64 2)
theorem read_same {v : Value} {b : List UInt8} {F : Nat → Prop} {w : World} {c0 : PktT} (hr : RdB w F v b) (hl : b.length ≤ 100000000) (hy : b = sealB (EPkt c0)) (hlen : (EPkt c0).length ≤ 1048576) (hD : DPkt c0) :
    Calls Try.prog 10 #[v] w fun e w' => Chg Non w w' ∧ ∃ v1 v2 v3 : Value, e = .returned (.tuple #[.agg (pktA c0.1 c0.2.1 c0.2.2 v1 v2 v3), .int .i64 0]) ∧ PayV w' w.heap.size v1 v2 v3 c0.2.2 := by
  refine (rpcRead2 hr hl).mono ?_
  rintro e w' ⟨hc, h⟩
  rcases h with ⟨fr, tt, p, q1, q2, q3, rfl, hV, _, hb, hbl, hone⟩ | ⟨er, her, rfl, hno⟩
  · have h0 := hone c0 hD hlen hy
    subst h0
    exact ⟨hc, q1, q2, q3, rfl, hV⟩
  · exact absurd hy (hno c0 hD hlen)
/-- the packet that answers the call -/
def repQ (d : Value) : Array Value := ((((((((zeroP.setIfInBounds 0 (.int .i64 7)).setIfInBounds 2 (.int .u64 17)).setIfInBounds 43 (.int .u64 1)).setIfInBounds 44 (.int .u64 2)).setIfInBounds 45 (.int .u64 2)).setIfInBounds 46 (.int .u64 1)).setIfInBounds 47 (.int .u64 1)).setIfInBounds 48 (.int .i64 0)).setIfInBounds 49 d
theorem takeFirst {c : Nat} {u2 dv : Value} {rep : List UInt8} {F : Nat → Prop} {w : World} (hC : Blk w c 116 (cliA 1 1 1 2 (pktC 17 1 2 1 1 u2).toList)) (hr : RdB w F dv (replyY rep)) (hl : rep.length ≤ 1000000) (hF : ∀ k, F k → k < w.heap.size ∧ k ≠ c) :
    Calls Try.prog 16 #[.pointer (some ⟨c, 0, none⟩), .agg (repQ dv)] w fun e w' => ∃ (g1 c1 g2 c2 : Nat) (kv : Value), e = .returned (.agg #[.bool true, .int .i64 0, .int .i64 0, .int .i64 0, .slice (some ⟨g1, 0, none⟩) 1 c1, .slice none 0 0, .int .u64 2, .int .u64 1, .int .u64 1]) ∧
      w'.cell? ⟨g1, 0, none⟩ = some (.slice (some ⟨g2, 0, none⟩) 1 c2) ∧ w'.cell? ⟨g2, 0, none⟩ = some kv ∧ OwnB w' w.heap.size kv rep ∧ w.heap.size ≤ g1 ∧ g1 < w'.heap.size ∧ w.heap.size ≤ g2 ∧ g2 < w'.heap.size ∧ (∀ k, kv.ownBlock = some k → k ≠ g1 ∧ k ≠ g2) ∧ Chg (fun k => k = c) w w' :=
  takeReply (s := 1) (q := 1) (i := 1) (b := 2) (tb := 2) (ts := 1) (tq := 1) hC rfl rfl rfl rfl rfl hr hl hF (by show (17 : Nat) < _; decide) rfl rfl rfl rfl rfl rfl rfl rfl rfl
/-- the one operation -/
def op1 (k : List UInt8) : OpS := ⟨2, k, k, 0⟩
theorem op1_D {k : List UInt8} (h : k.length ≤ 60) : DOps [op1 k] := by
  refine ⟨by simp, fun o ho => ?_⟩
  rw [List.mem_singleton.1 ho]
  refine ⟨⟨by unfold I64; simp [op1], by unfold I64; simp [op1]⟩, ?_, ?_⟩ <;> (unfold T64; simp only [op1]; omega)
theorem call_D {k : List UInt8} (h : k.length ≤ 60) : DPkt (17, 0, .call 1 2 1 1 [op1 k]) :=
  ⟨⟨by show (17 : Nat) < _; decide, by show (0 : Nat) < _; decide⟩, by show (1 : Nat) < _; decide, ⟨by show (2 : Nat) < _; decide, by show (1 : Nat) < _; decide, by show (1 : Nat) < _; decide⟩, op1_D h⟩
theorem call_len {k : List UInt8} (h : k.length ≤ 60) : (payB (.call 1 2 1 1 [op1 k])).length ≤ 2000 := by
  have a1 := numsB_length [1]; have a2 := numsB_length [2, 1, 1]; have a3 := numB_length [op1 k].length; have a4 := numsB_length [wz 2, wz 0]; have a5 := flatB_length [k, k]
  simp only [List.length_cons, List.length_nil, List.map_cons, List.map_nil, List.sum_cons, List.sum_nil] at a1 a2 a4 a5
  simp only [payB, opsB, opB, op1, List.flatMap_cons, List.flatMap_nil, List.append_nil, List.length_append, List.length_cons, List.length_nil] at a3 ⊢
  omega
theorem call_pkt {k : List UInt8} (h : k.length ≤ 60) : (pktB 17 0 (.call 1 2 1 1 [op1 k])).length ≤ 2100 := by
  have h1 := call_len h
  have a1 := numB_length (wz (Pay.call 1 2 1 1 [op1 k]).kind); have a2 := numsB_length [17, 0]
  simp only [List.length_cons, List.length_nil] at a2
  simp only [pktB, List.length_append]
  omega
theorem call_at {w : World} {b : Nat} {F : Nat → Prop} {k : List UInt8} {u : Value} {xs : List (Value × Value)} (hB : Blk w b 63 (pktC 17 1 2 1 1 u)) (hO : OwnO w 0 F u [op1 k] xs) (hF : ∀ j, u.ownBlock = some j → F j) : PktAt w b F 17 0 (.call 1 2 1 1 [op1 k]) :=
  ⟨hB.cell 0, hB.frozen 0, hB.cell 1, by show (17 : Nat) < _; decide, hB.cell 2, by show (0 : Nat) < _; decide, u, xs, hB.cell 38, by show (1 : Nat) < _; decide, hB.cell 39, by show (2 : Nat) < _; decide, hB.cell 40, by show (1 : Nat) < _; decide, hB.cell 41, by show (1 : Nat) < _; decide, hB.cell 42, hO, hF,
    fun o ho => by rw [List.mem_singleton.1 ho]; exact ⟨by unfold I64; simp [op1], by unfold I64; simp [op1]⟩, by simp⟩
theorem HasO.own0 {w : World} {b : Nat} {v : Value} {l : List OpS} {xs : List (Value × Value)} (h : HasO w b v l xs) : OwnO w 0 (fun k => b ≤ k ∧ k < w.heap.size) v l xs := by
  refine ⟨h.len, ⟨h.row.1, ?_⟩, fun i x y hx hy => ?_⟩
  · rcases h.row.2 with hn | ⟨g', cap, cur, rfl, hg, rest⟩
    · exact .inl hn
    · exact .inr ⟨g', cap, cur, rfl, Nat.zero_le _, rest⟩
  · have hz : (xs.zip l)[i]? = some (x, y) := List.getElem?_zip_eq_some.2 ⟨hx, hy⟩
    have hmem := List.mem_of_getElem? hz
    exact ⟨(h.own.1 (x.1, y.key) (List.mem_flatMap.2 ⟨_, hmem, by simp⟩)).rdB, (h.own.1 (x.2, y.val) (List.mem_flatMap.2 ⟨_, hmem, by simp⟩)).rdB⟩
theorem callBytes {w : World} {base : Nat} {k : List UInt8} {u : Value} {xs : List (Value × Value)} (hO : HasO w base u [op1 k] xs) (hk : k.length ≤ 60) :
    Calls Try.prog 9 #[.agg (pktC 17 1 2 1 1 u)] w fun e w' => ∃ v' : Value, e = .returned (.tuple #[v', .int .i64 0]) ∧ OwnB w' w.heap.size v' (sealB (pktB 17 0 (.call 1 2 1 1 [op1 k]))) ∧ Chg Non w w' := by
  have h1 := call_len hk
  have h2 := call_pkt hk
  refine (pktBytes (vs := pktC 17 1 2 1 1 u) (p := .call 1 2 1 1 [op1 k]) (F := fun j => base ≤ j ∧ j < w.heap.size) (fun j hj => hj.2) (fun w' b hc hB => call_at hB ((HasO.own0 hO).chg hc (fun _ _ h => h) fun _ _ h => h) fun j hj => World.ownsRow.lt hO.row j hj) (by omega)).mono ?_
  rintro e w' ⟨v', rfl, hu, hc⟩
  rw [if_neg (by omega)] at hu
  exact ⟨v', by rw [if_neg (by omega)], hu, hc⟩
theorem rdOs_lit {w : World} {F : Nat → Prop} {g : Nat} {p : Value} {k : List UInt8} (h : Blk w g 85 #[.int .i64 2, p, p, .int .i64 0]) (hp : RdB w F p k) (hF : F g) : RdOs w F (.slice (some ⟨g, 0, none⟩) 1 1) [op1 k] := by
  refine ⟨[(p, p)], rfl, ⟨rfl, _, 1, rfl, Nat.le_refl _, by simp [maxLen], fun _ => ⟨_, rfl, hF, fun j u hu => ?_⟩⟩, fun i x y hx hy => ?_⟩
  · rw [add_none, Nat.zero_add, h.cell]
    rw [← hu]
    exact List.getElem?_toArray
  · match i, hx, hy with
    | 0, hx, hy =>
      simp at hx hy
      subst hx; subst hy
      exact ⟨hp, hp⟩
    | i + 1, hx, hy => simp at hx

theorem row_lit {w : World} {g : Nat} {p : Value} {k : List UInt8} (h : Blk w g 88 #[p, .slice none 0 0]) (hp : RdB w (fun j => j < w.heap.size) p k) : RdRow w (fun j => j < w.heap.size) (.slice (some ⟨g, 0, none⟩) 1 1) [(k, [])] :=
  ⟨[(p, .slice none 0 0)], rfl, ⟨rfl, _, 1, rfl, Nat.le_refl _, by simp [maxLen], fun _ => ⟨_, rfl, h.lt, fun j u hu => by
    rw [add_none, Nat.zero_add, h.cell]
    rw [← hu]
    exact List.getElem?_toArray⟩⟩, fun i x y hx hy => by
    match i, hx, hy with
    | 0, hx, hy => simp at hx hy; subst hx; subst hy; exact ⟨hp, RdB.nil_ _ _⟩
    | i + 1, hx, hy => simp at hx⟩
theorem rows_lit {w : World} {g : Nat} {p : Value} {r : List PairL} (h : Blk w g 89 #[p]) (hp : RdRow w (fun j => j < w.heap.size) p r) : RdRows w (fun j => j < w.heap.size) (.slice (some ⟨g, 0, none⟩) 1 1) [r] :=
  ⟨[p], rfl, ⟨rfl, _, 1, rfl, Nat.le_refl _, by simp [maxLen], fun _ => ⟨_, rfl, h.lt, fun j u hu => by
    rw [add_none, Nat.zero_add, h.cell]
    rw [← hu]
    exact List.getElem?_toArray⟩⟩, fun i x y hx hy => by
    match i, hx, hy with
    | 0, hx, hy => simp at hx hy; subst hx; subst hy; exact hp
    | i + 1, hx, hy => simp at hx⟩
/-- one operation in new memory: its cells and its two texts -/
theorem has1 {w : World} {b : Nat} {v : Value} {o : OpS} {xs : List (Value × Value)} (h : HasO w b v [o] xs) : ∃ (g cp : Nat) (p q : Value), v = .slice (some ⟨g, 0, none⟩) 1 cp ∧ w.cell? ⟨g, 1, none⟩ = some p ∧ w.cell? ⟨g, 2, none⟩ = some q ∧ b ≤ g ∧ g < w.heap.size ∧ OwnB w b p o.key ∧ OwnB w b q o.val ∧ Apt p q := by
  obtain ⟨hl, hrow, hown, _⟩ := h
  match xs, hl with
  | [(p, q)], _ =>
    obtain ⟨g, cp, cur, rfl, hg, hB, h4, _⟩ := row1 hrow
    obtain ⟨_, t1, t2, _⟩ := take4 h4
    have hp := hown.2
    simp only [pcO, List.zip_cons_cons, List.zip_nil_right, List.flatMap_cons, List.flatMap_nil, List.append_nil, List.pairwise_cons, List.mem_cons, List.not_mem_nil, or_false] at hp
    exact ⟨g, cp, p, q, rfl, (hB.cell 1).trans t1, (hB.cell 2).trans t2, hg, hB.lt, hown.1 (p, o.key) (by simp [pcO]), hown.1 (q, o.val) (by simp [pcO]), hp.1 _ rfl⟩
theorem callFirst {c : Nat} {w : World} {v : Value} {key : List UInt8} {F : Nat → Prop} (hC : Blk w c 116 (cliA 1 0 1 2 zeroL)) (hr : RdOs w F v [op1 key]) (hk : key.length ≤ 60) (hF : ∀ k, F k → k < w.heap.size ∧ k ≠ c) :
    Calls Try.prog 17 #[.pointer (some ⟨c, 0, none⟩), v] w fun e w' => ∃ (u1 u2 : Value) (xs ys : List (Value × Value)), e = .returned (.tuple #[.agg (pktC 17 1 2 1 1 u1), .int .i64 0]) ∧
      Blk w' c 116 (cliA 1 1 1 2 (pktC 17 1 2 1 1 u2).toList) ∧ (∃ m : Nat, HasO w' w.heap.size u1 [op1 key] xs ∧ HasO w' m u2 [op1 key] ys ∧ w.heap.size ≤ m ∧ (∀ k, u1.ownBlock = some k → k < m) ∧ ∀ p ∈ pcO xs [op1 key], ∀ k, p.1.ownBlock = some k → k < m) ∧ Chg (fun k => k = c) w w' :=
  callOne (s := 1) (q := 0) (i := 1) (b := 2) hC rfl rfl (by omega) (by show (17 : Nat) < _; decide) (by show (1 : Nat) < _; decide) hr (Nat.le_trans hk (by omega)) (Nat.le_trans hk (by omega)) hF
theorem againFirst {c base : Nat} {w : World} {u2 : Value} {key : List UInt8} {ys : List (Value × Value)} (hC : Blk w c 116 (cliA 1 1 1 2 (pktC 17 1 2 1 1 u2).toList)) (hO : HasO w base u2 [op1 key] ys) (hk : key.length ≤ 60) :
    Calls Try.prog 18 #[.pointer (some ⟨c, 0, none⟩)] w fun e w' => ∃ (u : Value) (xs : List (Value × Value)), e = .returned (.agg (pktC 17 1 2 1 1 u)) ∧ HasO w' w.heap.size u [op1 key] xs ∧ Chg Non w w' := by
  refine (again1 hC (pktC_size _ _ _ _ _ _) (pktC_one (HasO.one hO)) (kk := 6) rfl (by decide) (v := u2) (o := op1 key) rfl hO.rds (Nat.le_trans hk (by omega)) (Nat.le_trans hk (by omega)) (fun k hk => hk.2)).mono ?_
  rintro e w' ⟨u, xs, rfl, hO', hc⟩
  exact ⟨u, xs, by rw [pktC_set], hO', hc⟩
theorem recY_xr5 {k : List UInt8} (h : k.length ≤ 5000) : (recY (xr k [])).length ≤ 20000000 := by
  have h1 := joinB_len ([kiB 4] :: [txB (xr k []), triB [⟨k, [], false⟩], []])
  have h2 := joinB_len [flB false, k, []]
  have h3 := txB_len (xr k [])
  have h4 : recY (xr k []) = joinB ([kiB 4] :: [txB (xr k []), triB [⟨k, [], false⟩], []]) := rfl
  have h5 : triB [⟨k, [], false⟩] = joinB [flB false, k, []] := rfl
  have h6 : (flB false).length = 1 := rfl
  rw [h4]
  rw [h5] at h1 ⊢
  simp only [List.map_cons, List.map_nil, List.sum_cons, List.sum_nil, List.length_cons, List.length_nil, h6] at h1 h2
  omega
theorem replyY_len5 {k : List UInt8} (h : k.length ≤ 5000) : (replyY k).length ≤ 900000000 := by
  have h1 := joinB_len [numB 0, numB 0, recY (xr k [])]
  have h2 := recY_xr5 h
  have h3 : (numB 0).length = 1 := rfl
  simp only [List.map_cons, List.map_nil, List.sum_cons, List.sum_nil, List.length_cons, List.length_nil, h3] at h1
  unfold replyY
  omega
theorem ownOff {w w' : World} {base c : Nat} {v : Value} {l : List UInt8} (h : OwnB w base v l) (hc : Chg (fun k => k = c) w w') (hb : c < base) : OwnB w' base v l := h.chg hc fun k hk e => by
  have h1 := (h.lt k hk).1
  have h2 : k = c := e
  omega
theorem ownNe {w w' : World} {base c g n m : Nat} {l : List UInt8} (h : OwnB w base (.slice (some ⟨g, 0, none⟩) n m) l) (hc : Chg (fun k => k = c) w w') (hb : g ≠ c) : OwnB w' base (.slice (some ⟨g, 0, none⟩) n m) l := h.chg hc fun k hk e => by
  have h1 : g = k := by injection hk
  have h2 : k = c := e
  omega
theorem blkOff {w w' : World} {b c : Nat} {ty : TypeId} {vs : Array Value} (h : Blk w b ty vs) (hc : Chg (fun k => k = c) w w') (hb : c < b) : Blk w' b ty vs := h.chg hc fun e => by
  have h2 : b = c := e
  omega
theorem chDrw {w : World} {lo : Nat} : ∀ {r : List (Value × List UInt8)}, OwnCh w lo r → OwnCh w.drew lo r
  | [], _ => trivial
  | (x, l) :: r, ⟨h0, h1, hr⟩ => ⟨h0, h1, chDrw hr⟩
set_option maxHeartbeats 64000000 in
set_option maxRecDepth 100000 in
theorem walk {W : World} {v0 v1 : Value} {key rep : List UInt8} (hk : RdB W (fun k => k < W.heap.size) v0 key) (hv : RdB W (fun k => k < W.heap.size) v1 rep) (sk : key.length ≤ reachBytes) (sr : rep.length ≤ reachBytes) :
    Calls Try.prog 5 #[v0, v1] W fun e W' => e = .returned (.bool true) ∧ Chg Non W W' := by
  obtain ⟨KA, kc, rfl, _, _⟩ := hk.shape
  obtain ⟨RA, rc, rfl, _, _⟩ := hv.shape
  obtain ⟨kn, hkn⟩ : ∃ n, n = key.length := ⟨_, rfl⟩
  obtain ⟨rn, hrn⟩ : ∃ n, n = rep.length := ⟨_, rfl⟩
  rw [← hkn] at hk ⊢
  rw [← hrn] at hv ⊢
  have HN := hide (And.intro hkn hrn)
  clear hkn hrn sk sr
  have hzz : (Try.zeroCells63 : Array Value) = zeroP := rfl
  go_enter Try.func5, Try.ntmps5
  go_upto_region 3 with (go_at_call 6; refine awake23.mono ?_; rintro e w1 ⟨rfl, hc1⟩)
  by_cases h1 : 60 < kn
  · have d1 : decide ((60 : Int) < (kn : Int)) = true := decide_eq_true (by omega)
    go_wp2_with fail
    go_ret
    exact ⟨rfl, hc1⟩
  have d1 : decide ((60 : Int) < (kn : Int)) = false := decide_eq_false (by omega)
  by_cases h2 : 5000 < rn
  · have d2 : decide ((5000 : Int) < (rn : Int)) = true := decide_eq_true (by omega)
    go_wp2_with fail
    go_ret
    exact ⟨rfl, hc1⟩
  have d2 : decide ((5000 : Int) < (rn : Int)) = false := decide_eq_false (by omega)
  have hk60 : key.length ≤ 60 := by have := HN.out.1; omega
  have hr5 : rep.length ≤ 5000 := by have := HN.out.2; omega
  have hk1 := hk.c0 hc1
  have hv1 := hv.c0 hc1
  clear h1 h2
  go_upto_region 6 with (go_at_call 14; refine (refSpare2 hk1 (by omega)).mono ?_; rintro e w2 ⟨gk, nk, mk, rfl, hsp, hkr, hc2⟩)
  clear d1 d2
  go_upto_region 7 with (go_at_call 15; refine (cliNew (s := 1)).mono ?_; rintro e w3 ⟨c, rfl, hcc, hC3, hc3⟩)
  have h17 : U64 (1 + 16) := by show (17 : Nat) < _; decide
  go_upto_region 8 with (first | (refine Great.wpList_readTo rfl (some 37) rfl (.agg #[.int .u64 1, .int .u64 2]) (by kernel_rfl) ?_) | (refine Great.wpList_readTo rfl (some 38) rfl (.agg welQ) (by kernel_rfl) ?_) | (go_at_call 16; refine (takeWelcome (inc := 1) (boot := 2) hC3 h17 (by omega) rfl rfl rfl rfl).mono ?_; rintro e w4 ⟨⟨v4, rfl⟩, hC4, hc4⟩))
  have n12 := hc2.size
  have n23 := hc3.size
  have n34 := hc4.size
  have lK := hsp.lt gk rfl
  have hsp4 := (hsp.chg hc3 (fun _ _ h => h)).chg hc4 (fun k hk e => by have := (hsp.lt k hk).2; omega)
  have hkr4 := (hkr.c0 hc3).chg hc4 (fun k hk e => by omega)
  have hcW4 : Chg Non W w4 := ((hc1.trans0 hc2).trans0 hc3).trans hc4 fun k hk e => by have := hc1.size; omega
  have hk4 := hk.c0 hcW4
  have hv4 := hv.c0 hcW4
  have hBo := Blk.new w4 85 #[.int .i64 2, .slice (some ⟨gk, 0, none⟩) key.length nk, .slice (some ⟨gk, 0, none⟩) key.length nk, .int .i64 0]
  have hd5 := (Chg.refl Non w4).alloc (.cells #[.int .i64 2, .slice (some ⟨gk, 0, none⟩) key.length nk, .slice (some ⟨gk, 0, none⟩) key.length nk, .int .i64 0] 85)
  have hC5 := hC4.c0 hd5
  have hro := rdOs_lit (F := fun k => k = gk ∨ k = w4.heap.size) hBo ((hkr4.c0 hd5).mono fun k hk => .inl hk) (.inr rfl)
  have hCF := hide (callFirst hC5 hro hk60 (fun k hk => by have := hC4.lt; have := hd5.size; have := hBo.lt; omega))
  have n45 := hd5.size
  have hcl4 := hC4.lt
  go_upto_region 9 with (first | (go_at_call 17; refine hCF.out.mono ?_; rintro e w6 ⟨u1, u2, xs, ys, rfl, hC6, ⟨m6, hO1, hO2, hm6, hu6, hx6⟩, hd6⟩; have hZ6 := Blk.new w6 63 zeroP; have hdz := (Chg.refl Non w6).alloc (.cells zeroP 63)) | (refine wpList_store_pkt rfl (.tmp 8) (.tmp 47) rfl w6.heap.size (pktC 17 1 2 1 1 u1) rfl rfl _ hZ6 zeroP_size (pktC_size _ _ _ _ _ _) (pktC_one (HasO.one hO1)) fun w7 hP7 hdp => ?_))
  obtain ⟨g8, hg8⟩ : ∃ g, g = w6.heap.size := ⟨_, rfl⟩
  rw [← hg8] at hP7 hdp ⊢
  have hd7 : Chg Non w6 w7 := hdz.trans hdp fun k hk e => by omega
  have HG8 := hide hg8
  clear hg8 hZ6 hdz hdp hCF hro hBo
  have hd47 : Chg (fun k => k = c) w4 w7 := ((chgX hd5).trans hd6 fun _ _ h => h).trans (chgX hd7) fun _ _ h => h
  have n56 := hd6.size
  have n67 := hd7.size
  have hC7 := hC6.c0 hd7
  have hP8 : g8 < w7.heap.size := hP7.lt
  have hO17 := hO1.chg hd7 fun _ _ _ h => h
  have hO27 := hO2.chg hd7 fun _ _ _ h => h
  have hsp7 := hsp4.chg hd47 (fun k hk e => by have := (hsp.lt k hk).2; omega)
  have hkr7 := hkr4.chg hd47 (fun k hk e => by omega)
  have hcW7 : Chg Non W w7 := hcW4.trans hd47 fun k hk e => by have := hc1.size; omega
  have hk7 := hk.c0 hcW7
  have hv7 := hv.c0 hcW7
  obtain ⟨ga, ca, pk, pv, rfl, a1, a2, la, la', oa1, oa2, aa⟩ := has1 hO17
  have LA := hide (And.intro (fun k (h : pk.ownBlock = some k) => (oa1.lt k h).2) (fun k (h : pv.ownBlock = some k) => (oa2.lt k h).2))
  clear hcW4 hk4 hv4 hd5 hC5 hC6 hO1 hO2 hd6 hd7 hd47 hsp4 hkr4 hkr hsp
  go_upto_region 10 with (first | (go_at_call 18; refine (againFirst hC7 hO27 hk60).mono ?_; rintro e w8 ⟨u3, zs, rfl, hO3, hd8⟩; have hZ8 := Blk.new w8 63 zeroP; have hdz := (Chg.refl Non w8).alloc (.cells zeroP 63)) | (refine wpList_store_pkt rfl (.tmp 10) (.tmp 50) rfl w8.heap.size (pktC 17 1 2 1 1 u3) rfl rfl _ hZ8 zeroP_size (pktC_size _ _ _ _ _ _) (pktC_one (HasO.one hO3)) fun w9 hQ9 hdp => ?_))
  obtain ⟨g10, hg10⟩ : ∃ g, g = w8.heap.size := ⟨_, rfl⟩
  rw [← hg10] at hQ9 hdp ⊢
  have hd9 : Chg Non w8 w9 := hdz.trans hdp fun k hk e => by omega
  have HG10 := hide hg10
  clear hg10 hZ8 hdz hdp
  have hd79 := hd8.trans0 hd9
  have hP9 := hP7.c0 hd79
  have hO39 := hO3.chg hd9 fun _ _ _ h => h
  obtain ⟨gq, cq, qk, qv, rfl, b1, b2, lb, lb', ob1, ob2, ab⟩ := has1 hO39
  have LB := hide (fun k (h : qk.ownBlock = some k) => (ob1.lt k h).2)
  have hO19 := hO17.chg hd79 fun _ _ _ h => h
  have n78 := hd8.size
  have n89 := hd9.size
  clear hP7 hO17 hO3 hd8 hd9
  go_upto_region 11 with (first | (refine wpList_load_row rfl 63 (.tmp 8) rfl g8 rfl 63 (pktC 17 1 2 1 1 (.slice (some ⟨ga, 0, none⟩) 1 ca)) (0, 0) _ hP9 Try.underlying63 rfl (by rw [pktC_size]; exact info_pkt) ?_) | (go_at_call 9; refine (callBytes hO19 hk60).mono ?_; rintro e w10 ⟨bv, rfl, hb10, hd10⟩))
  obtain ⟨y, hy⟩ : ∃ y, y = sealB (pktB 17 0 (.call 1 2 1 1 [op1 key])) := ⟨_, rfl⟩
  rw [← hy] at hb10
  have hyl : y.length ≤ 100000 := by rw [hy, sealB_length]; have := call_pkt hk60; omega
  have HY := hide hy
  clear hy
  obtain ⟨BA, bn, bc, rfl⟩ : ∃ A m c, bv = .slice A m c := hb10.shapeH
  have LV := hide (fun k (h : (Value.slice BA bn bc).ownBlock = some k) => (hb10.lt k h).2)
  have n910 := hd10.size
  go_upto_region 12 with (go_at_call 14; refine (refSpare2 hb10.rd (by omega)).mono ?_; rintro e w11 ⟨gs, ns, ms, rfl, hs11, hsr, hd11⟩)
  have n1011 := hd11.size
  go_upto_region 13 with (first | (go_at_call 10; refine (read_same (c0 := (17, 0, .call 1 2 1 1 [op1 key])) hsr (by omega) HY.out (Nat.le_trans (call_pkt hk60) (by omega)) (call_D hk60)).mono ?_; rintro e w12 ⟨hd12, v1, v2, v3, rfl, ⟨us, hU⟩⟩; have hZ12 := Blk.new w12 63 zeroP; have hdz := (Chg.refl Non w12).alloc (.cells zeroP 63); have hone := pktA_one (fr := 17) (tt := 0) (p := .call 1 2 1 1 [op1 key]) (v1 := v1) (v2 := v2) (v3 := v3) ⟨us, hU⟩) | (refine wpList_store_pkt rfl (.tmp 15) (.tmp 64) rfl w12.heap.size (pktA 17 0 (.call 1 2 1 1 [op1 key]) v1 v2 v3) rfl rfl _ hZ12 zeroP_size (pktA_size _ _ _ _ _ _) hone fun w13 hR13 hdp => ?_))
  obtain ⟨g15, hg15⟩ : ∃ g, g = w12.heap.size := ⟨_, rfl⟩
  rw [← hg15] at hR13 hdp ⊢
  have hd13 : Chg Non w12 w13 := hdz.trans hdp fun k hk e => by omega
  have HG15 := hide hg15
  clear hg15 hZ12 hdz hdp hone
  have n1112 := hd12.size
  have n1213 := hd13.size
  have hU13 := hU.chg hd13 fun _ _ _ h => h
  obtain ⟨gu, cu, uk, uv_, rfl, c1', c2', lc, lc', oc1, oc2, ac⟩ := has1 hU13
  obtain ⟨UV, un, uc, rfl⟩ : ∃ A m c, uv_ = .slice A m c := oc2.shapeH
  obtain ⟨UK, ukn, ukc, rfl⟩ : ∃ A m c, uk = .slice A m c := oc1.shapeH
  have LU := hide (And.intro (fun k (h : (Value.slice UK ukn ukc).ownBlock = some k) => (oc1.lt k h).2) (fun k (h : (Value.slice UV un uc).ownBlock = some k) => (oc2.lt k h).2))
  have LG := hide (hs11.lt gs rfl)
  have hd913 := hd10.trans0 (hd11.trans0 (hd12.trans0 hd13))
  have hd713 := hd79.trans0 hd913
  have sp13 := hsp7.chg hd713 fun _ _ h => h
  have s13 := hs11.chg (hd12.trans0 hd13) fun _ _ h => h
  have b13 := hb10.chg (hd11.trans0 (hd12.trans0 hd13)) fun _ _ h => h
  have hcW13 := hcW7.trans0 hd713
  have hk13 := hk.c0 hcW13
  have hC13 := hC7.c0 hd713
  have hO213 := hO27.chg hd713 fun _ _ _ h => h
  have p13 := hP9.c0 hd913
  have qq13 := hQ9.c0 hd913
  have y42 : w13.cell? ⟨g15, 42, none⟩ = some (.slice (some ⟨gu, 0, none⟩) 1 cu) := (hR13.cell 42).trans (by kernel_rfl)
  have A1 := hd713.cell a1 (fun h => h)
  have A2 := hd713.cell a2 (fun h => h)
  have B1 := hd913.cell b1 (fun h => h)
  have OA1 := (oa1.low n45).chg hd713 fun _ _ h => h
  have OA2 := (oa2.low n45).chg hd713 fun _ _ h => h
  have OB1 := ob1.chg hd913 fun _ _ h => h
  have n79 := hd79.size
  clear hsp7 hkr7 hs11 hsr hb10 hcW7 hk7 hv7 hC7 hO27 hO19 hO39 hP9 hQ9 a1 a2 b1 b2 oa1 oa2 ob1 ob2 hd10 hd11 hd12 hd13 hd79 hd713 hd913 hU hU13
  go_wp2_with fail
  refine (refKept sp13.rd hk13 (by omega)).mono ?_
  rintro e w14 ⟨rfl, hq14⟩
  have q14 := (Chg.refl Non w13).quiet hq14
  go_wp2_with fail
  refine (refKept (s13.rd.c0 q14) (b13.rd.c0 q14) (by omega)).mono ?_
  rintro e w15 ⟨rfl, hq15⟩
  have q15 := q14.quiet hq15
  have y42' := q15.cell y42 (fun h => h)
  have yv' := q15.cell c2' (fun h => h)
  go_wp2_with fail
  refine (refEqual_true (oc2.rd.c0 q15) (hk13.c0 q15)).mono ?_
  rintro e w16 ⟨rfl, hq16⟩
  have q16 := q15.quiet hq16
  clear y42' yv' hq14 hq15 hq16 q14 q15
  go_wp2_with fail
  refine (over (n := key.length) (sp13.chg q16 fun _ _ h => h) (by rw [spareL_len]; omega) (by rw [spareL_len]; omega)).mono ?_
  rintro e w17 ⟨rfl, ⟨l', hl', spO⟩, hdO⟩
  have hdx : Chg (fun k => k = gk) w13 w17 := (chgX q16).trans hdO fun _ _ h => h
  have m1 := hc1.size
  have hcW17 : Chg Non W w17 := hcW13.trans hdx fun k hk e => by omega
  have G8 := HG8.out
  have G10 := HG10.out
  have G15 := HG15.out
  have lgk : gk < w2.heap.size := lK.2
  have C17 := hC13.chg hdx (fun e => by omega)
  have O17 := hO213.chg hdx (fun k h1 h2 e => by omega)
  have P17 := p13.chg hdx (fun e => by omega)
  have Q17 := qq13.chg hdx (fun e => by omega)
  have R17 := hR13.chg hdx (fun e => by omega)
  have S17 := s13.chg hdx (fun k hk e => by have := (s13.lt k hk).1; omega)
  have B17 := b13.chg hdx (fun k hk e => by have := (b13.lt k hk).1; omega)
  have A17 := hdx.cell A1 (fun e => by have : ga = gk := e; omega)
  have A27 := hdx.cell A2 (fun e => by have : ga = gk := e; omega)
  have Bq7 := hdx.cell B1 (fun e => by have : gq = gk := e; omega)
  have U17 := hdx.cell c1' (fun e => by have : gu = gk := e; omega)
  have U27 := hdx.cell c2' (fun e => by have : gu = gk := e; omega)
  have a17 := OA1.chg hdx (fun k hk e => by have := (OA1.lt k hk).1; omega)
  have a27 := OA2.chg hdx (fun k hk e => by have := (OA2.lt k hk).1; omega)
  have q17 := OB1.chg hdx (fun k hk e => by have := (OB1.lt k hk).1; omega)
  have u17 := oc1.chg hdx (fun k hk e => by have := (oc1.lt k hk).1; omega)
  have u27 := oc2.chg hdx (fun k hk e => by have := (oc2.lt k hk).1; omega)
  have hk17 := hk.c0 hcW17
  have hv17 := hv.c0 hcW17
  clear hcW13 hC13 hO213 p13 qq13 hR13 s13 b13 A1 A2 B1 c1' c2' OA1 OA2 OB1 oc1 oc2 hk13 y42 hdO q16 sp13
  clear G8 G10 G15
  go_wp2_with fail
  refine (againFirst C17 O17 hk60).mono ?_
  rintro e w18 ⟨u4, zs4, rfl, hO4, hd18⟩
  obtain ⟨gz, cz, zk, zv, rfl, z1, z2, lz, lz', oz1, oz2, az⟩ := has1 hO4
  obtain ⟨ZA, zn, zc, rfl⟩ : ∃ A m c, zk = .slice A m c := oz1.shapeH
  go_wp2_with (first | (refine Great.wpList_readTo rfl (some 103) rfl (.agg #[.int .u64 1, .int .u64 2, .int .u64 1, .int .u64 1, .slice (some ⟨gz, 0, none⟩) 1 cz]) (by kernel_rfl) ?_) | (refine Great.wpList_readTo rfl (some 104) rfl (.slice (some ⟨gz, 0, none⟩) 1 cz) (by kernel_rfl) ?_))
  refine (refEqual_true oz1.rd (hk17.c0 hd18)).mono ?_
  rintro e w19 ⟨rfl, hq19⟩
  have hd19 := hd18.quiet hq19
  clear hq19 hd18 hO4 z1 z2 oz1 oz2 az
  go_upto_region 18 with fail
  have hr6 : rep.length ≤ 1000000 := Nat.le_trans hr5 (by decide)
  have hL1 := Blk.new w19 88 #[.slice RA rn rc, .slice none 0 0]
  have hd20 := (Chg.refl Non w19).alloc (.cells #[.slice RA rn rc, .slice none 0 0] 88)
  have hL2 := Blk.new (w19.alloc (.cells #[.slice RA rn rc, .slice none 0 0] 88)) 89 #[.slice (some ⟨w19.heap.size, 0, none⟩) 1 1]
  have hd21 := (Chg.refl Non (w19.alloc (.cells #[.slice RA rn rc, .slice none 0 0] 88))).alloc (.cells #[.slice (some ⟨w19.heap.size, 0, none⟩) 1 1] 89)
  have e21 : (w19.alloc (.cells #[.slice RA rn rc, .slice none 0 0] 88)).heap.size = w19.heap.size + 1 := Array.size_push ..
  rw [e21] at hL2
  have hd1921 := hd20.trans0 hd21
  have hRows := rows_lit hL2 (row_lit (hL1.c0 hd21) (((hv17.c0 hd19).c0 hd1921).mono fun j hj => Nat.lt_of_lt_of_le hj (Nat.le_trans hcW17.size (Nat.le_trans hd19.size hd1921.size))))
  clear hL1 hL2 hd20 hd21 e21
  go_wp2_with fail
  generalize World.alloc (World.alloc w19 _) _ = w21 at hRows hd1921 ⊢
  refine (outReply hRows hr6 (fun k hk => hk)).mono ?_
  rintro e w22 ⟨dv, rfl, hdv, hd22⟩
  clear hRows hv17
  go_wp2_with fail
  refine (refSpare2 hdv.rd (Nat.le_trans (replyY_len hr6) (by decide))).mono ?_; rintro e w23 ⟨gd, nd, md, rfl, hs23, hdr, hd23⟩
  have hd1723 := ((hd19.trans0 hd1921).trans0 hd22).trans0 hd23
  have P23 := P17.c0 hd1723
  have p39 : w23.cell? ⟨g8, 39, none⟩ = some (.int .u64 2) := P23.cell 39
  have p40 : w23.cell? ⟨g8, 40, none⟩ = some (.int .u64 1) := P23.cell 40
  have p41 : w23.cell? ⟨g8, 41, none⟩ = some (.int .u64 1) := P23.cell 41
  have lgd := hs23.lt gd rfl
  have lcd : c < w22.heap.size := Nat.lt_of_lt_of_le C17.lt (Nat.le_trans hd19.size (Nat.le_trans hd1921.size hd22.size))
  have hTR := hide (takeFirst (C17.c0 hd1723) hdr hr6 (fun k hk => by have e : k = gd := hk; rw [e]; exact ⟨lgd.2, fun e => Nat.lt_irrefl _ (Nat.lt_of_lt_of_le (e ▸ lcd) lgd.1)⟩))
  unfold repQ at hTR
  have n1722 : w17.heap.size ≤ w22.heap.size := Nat.le_trans hd19.size (Nat.le_trans hd1921.size hd22.size)
  clear P23 hdv hd1921 hd22 hd23 hd19
  go_upto_region 20 with (first | (go_at_call 16; refine hTR.out.mono ?_; rintro e w24 ⟨g1, c1, g2, c2, kv, rfl, k1, k2, hkv, l1, l2, l3, l4, hkn, hd24⟩; have hZ24 := Blk.new w24 81 zeroH; have hdz24 := (Chg.refl Non w24).alloc (.cells zeroH 81)) | (refine wpList_plain rfl fun _ hK => wp_store_a info_heard (.tmp 19) (.tmp 128) rfl w24.heap.size #[.bool true, .int .i64 0, .int .i64 0, .int .i64 0, .slice (some ⟨g1, 0, none⟩) 1 c1, .slice none 0 0, .int .u64 2, .int .u64 1, .int .u64 1] rfl rfl _ hZ24 rfl rfl (by simp [Value.oneCell']) fun w25 hH25 hd25 => hK _ _ ?_))
  obtain ⟨g19, hg19⟩ : ∃ g, g = w24.heap.size := ⟨_, rfl⟩
  rw [← hg19] at hH25 hd25 ⊢
  have hd2425 : Chg Non w24 w25 := hdz24.trans hd25 fun k hk e => by have : k = g19 := e; exact Nat.lt_irrefl _ (Nat.lt_of_lt_of_le (hg19 ▸ this ▸ hk) (Nat.le_refl _))
  have HG19 := hide hg19
  clear hK hg19 hZ24 hdz24 hd25 hTR
  have hd1725 : Chg (fun k => k = c) w17 w25 := ((chgX hd1723).trans hd24 fun _ _ h => h).trans (chgX hd2425) fun _ _ h => h
  have x0 : w25.cell? ⟨g19, 0, none⟩ = some (.bool true) := hH25.cell 0
  have x4 : w25.cell? ⟨g19, 4, none⟩ = some (.slice (some ⟨g1, 0, none⟩) 1 c1) := hH25.cell 4
  obtain ⟨VA, vn, vc, rfl⟩ : ∃ A m c, kv = .slice A m c := hkv.shapeH
  have y1 := hd2425.cell k1 (fun h => h)
  have y2 := hd2425.cell k2 (fun h => h)
  have hkv25 := hkv.chg hd2425 (fun _ _ h => h)
  have lcW : W.heap.size ≤ c := Nat.le_trans m1 (Nat.le_trans n12 hcc)
  have hcW25 : Chg Non W w25 := hcW17.trans hd1725 fun k hk e => by have : k = c := e; exact Nat.lt_irrefl _ (Nat.lt_of_lt_of_le (this ▸ hk) lcW)
  have hv25 := hv.c0 hcW25
  clear p39 p40 p41 k1 k2 hkv
  go_wp2_with fail
  refine (refEqual_true hkv25.rd hv25).mono ?_
  rintro e w26 ⟨rfl, hq26⟩
  go_upto_region 22 with fail
  have q26 := (Chg.refl Non w25).quiet hq26
  have hd1726 : Chg (fun k => k = c) w17 w26 := hd1725.trans (chgX q26) fun _ _ h => h
  have k6 : c < w6.heap.size := Nat.lt_of_lt_of_le hcl4 (Nat.le_trans n45 n56)
  have k7 := Nat.lt_of_lt_of_le k6 n67
  have k8 := Nat.lt_of_lt_of_le k7 n78
  have k9 := Nat.lt_of_lt_of_le k8 n89
  have k10 := Nat.lt_of_lt_of_le k9 n910
  have k11 := Nat.lt_of_lt_of_le k10 n1011
  have k12 := Nat.lt_of_lt_of_le k11 n1112
  have k8b : c < g8 := by rw [HG8.out]; exact k6
  have k10b : c < g10 := by rw [HG10.out]; exact k8
  have k15b : c < g15 := by rw [HG15.out]; exact k12
  have kga : c < ga := Nat.lt_of_lt_of_le hcl4 (Nat.le_trans n45 la)
  have kgq : c < gq := Nat.lt_of_lt_of_le k7 lb
  have kgu : c < gu := Nat.lt_of_lt_of_le k11 lc
  have E1 : Hid (w26.drew.cell? ⟨g8, 42, none⟩ = some (.slice (some ⟨ga, 0, none⟩) 1 ca)) := hide ((blkOff P17 hd1726 k8b).cell 42)
  have E2 : Hid (w26.drew.cell? ⟨ga, 1, none⟩ = some pk) := hide (hd1726.cell A17 (fun e => Nat.lt_irrefl _ ((show ga = c from e) ▸ kga)))
  have E3 : Hid (w26.drew.cell? ⟨ga, 2, none⟩ = some pv) := hide (hd1726.cell A27 (fun e => Nat.lt_irrefl _ ((show ga = c from e) ▸ kga)))
  have E4 : Hid (w26.drew.cell? ⟨g10, 42, none⟩ = some (.slice (some ⟨gq, 0, none⟩) 1 cq)) := hide ((blkOff Q17 hd1726 k10b).cell 42)
  have E5 : Hid (w26.drew.cell? ⟨gq, 1, none⟩ = some qk) := hide (hd1726.cell Bq7 (fun e => Nat.lt_irrefl _ ((show gq = c from e) ▸ kgq)))
  have E6 : Hid (w26.drew.cell? ⟨g15, 42, none⟩ = some (.slice (some ⟨gu, 0, none⟩) 1 cu)) := hide (((blkOff R17 hd1726 k15b).cell 42).trans (by kernel_rfl))
  have E7 : Hid (w26.drew.cell? ⟨gu, 1, none⟩ = some (.slice UK ukn ukc)) := hide (hd1726.cell U17 (fun e => Nat.lt_irrefl _ ((show gu = c from e) ▸ kgu)))
  have E8 : Hid (w26.drew.cell? ⟨gu, 2, none⟩ = some (.slice UV un uc)) := hide (hd1726.cell U27 (fun e => Nat.lt_irrefl _ ((show gu = c from e) ▸ kgu)))
  have E9 : Hid (w26.drew.cell? ⟨g19, 4, none⟩ = some (.slice (some ⟨g1, 0, none⟩) 1 c1)) := hide (q26.cell x4 (fun h => h))
  have E10 : Hid (w26.drew.cell? ⟨g1, 0, none⟩ = some (.slice (some ⟨g2, 0, none⟩) 1 c2)) := hide (q26.cell y1 (fun h => h))
  have E11 : Hid (w26.drew.cell? ⟨g2, 0, none⟩ = some (.slice VA vn vc)) := hide (q26.cell y2 (fun h => h))
  have sp26 : OwnB w26 w1.heap.size (.slice (some ⟨gk, 0, none⟩) mk nk) l' := ownNe spO hd1726 (Nat.ne_of_lt (Nat.lt_of_lt_of_le lgk hcc))
  have a26 := (ownOff a17 hd1726 hcl4).low (Nat.le_trans n23 n34)
  have b26 := (ownOff a27 hd1726 hcl4).low (Nat.le_trans n23 n34)
  have q26' := ownOff q17 hd1726 k7
  have B26 := ownOff B17 hd1726 k9
  have S26 := ownOff S17 hd1726 k10
  have u26 := ownOff u17 hd1726 k11
  have v26 := ownOff u27 hd1726 k11
  have d26 := ownOff hs23 (hd24.trans (chgX (hd2425.trans0 q26)) fun _ _ h => h) lcd
  have h26 := hkv25.chg q26 fun _ _ h => h
  obtain ⟨PA, pn, pc_, rfl⟩ : ∃ A m c, pk = .slice A m c := a26.shapeH
  obtain ⟨PB, pvn, pvc, rfl⟩ : ∃ A m c, pv = .slice A m c := b26.shapeH
  obtain ⟨QA, qn, qc, rfl⟩ : ∃ A m c, qk = .slice A m c := q26'.shapeH
  refine wp_region_T (Chg Non w26.drew) 42 (by kernel_rfl) ?_
  have HS := hide (Chg.refl Non w26.drew)
  refine AnyT.takeM (i := 0) (v := ?_) rfl (by kernel_rfl) (by kernel_rfl) (fun _ _ _ h => h) (by kernel_rfl) (by kernel_rfl) (Or.inl ⟨by rfl, ?_⟩) HS.out ?_
  rotate_left
  · (intro w9 h9; go_simp; try with_reducible rfl)
  try simp only [getElem_toArray, getElem_cons_succ, getElem_cons_zero, Act.put, setIfInBounds_toArray, set_cons_zero, set_cons_succ]
  refine AnyT.takeM (i := 1) (v := ?_) rfl (by kernel_rfl) (by kernel_rfl) (fun _ _ _ h => h) (by kernel_rfl) (by kernel_rfl) (Or.inl ⟨by rfl, ?_⟩) HS.out ?_
  rotate_left
  · (intro w9 h9; go_simp; try with_reducible rfl)
  try simp only [getElem_toArray, getElem_cons_succ, getElem_cons_zero, Act.put, setIfInBounds_toArray, set_cons_zero, set_cons_succ]
  refine AnyT.takeM (i := 2) (v := ?_) rfl (by kernel_rfl) (by kernel_rfl) (fun _ _ _ h => h) (by kernel_rfl) (by kernel_rfl) (Or.inl ⟨by rfl, ?_⟩) HS.out ?_
  rotate_left
  · (intro w9 h9; go_simp; try with_reducible rfl)
  try simp only [getElem_toArray, getElem_cons_succ, getElem_cons_zero, Act.put, setIfInBounds_toArray, set_cons_zero, set_cons_succ]
  refine AnyT.takeM (i := 3) (v := ?_) rfl (by kernel_rfl) (by kernel_rfl) (fun _ _ _ h => h) (by kernel_rfl) (by kernel_rfl) (Or.inl ⟨by rfl, ?_⟩) HS.out ?_
  rotate_left
  · (intro w9 h9; have y := h9.cell E1.out (fun h => h); go_simp; try with_reducible rfl)
  try simp only [getElem_toArray, getElem_cons_succ, getElem_cons_zero, Act.put, setIfInBounds_toArray, set_cons_zero, set_cons_succ]
  refine AnyT.takeM (i := 4) (v := ?_) rfl (by kernel_rfl) (by kernel_rfl) (fun _ _ _ h => h) (by kernel_rfl) (by kernel_rfl) (Or.inl ⟨by rfl, ?_⟩) HS.out ?_
  rotate_left
  · (intro w9 h9; go_simp; try with_reducible rfl)
  try simp only [getElem_toArray, getElem_cons_succ, getElem_cons_zero, Act.put, setIfInBounds_toArray, set_cons_zero, set_cons_succ]
  refine AnyT.takeM (i := 5) (v := ?_) rfl (by kernel_rfl) (by kernel_rfl) (fun _ _ _ h => h) (by kernel_rfl) (by kernel_rfl) (Or.inl ⟨by rfl, ?_⟩) HS.out ?_
  rotate_left
  · (intro w9 h9; go_simp; try with_reducible rfl)
  try simp only [getElem_toArray, getElem_cons_succ, getElem_cons_zero, Act.put, setIfInBounds_toArray, set_cons_zero, set_cons_succ]
  refine AnyT.takeM (i := 6) (v := ?_) rfl (by kernel_rfl) (by kernel_rfl) (fun _ _ _ h => h) (by kernel_rfl) (by kernel_rfl) (Or.inl ⟨by rfl, ?_⟩) HS.out ?_
  rotate_left
  · (intro w9 h9; have y := h9.cell E2.out (fun h => h); go_simp; try with_reducible rfl)
  try simp only [getElem_toArray, getElem_cons_succ, getElem_cons_zero, Act.put, setIfInBounds_toArray, set_cons_zero, set_cons_succ]
  refine AnyT.takeM (i := 7) (v := ?_) rfl (by kernel_rfl) (by kernel_rfl) (fun _ _ _ h => h) (by kernel_rfl) (by kernel_rfl) (Or.inl ⟨by rfl, ?_⟩) HS.out ?_
  rotate_left
  · (intro w9 h9; go_simp; try with_reducible rfl)
  try simp only [getElem_toArray, getElem_cons_succ, getElem_cons_zero, Act.put, setIfInBounds_toArray, set_cons_zero, set_cons_succ]
  refine AnyT.takeM (i := 8) (v := ?_) rfl (by kernel_rfl) (by kernel_rfl) (fun _ _ _ h => h) (by kernel_rfl) (by kernel_rfl) (Or.inl ⟨by rfl, ?_⟩) HS.out ?_
  rotate_left
  · (intro w9 h9; go_simp; try with_reducible rfl)
  try simp only [getElem_toArray, getElem_cons_succ, getElem_cons_zero, Act.put, setIfInBounds_toArray, set_cons_zero, set_cons_succ]
  refine AnyT.takeM (i := 9) (v := ?_) rfl (by kernel_rfl) (by kernel_rfl) (fun _ _ _ h => h) (by kernel_rfl) (by kernel_rfl) (Or.inl ⟨by rfl, ?_⟩) HS.out ?_
  rotate_left
  · (intro w9 h9; have y := h9.cell E1.out (fun h => h); go_simp; try with_reducible rfl)
  try simp only [getElem_toArray, getElem_cons_succ, getElem_cons_zero, Act.put, setIfInBounds_toArray, set_cons_zero, set_cons_succ]
  refine AnyT.takeM (i := 10) (v := ?_) rfl (by kernel_rfl) (by kernel_rfl) (fun _ _ _ h => h) (by kernel_rfl) (by kernel_rfl) (Or.inl ⟨by rfl, ?_⟩) HS.out ?_
  rotate_left
  · (intro w9 h9; go_simp; try with_reducible rfl)
  try simp only [getElem_toArray, getElem_cons_succ, getElem_cons_zero, Act.put, setIfInBounds_toArray, set_cons_zero, set_cons_succ]
  refine AnyT.takeM (i := 11) (v := ?_) rfl (by kernel_rfl) (by kernel_rfl) (fun _ _ _ h => h) (by kernel_rfl) (by kernel_rfl) (Or.inl ⟨by rfl, ?_⟩) HS.out ?_
  rotate_left
  · (intro w9 h9; go_simp; try with_reducible rfl)
  try simp only [getElem_toArray, getElem_cons_succ, getElem_cons_zero, Act.put, setIfInBounds_toArray, set_cons_zero, set_cons_succ]
  refine AnyT.takeM (i := 12) (v := ?_) rfl (by kernel_rfl) (by kernel_rfl) (fun _ _ _ h => h) (by kernel_rfl) (by kernel_rfl) (Or.inl ⟨by rfl, ?_⟩) HS.out ?_
  rotate_left
  · (intro w9 h9; have y := h9.cell E3.out (fun h => h); go_simp; try with_reducible rfl)
  try simp only [getElem_toArray, getElem_cons_succ, getElem_cons_zero, Act.put, setIfInBounds_toArray, set_cons_zero, set_cons_succ]
  refine AnyT.takeM (i := 13) (v := ?_) rfl (by kernel_rfl) (by kernel_rfl) (fun _ _ _ h => h) (by kernel_rfl) (by kernel_rfl) (Or.inl ⟨by rfl, ?_⟩) HS.out ?_
  rotate_left
  · (intro w9 h9; go_simp; try with_reducible rfl)
  try simp only [getElem_toArray, getElem_cons_succ, getElem_cons_zero, Act.put, setIfInBounds_toArray, set_cons_zero, set_cons_succ]
  refine AnyT.takeM (i := 14) (v := ?_) rfl (by kernel_rfl) (by kernel_rfl) (fun _ _ _ h => h) (by kernel_rfl) (by kernel_rfl) (Or.inl ⟨by rfl, ?_⟩) HS.out ?_
  rotate_left
  · (intro w9 h9; go_simp; try with_reducible rfl)
  try simp only [getElem_toArray, getElem_cons_succ, getElem_cons_zero, Act.put, setIfInBounds_toArray, set_cons_zero, set_cons_succ]
  refine AnyT.takeM (i := 15) (v := ?_) rfl (by kernel_rfl) (by kernel_rfl) (fun _ _ _ h => h) (by kernel_rfl) (by kernel_rfl) (Or.inl ⟨by rfl, ?_⟩) HS.out ?_
  rotate_left
  · (intro w9 h9; have y := h9.cell E4.out (fun h => h); go_simp; try with_reducible rfl)
  try simp only [getElem_toArray, getElem_cons_succ, getElem_cons_zero, Act.put, setIfInBounds_toArray, set_cons_zero, set_cons_succ]
  refine AnyT.takeM (i := 16) (v := ?_) rfl (by kernel_rfl) (by kernel_rfl) (fun _ _ _ h => h) (by kernel_rfl) (by kernel_rfl) (Or.inl ⟨by rfl, ?_⟩) HS.out ?_
  rotate_left
  · (intro w9 h9; go_simp; try with_reducible rfl)
  try simp only [getElem_toArray, getElem_cons_succ, getElem_cons_zero, Act.put, setIfInBounds_toArray, set_cons_zero, set_cons_succ]
  refine AnyT.takeM (i := 17) (v := ?_) rfl (by kernel_rfl) (by kernel_rfl) (fun _ _ _ h => h) (by kernel_rfl) (by kernel_rfl) (Or.inl ⟨by rfl, ?_⟩) HS.out ?_
  rotate_left
  · (intro w9 h9; go_simp; try with_reducible rfl)
  try simp only [getElem_toArray, getElem_cons_succ, getElem_cons_zero, Act.put, setIfInBounds_toArray, set_cons_zero, set_cons_succ]
  refine AnyT.takeM (i := 18) (v := ?_) rfl (by kernel_rfl) (by kernel_rfl) (fun _ _ _ h => h) (by kernel_rfl) (by kernel_rfl) (Or.inl ⟨by rfl, ?_⟩) HS.out ?_
  rotate_left
  · (intro w9 h9; have y := h9.cell E5.out (fun h => h); go_simp; try with_reducible rfl)
  try simp only [getElem_toArray, getElem_cons_succ, getElem_cons_zero, Act.put, setIfInBounds_toArray, set_cons_zero, set_cons_succ]
  refine AnyT.takeM (i := 19) (v := ?_) rfl (by kernel_rfl) (by kernel_rfl) (fun _ _ _ h => h) (by kernel_rfl) (by kernel_rfl) (Or.inl ⟨by rfl, ?_⟩) HS.out ?_
  rotate_left
  · (intro w9 h9; go_simp; try with_reducible rfl)
  try simp only [getElem_toArray, getElem_cons_succ, getElem_cons_zero, Act.put, setIfInBounds_toArray, set_cons_zero, set_cons_succ]
  refine AnyT.takeM (i := 20) (v := ?_) rfl (by kernel_rfl) (by kernel_rfl) (fun _ _ _ h => h) (by kernel_rfl) (by kernel_rfl) (Or.inl ⟨by rfl, ?_⟩) HS.out ?_
  rotate_left
  · (intro w9 h9; go_simp; try with_reducible rfl)
  try simp only [getElem_toArray, getElem_cons_succ, getElem_cons_zero, Act.put, setIfInBounds_toArray, set_cons_zero, set_cons_succ]
  refine AnyT.takeM (i := 21) (v := ?_) rfl (by kernel_rfl) (by kernel_rfl) (fun _ _ _ h => h) (by kernel_rfl) (by kernel_rfl) (Or.inl ⟨by rfl, ?_⟩) HS.out ?_
  rotate_left
  · (intro w9 h9; go_simp; try with_reducible rfl)
  try simp only [getElem_toArray, getElem_cons_succ, getElem_cons_zero, Act.put, setIfInBounds_toArray, set_cons_zero, set_cons_succ]
  refine AnyT.takeM (i := 22) (v := ?_) rfl (by kernel_rfl) (by kernel_rfl) (fun _ _ _ h => h) (by kernel_rfl) (by kernel_rfl) (Or.inl ⟨by rfl, ?_⟩) HS.out ?_
  rotate_left
  · (intro w9 h9; go_simp; try with_reducible rfl)
  try simp only [getElem_toArray, getElem_cons_succ, getElem_cons_zero, Act.put, setIfInBounds_toArray, set_cons_zero, set_cons_succ]
  refine AnyT.takeM (i := 23) (v := ?_) rfl (by kernel_rfl) (by kernel_rfl) (fun _ _ _ h => h) (by kernel_rfl) (by kernel_rfl) (Or.inl ⟨by rfl, ?_⟩) HS.out ?_
  rotate_left
  · (intro w9 h9; have y := h9.cell E6.out (fun h => h); go_simp; try with_reducible rfl)
  try simp only [getElem_toArray, getElem_cons_succ, getElem_cons_zero, Act.put, setIfInBounds_toArray, set_cons_zero, set_cons_succ]
  refine AnyT.takeM (i := 24) (v := ?_) rfl (by kernel_rfl) (by kernel_rfl) (fun _ _ _ h => h) (by kernel_rfl) (by kernel_rfl) (Or.inl ⟨by rfl, ?_⟩) HS.out ?_
  rotate_left
  · (intro w9 h9; go_simp; try with_reducible rfl)
  try simp only [getElem_toArray, getElem_cons_succ, getElem_cons_zero, Act.put, setIfInBounds_toArray, set_cons_zero, set_cons_succ]
  refine AnyT.takeM (i := 25) (v := ?_) rfl (by kernel_rfl) (by kernel_rfl) (fun _ _ _ h => h) (by kernel_rfl) (by kernel_rfl) (Or.inl ⟨by rfl, ?_⟩) HS.out ?_
  rotate_left
  · (intro w9 h9; go_simp; try with_reducible rfl)
  try simp only [getElem_toArray, getElem_cons_succ, getElem_cons_zero, Act.put, setIfInBounds_toArray, set_cons_zero, set_cons_succ]
  refine AnyT.takeM (i := 26) (v := ?_) rfl (by kernel_rfl) (by kernel_rfl) (fun _ _ _ h => h) (by kernel_rfl) (by kernel_rfl) (Or.inl ⟨by rfl, ?_⟩) HS.out ?_
  rotate_left
  · (intro w9 h9; have y := h9.cell E7.out (fun h => h); go_simp; try with_reducible rfl)
  try simp only [getElem_toArray, getElem_cons_succ, getElem_cons_zero, Act.put, setIfInBounds_toArray, set_cons_zero, set_cons_succ]
  refine AnyT.takeM (i := 27) (v := ?_) rfl (by kernel_rfl) (by kernel_rfl) (fun _ _ _ h => h) (by kernel_rfl) (by kernel_rfl) (Or.inl ⟨by rfl, ?_⟩) HS.out ?_
  rotate_left
  · (intro w9 h9; go_simp; try with_reducible rfl)
  try simp only [getElem_toArray, getElem_cons_succ, getElem_cons_zero, Act.put, setIfInBounds_toArray, set_cons_zero, set_cons_succ]
  refine AnyT.takeM (i := 28) (v := ?_) rfl (by kernel_rfl) (by kernel_rfl) (fun _ _ _ h => h) (by kernel_rfl) (by kernel_rfl) (Or.inl ⟨by rfl, ?_⟩) HS.out ?_
  rotate_left
  · (intro w9 h9; go_simp; try with_reducible rfl)
  try simp only [getElem_toArray, getElem_cons_succ, getElem_cons_zero, Act.put, setIfInBounds_toArray, set_cons_zero, set_cons_succ]
  refine AnyT.takeM (i := 29) (v := ?_) rfl (by kernel_rfl) (by kernel_rfl) (fun _ _ _ h => h) (by kernel_rfl) (by kernel_rfl) (Or.inl ⟨by rfl, ?_⟩) HS.out ?_
  rotate_left
  · (intro w9 h9; have y := h9.cell E6.out (fun h => h); go_simp; try with_reducible rfl)
  try simp only [getElem_toArray, getElem_cons_succ, getElem_cons_zero, Act.put, setIfInBounds_toArray, set_cons_zero, set_cons_succ]
  refine AnyT.takeM (i := 30) (v := ?_) rfl (by kernel_rfl) (by kernel_rfl) (fun _ _ _ h => h) (by kernel_rfl) (by kernel_rfl) (Or.inl ⟨by rfl, ?_⟩) HS.out ?_
  rotate_left
  · (intro w9 h9; go_simp; try with_reducible rfl)
  try simp only [getElem_toArray, getElem_cons_succ, getElem_cons_zero, Act.put, setIfInBounds_toArray, set_cons_zero, set_cons_succ]
  refine AnyT.takeM (i := 31) (v := ?_) rfl (by kernel_rfl) (by kernel_rfl) (fun _ _ _ h => h) (by kernel_rfl) (by kernel_rfl) (Or.inl ⟨by rfl, ?_⟩) HS.out ?_
  rotate_left
  · (intro w9 h9; go_simp; try with_reducible rfl)
  try simp only [getElem_toArray, getElem_cons_succ, getElem_cons_zero, Act.put, setIfInBounds_toArray, set_cons_zero, set_cons_succ]
  refine AnyT.takeM (i := 32) (v := ?_) rfl (by kernel_rfl) (by kernel_rfl) (fun _ _ _ h => h) (by kernel_rfl) (by kernel_rfl) (Or.inl ⟨by rfl, ?_⟩) HS.out ?_
  rotate_left
  · (intro w9 h9; have y := h9.cell E8.out (fun h => h); go_simp; try with_reducible rfl)
  try simp only [getElem_toArray, getElem_cons_succ, getElem_cons_zero, Act.put, setIfInBounds_toArray, set_cons_zero, set_cons_succ]
  refine AnyT.takeM (i := 33) (v := ?_) rfl (by kernel_rfl) (by kernel_rfl) (fun _ _ _ h => h) (by kernel_rfl) (by kernel_rfl) (Or.inl ⟨by rfl, ?_⟩) HS.out ?_
  rotate_left
  · (intro w9 h9; go_simp; try with_reducible rfl)
  try simp only [getElem_toArray, getElem_cons_succ, getElem_cons_zero, Act.put, setIfInBounds_toArray, set_cons_zero, set_cons_succ]
  refine AnyT.takeM (i := 34) (v := ?_) rfl (by kernel_rfl) (by kernel_rfl) (fun _ _ _ h => h) (by kernel_rfl) (by kernel_rfl) (Or.inl ⟨by rfl, ?_⟩) HS.out ?_
  rotate_left
  · (intro w9 h9; go_simp; try with_reducible rfl)
  try simp only [getElem_toArray, getElem_cons_succ, getElem_cons_zero, Act.put, setIfInBounds_toArray, set_cons_zero, set_cons_succ]
  refine AnyT.takeM (i := 35) (v := ?_) rfl (by kernel_rfl) (by kernel_rfl) (fun _ _ _ h => h) (by kernel_rfl) (by kernel_rfl) (Or.inl ⟨by rfl, ?_⟩) HS.out ?_
  rotate_left
  · (intro w9 h9; go_simp; try with_reducible rfl)
  try simp only [getElem_toArray, getElem_cons_succ, getElem_cons_zero, Act.put, setIfInBounds_toArray, set_cons_zero, set_cons_succ]
  refine AnyT.takeM (i := 36) (v := ?_) rfl (by kernel_rfl) (by kernel_rfl) (fun _ _ _ h => h) (by kernel_rfl) (by kernel_rfl) (Or.inl ⟨by rfl, ?_⟩) HS.out ?_
  rotate_left
  · (intro w9 h9; have y := h9.cell E9.out (fun h => h); go_simp; try with_reducible rfl)
  try simp only [getElem_toArray, getElem_cons_succ, getElem_cons_zero, Act.put, setIfInBounds_toArray, set_cons_zero, set_cons_succ]
  refine AnyT.takeM (i := 37) (v := ?_) rfl (by kernel_rfl) (by kernel_rfl) (fun _ _ _ h => h) (by kernel_rfl) (by kernel_rfl) (Or.inl ⟨by rfl, ?_⟩) HS.out ?_
  rotate_left
  · (intro w9 h9; go_simp; try with_reducible rfl)
  try simp only [getElem_toArray, getElem_cons_succ, getElem_cons_zero, Act.put, setIfInBounds_toArray, set_cons_zero, set_cons_succ]
  refine AnyT.takeM (i := 38) (v := ?_) rfl (by kernel_rfl) (by kernel_rfl) (fun _ _ _ h => h) (by kernel_rfl) (by kernel_rfl) (Or.inl ⟨by rfl, ?_⟩) HS.out ?_
  rotate_left
  · (intro w9 h9; have y := h9.cell E10.out (fun h => h); go_simp; try with_reducible rfl)
  try simp only [getElem_toArray, getElem_cons_succ, getElem_cons_zero, Act.put, setIfInBounds_toArray, set_cons_zero, set_cons_succ]
  refine AnyT.takeM (i := 39) (v := ?_) rfl (by kernel_rfl) (by kernel_rfl) (fun _ _ _ h => h) (by kernel_rfl) (by kernel_rfl) (Or.inl ⟨by rfl, ?_⟩) HS.out ?_
  rotate_left
  · (intro w9 h9; go_simp; try with_reducible rfl)
  try simp only [getElem_toArray, getElem_cons_succ, getElem_cons_zero, Act.put, setIfInBounds_toArray, set_cons_zero, set_cons_succ]
  refine AnyT.takeM (i := 40) (v := ?_) rfl (by kernel_rfl) (by kernel_rfl) (fun _ _ _ h => h) (by kernel_rfl) (by kernel_rfl) (Or.inl ⟨by rfl, ?_⟩) HS.out ?_
  rotate_left
  · (intro w9 h9; go_simp; try with_reducible rfl)
  try simp only [getElem_toArray, getElem_cons_succ, getElem_cons_zero, Act.put, setIfInBounds_toArray, set_cons_zero, set_cons_succ]
  refine AnyT.takeM (i := 41) (v := ?_) rfl (by kernel_rfl) (by kernel_rfl) (fun _ _ _ h => h) (by kernel_rfl) (by kernel_rfl) (Or.inl ⟨by rfl, ?_⟩) HS.out ?_
  rotate_left
  · (intro w9 h9; have y := h9.cell E11.out (fun h => h); go_simp; try with_reducible rfl)
  try simp only [getElem_toArray, getElem_cons_succ, getElem_cons_zero, Act.put, setIfInBounds_toArray, set_cons_zero, set_cons_succ]
  have z1 := hdx.size
  have z2 := hd24.size
  have z3 := hd2425.size
  have z4 := q26.size
  have LSP : spareL (replyY rep) = spareL (replyY rep) := rfl
  have n67' : w2.heap.size ≤ w7.heap.size := by omega
  have n1122 : w11.heap.size ≤ w22.heap.size := by omega
  have n1322 : w13.heap.size ≤ w22.heap.size := by omega
  have n2223 : w22.heap.size ≤ w23.heap.size := by omega
  have n2326 : w23.heap.size ≤ w26.heap.size := by omega
  have n126 : w1.heap.size ≤ w26.heap.size := by omega
  have hch : OwnCh w26.drew w1.heap.size [(.slice (some ⟨gk, 0, none⟩) mk nk, l'), (.slice PA pn pc_, key), (.slice PB pvn pvc, key), (.slice QA qn qc, key), (.slice BA bn bc, y), (.slice (some ⟨gs, 0, none⟩) ms ns, spareL y), (.slice UK ukn ukc, key), (.slice UV un uc, key), (.slice (some ⟨gd, 0, none⟩) md nd, spareL (replyY rep)), (.slice VA vn vc, rep)] :=
    chDrw (OwnCh.cons_ sp26 n12 (fun b hb => by injection hb with hb; exact hb ▸ lgk) (OwnCh.cons2_ a26 b26 n67' LA.out.1 LA.out.2 aa (OwnCh.cons_ q26' n79 LB.out (OwnCh.cons_ B26 n910 LV.out (OwnCh.cons_ S26 n1011 (fun b hb => by injection hb with hb; exact hb ▸ LG.out.2) (OwnCh.cons2_ u26 v26 n1122 (fun b hb => Nat.lt_of_lt_of_le (LU.out.1 b hb) n1322) (fun b hb => Nat.lt_of_lt_of_le (LU.out.2 b hb) n1322) ac (OwnCh.cons_ d26 n2223 (fun b hb => by injection hb with hb; exact hb ▸ lgd.2) (OwnCh.cons_ h26 n2326 (fun b hb => (h26.lt b hb).2) (OwnCh.nil_ _ _)))))))))
  have hlen : ∀ l ∈ [((Value.slice (some ⟨gk, 0, none⟩) mk nk : Value), l'), (.slice PA pn pc_, key), (.slice PB pvn pvc, key), (.slice QA qn qc, key), (.slice BA bn bc, y), (.slice (some ⟨gs, 0, none⟩) ms ns, spareL y), (.slice UK ukn ukc, key), (.slice UV un uc, key), (.slice (some ⟨gd, 0, none⟩) md nd, spareL (replyY rep)), (.slice VA vn vc, rep)], l.2.length ≤ 1000000000 := by
    have e1 := spareL_len key
    have e2 := spareL_len y
    have e3 := spareL_len (replyY rep)
    have e4 := replyY_len5 hr5
    intro l hl
    simp only [List.mem_cons, List.not_mem_nil, or_false] at hl
    rcases hl with rfl | rfl | rfl | rfl | rfl | rfl | rfl | rfl | rfl | rfl <;> simp only <;> omega
  have hAp := hide (refApartL hch n126 (n := 10) rfl (by decide) rfl hlen)
  have hcs := hide (And.intro hch.own (((hcW25.trans0 q26).drew)))
  clear hch hlen HS
  refine AnyT.one (i := 42) (by kernel_rfl) rfl (fun K hK => ?_)
  go_simp
  refine hK.out _ _ (fun h => absurd h (by decide)) ?_
  clear hK K
  try simp only [getElem_toArray, getElem_cons_succ, getElem_cons_zero, Act.put, setIfInBounds_toArray, set_cons_zero, set_cons_succ]
  refine AnyT.one (i := 43) (by kernel_rfl) rfl (fun K hK => ?_)
  go_simp
  go_wp2_with (go_at_call 22; refine hAp.out.mono ?_; rintro e w27 ⟨rfl, hc27⟩)
  refine hK.out _ _ (fun h => absurd h (by decide)) ?_
  clear hK K
  try simp only [getElem_toArray, getElem_cons_succ, getElem_cons_zero, Act.put, setIfInBounds_toArray, set_cons_zero, set_cons_succ]
  refine AnyT.one (i := 44) (by kernel_rfl) rfl (fun K hK => ?_)
  go_simp
  refine hK.out _ _ (fun h => absurd h (by decide)) ?_
  clear hK K
  try simp only [getElem_toArray, getElem_cons_succ, getElem_cons_zero, Act.put, setIfInBounds_toArray, set_cons_zero, set_cons_succ]
  refine AnyT.nil (by kernel_rfl) ?_
  go_wp2_with fail
  go_ret
  refine ⟨rfl, (hcs.out.2.alloc _).trans hc27 fun k hk hV => ?_⟩
  obtain ⟨p, hp, hb⟩ := hV
  obtain ⟨j, hj, e⟩ := List.mem_iff_getElem.1 hp
  have h1 := ((hcs.out.1 j p.1 p.2 (by rw [List.getElem?_eq_getElem hj, e])).lt k hb).1
  exact Nat.lt_irrefl _ (Nat.lt_of_lt_of_le hk (Nat.le_trans m1 h1))
set_option maxRecDepth 100000 in
theorem contract (H : Type) (enc : TypeId × Value → H) (W : World) (base : Nat) (args : Array Value) (ds gs : List (DataW H)) (before : List MemPlace)
    (hval : ∀ (j : Nat) t v, Try.f5.params[j]? = some t → args[j]? = some v → Value.okWide Try.prog W .any base t v)
    (hW : DataW.Whole enc Try.prog Try.f5.params.toList Rows.rpcKeepsSpec.vars false W args.toList ds gs before) (hsz : (DataW.weightsEach Try.prog (Try.f5.params.toList ++ Rows.rpcKeepsSpec.plain.varTypes Try.prog) (ds ++ gs)).all (· ≤ reachBytes) = true) :
    Calls Try.prog 5 args W fun e W' => ∃ v, e = .returned v ∧ Rows.rpcKeepsSpec.post enc Try.prog Try.f5 false true false false W args v W' := by
  have hW' := hW
  obtain ⟨p, q, hA0, hV, rfl, hfz, hnd⟩ := hW
  have hA : DataW.TrodAll enc Try.prog W 0 (fun _ => true) true Try.f5.params.toList args.toList ds p := hA0
  rw [Try.params5] at hA hval hsz
  obtain ⟨v0, vs0, d0, ds0, p0, q0, hargs, rfl, rfl, h0, r0⟩ := trodAll_cons hA
  obtain ⟨v1, vs1, d1, ds1, p1, q1, rfl, rfl, rfl, h1, r1⟩ := trodAll_cons r0
  obtain ⟨rfl, rfl, rfl⟩ := trodAll_nil r1
  obtain rfl : args = #[v0, v1] := by cases args; simp_all
  obtain ⟨rfl, rfl⟩ := trodVars_none hV
  have k0 := h0
  have lt0 : ∀ x ∈ p0, x.block < W.heap.size := by obtain ⟨m, hm⟩ := k0; exact DataW.trod_lt m _ _ _ hm
  obtain ⟨l0, w0, z0⟩ := openB (hval 0 26 v0 rfl rfl) h0
  have s0 : l0.length ≤ reachBytes := z0.2 _ fun e s he => by
    have := sized_slice hsz (j := 0) rfl (by rw [he]; rfl) Try.underlying26
    exact Nat.le_trans (Nat.le_mul_of_pos_right _ (of_decide_eq_true (by kernel_rfl))) this
  have k1 := h1
  have lt1 : ∀ x ∈ p1, x.block < W.heap.size := by obtain ⟨m, hm⟩ := k1; exact DataW.trod_lt m _ _ _ hm
  obtain ⟨l1, w1, z1⟩ := openB (hval 1 26 v1 rfl rfl) h1
  have s1 : l1.length ≤ reachBytes := z1.2 _ fun e s he => by
    have := sized_slice hsz (j := 1) rfl (by rw [he]; rfl) Try.underlying26
    exact Nat.le_trans (Nat.le_mul_of_pos_right _ (of_decide_eq_true (by kernel_rfl))) this
  refine (walk w0 w1 s0 s1).mono fun e W' ⟨he, bel0⟩ => ?_
  have bel := bel0.below
  subst he
  exact ⟨_, rfl, _, _, _, [], _, [], hW', trodAll_mk1 (shut_bool Try.underlying4 _), (trodAll_cons_mk (Below.trod laidOut (by kernel_rfl) (of_decide_eq_true (by kernel_rfl)) k0 bel lt0) (trodAll_cons_mk (Below.trod laidOut (by kernel_rfl) (of_decide_eq_true (by kernel_rfl)) k1 bel lt1) trodAll_mk0)), rfl, bel.frame _, fun h => by cases h⟩

set_option maxRecDepth 100000 in
theorem lifted (os : Os) (started : os.Started) (H : Type) (enc : TypeId × Value → H) :
    ReturnsInHanded {} Try.checked os 5 .any (Rows.rpcKeepsSpec.pre6 enc Try.prog Try.f5 Rows.rpcKeepsRow.domain false) (Rows.rpcKeepsSpec.post enc Try.prog Try.f5 false true false false) := by
  refine returnsInHanded_of_change_sized (C := Try.checked) own started (by kernel_rfl) Try.func5
    (ChangeSpec.witness6 (enc := enc) (C := Try.checked) false ⟨#[], #[.slice none 0 0, .slice none 0 0], []⟩ 8 (by kernel_rfl) (by kernel_rfl) (by kernel_rfl) (by kernel_rfl)) ?_
  intro W base args ds gs before hval hW _ hsz _
  exact contract H enc W base args ds gs before hval hW hsz

theorem over : Rows.rpcKeepsRow.holds Try.pinned (OpenSpec.ofChange Rows.rpcKeepsSpec) :=
  OpenClaim.holds_of_wide 5 Try.f5 rfl rfl rfl rfl rfl rfl rfl ⟨rfl, rfl, rfl, rfl, rfl⟩ rfl rfl rfl rfl rfl (by kernel_rfl) Try.func5 (by kernel_rfl)
    (of_decide_eq_true (by kernel_rfl)) (by unfold Func.isWrapper; first | (rw [if_pos (by decide +kernel)]; kernel_rfl) | (rw [if_neg (by decide +kernel)]; exact ⟨rfl, rfl⟩))
    (fun os started H enc _ => lifted os started H enc)

theorem proved : Rows.RpcKeepsSaid := over
end Go.Proofs.Ytncchbcoldgpbaa.rpcKeeps
