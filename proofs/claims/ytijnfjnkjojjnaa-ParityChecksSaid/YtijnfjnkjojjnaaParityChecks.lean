/- ParityChecks: the check bytes of any bytes make the polynomial nought at its four places: for every input the statement's function answers true. No condition. -/
import Derived.Test.YtijnfjnkjojjnaaCut03
import Derived.Test.YtijnfjnkjojjnaaOpenBB
import Derived.Test.YtijnfjnkjojjnaaRefChk
import Derived.Test.YtijnfjnkjojjnaaRefJ
import Derived.Deep.RegionLaw
import Derived.Deep.RegionHeld3
namespace Go.Proofs.Ytijnfjnkjojjnaa.parityChecks
open Go.ChangeShapes Go.WideShapes Go.ChangeAt Go.RowKit Go.Deep
open Go.ChangeMaps (open_string shut_string)
set_option linter.unusedVariables false

theorem RdBB.front {w : World} {F : Nat → Prop} {A : Option Addr} {n c j : Nat} {ll : List (List UInt8)} (h : RdBB w F (.slice A n c) ll) (hj : j ≤ ll.length) : RdBB w F (.slice A j c) (ll.take j) := by
  obtain ⟨A', c', e, hc, hm⟩ := h.shape
  injection e with e1 e2 e3
  subst e1; subst e2; subst e3
  obtain ⟨vs, h1, ⟨h2, A2, c2, e, _, _, h3⟩, h4⟩ := h
  injection e with e1 e2 e3
  subst e1; subst e3
  have el : (ll.take j).length = j := by simp; omega
  refine ⟨vs.take j, by simp [h1], ?_, fun k x l hx hl => ?_⟩
  · rw [el]
    refine ⟨by simp; omega, A, c, rfl, by omega, hm, fun hn => ?_⟩
    obtain ⟨ad, rfl, hf, hcell⟩ := h3 (by omega)
    refine ⟨ad, rfl, hf, fun i u hu => hcell i u ?_⟩
    rw [List.getElem?_take] at hu
    split at hu
    · exact hu
    · cases hu
  · rw [List.getElem?_take] at hx hl
    split at hx
    · rename_i hk
      rw [if_pos hk] at hl
      exact h4 k x l hx hl
    · cases hx

def cuts (lm : List (List UInt8)) (k : Nat) : List (List UInt8) := (lm.take k).map fun l => l.take 200
theorem cuts_succ (lm : List (List UInt8)) (k : Nat) (h : k < lm.length) : cuts lm (k + 1) = cuts lm k ++ [lm[k].take 200] := by
  rw [cuts, List.take_succ_eq_append_getElem h, List.map_append]; rfl
theorem flat_succ (lm : List (List UInt8)) (k : Nat) (h : k < lm.length) : (cuts lm (k + 1)).flatten = (cuts lm k).flatten ++ lm[k].take 200 := by
  rw [cuts_succ lm k h, List.flatten_append]; simp
theorem flat_le : ∀ (ll : List (List UInt8)), (∀ l ∈ ll, l.length ≤ 200) → ll.flatten.length ≤ 200 * ll.length
  | [], _ => by simp
  | a :: ll, h => by
    have h1 := h a (by simp)
    have h2 := flat_le ll fun l hl => h l (by simp [hl])
    simp only [List.flatten_cons, List.length_append, List.length_cons]; omega
theorem cuts_mem (lm : List (List UInt8)) (k : Nat) : ∀ l ∈ cuts lm k, l.length ≤ 200 := fun l h => by
  obtain ⟨x, _, rfl⟩ := List.mem_map.1 h
  rw [List.length_take]; omega
theorem cuts_len (lm : List (List UInt8)) (k : Nat) (h : k ≤ lm.length) : (cuts lm k).length = k := by
  rw [cuts, List.length_map, List.length_take]; omega

def QuadAt (g : Nat) (p : Quad) (w : World) : Prop := w.cell? ⟨g, 0, none⟩ = some (.int .u8 (p.1.toNat : Int)) ∧ w.cell? ⟨g, 1, none⟩ = some (.int .u8 (p.2.1.toNat : Int)) ∧ w.cell? ⟨g, 2, none⟩ = some (.int .u8 (p.2.2.1.toNat : Int)) ∧ w.cell? ⟨g, 3, none⟩ = some (.int .u8 (p.2.2.2.toNat : Int))
theorem QuadAt.of {w : World} {g : Nat} {t : TypeId} {p : Quad} (h : Blk w g t #[bv p.1, bv p.2.1, bv p.2.2.1, bv p.2.2.2]) : QuadAt g p w := ⟨h.cell 0, h.cell 1, h.cell 2, h.cell 3⟩
theorem QuadAt.c0 {w w' : World} {g : Nat} {p : Quad} (h : QuadAt g p w) (hc : Chg Non w w') : QuadAt g p w' :=
  ⟨hc.cell h.1 id, hc.cell h.2.1 id, hc.cell h.2.2.1 id, hc.cell h.2.2.2 id⟩
theorem QuadAt.dr {w : World} {g : Nat} {p : Quad} (h : QuadAt g p w) : QuadAt g p w.drew := h.c0 ((Chg.refl _ _).drew)
theorem Chg.ofQ {w w' : World} (h : Quiet w w') : Chg Non w w' := (Chg.refl _ _).quiet h

set_option maxRecDepth 100000 in
set_option maxHeartbeats 1000000 in
theorem walk {W : World} {v0 : Value} {ll : List (List UInt8)} (h0 : RdBB W (fun k => k < W.heap.size) v0 ll) (s0 : ll.length ≤ reachBytes) :
    Calls Try.prog 4 #[v0] W fun e W' => e = .returned (.bool true) ∧ Chg Non W W' := by
  obtain ⟨A1, c1, rfl, hc1, hm1⟩ := h0.shape
  unfold maxLen at hm1
  clear s0
  go_enter Try.func4, Try.ntmps4
  go_wp2_with fail
  refine awake03.mono ?_
  rintro e w1 ⟨rfl, g1⟩
  have h1 := h0.c0 g1
  obtain ⟨m, n, hn, hn8, hmr, hgt⟩ : ∃ (m : List (List UInt8)) (n : Nat), (m.length ≤ n ∧ n ≤ m.length ∧ m.length ≤ ll.length) ∧ m.length ≤ 8 ∧ RdBB w1 (fun k => k < W.heap.size) (.slice A1 n c1) m ∧ ((n = 8 ∧ 8 < ll.length) ∨ (n = ll.length ∧ ¬ 8 < ll.length)) := by
    by_cases h4 : 8 < ll.length
    · exact ⟨ll.take 8, 8, ⟨by simp; omega, by simp; omega, by rw [List.length_take]; omega⟩, by simp; omega, RdBB.front h1 (by omega), .inl ⟨rfl, h4⟩⟩
    · exact ⟨ll, ll.length, ⟨Nat.le_refl _, Nat.le_refl _, Nat.le_refl _⟩, by omega, h1, .inr ⟨rfl, h4⟩⟩
  clear h0 h1
  rcases hgt with ⟨rfl, h4⟩ | ⟨rfl, h4⟩
  case' inl => have hdec : decide ((8 : Int) < (ll.length : Int)) = true := decide_eq_true (by omega)
  case' inr => have hdec : decide ((8 : Int) < (ll.length : Int)) = false := decide_eq_false (by omega)
  all_goals
    go_wp2_with fail
    go_loopw [3, 4, 18] (fun av sv iv wr => ∃ (k : Nat), k ≤ m.length ∧ iv = .int .i64 k ∧ OwnB wr W.heap.size av (cuts m k).flatten ∧ OwnBB wr W.heap.size (fun b => b < W.heap.size) sv (cuts m k) ∧ (∀ b, av.ownBlock = some b → sv.ownBlock ≠ some b) ∧ RdBB wr (fun k => k < W.heap.size) _ m ∧ Chg Non W wr) (fun _ _ iv _ => m.length - (intOf iv).toNat)
    case atStart => exact ⟨0, by omega, rfl, OwnB.nil_ _ _, OwnBB.nil_ _ _ _, (fun b hb => by simp [Value.ownBlock] at hb), hmr, g1⟩
    case round =>
      clear hmr g1
      obtain ⟨k, hk, rfl, hA, hO, hdis, hr, hcw⟩ := hrel
      by_cases h5 : k < m.length
      · obtain ⟨ad, p, rfl, hadF, hp, hrp⟩ := hr.at_ h5
        have HS := hide (cuts_succ m k h5)
        have HFl := hide (flat_succ m k h5)
        have hkl := cuts_len m k (by omega)
        have hfl := flat_le _ (cuts_mem m k)
        rw [hkl] at hfl
        obtain ⟨q, hq⟩ : ∃ q, q = m[k] := ⟨_, rfl⟩
        rw [← hq] at hrp HS HFl
        have hq2 : (q.take 200).length ≤ 200 := by rw [List.length_take]; omega
        have hdl : (cuts m k).length + 1 ≤ 1000000000000 := by omega
        have hlenA : (cuts m k).flatten.length + (q.take 200).length ≤ 140737488355328 := by omega
        obtain ⟨P, np, cp, rfl⟩ : ∃ P np cp, p = .slice P np cp := by obtain ⟨P, cp, e, _⟩ := hrp.shape; exact ⟨P, _, cp, e⟩
        have hkd : decide ((k : Int) < 8) = true := decide_eq_true (by omega)
        have hkd2 : decide ((k : Int) < (ll.length : Int)) = true := decide_eq_true (by omega)
        clear hq hkl hfl
        go_wp2_with fail
        refine (lawCut (n := 200) hrp (by omega)).mono ?_
        rintro e w2 ⟨u, rfl, hu, rfl⟩
        obtain ⟨A3, n3, c3, rfl⟩ : ∃ A n c, u = .slice A n c := by obtain ⟨A, c, e, _⟩ := hu.shape; exact ⟨A, _, c, e⟩
        have hO2 := hO.al (.cells #[.slice A3 n3 c3] 26)
        have hblk := Blk.new w2 26 #[.slice A3 n3 c3]
        have hcw2 := hcw.alloc (.cells #[.slice A3 n3 c3] 26)
        have hsz2 := hcw2.size
        have hsv2 := (hu.al (.cells #[.slice A3 n3 c3] 26)).mono (F' := fun b => b < W.heap.size ∧ b < (w2.alloc (.cells #[.slice A3 n3 c3] 26)).heap.size ∧ u4.ownBlock ≠ some b) fun b hb => ⟨hb, by omega, fun e => by have := (hO.lt b e).1; omega⟩
        have hrp2 := hrp.al (.cells #[.slice A3 n3 c3] 26)
        have hr2 := hr.al (.cells #[.slice A3 n3 c3] 26)
        have hA2 := hA.al (.cells #[.slice A3 n3 c3] 26)
        have hrowO : ∀ b, u4.ownBlock = some b → W.heap.size ≤ b := fun b hb => (hO.lt b hb).1
        have hrowA : ∀ b, u3.ownBlock = some b → W.heap.size ≤ b ∧ b < w2.heap.size := fun b hb => hA.lt b hb
        clear hu hO hrp hr hA hcw
        go_wp2_with (at_builtin; refine append_BB rfl _ _ rfl hO2 rfl hsv2 hblk rfl hdl hsz2 ?_; intro v5 w5 hO5 hg5 hat5)
        have hA5 := hA2.chg (Chg.of_grown hg5) fun b hb e => hdis b hb e.symm
        have hrp5 := hrp2.chg (Chg.of_grown hg5) fun b hb e => by have := hrowO b e.symm; omega
        have hr5 := hr2.chg (Chg.of_grown hg5) fun b hb e => by have := hrowO b e.symm; omega
        have hcw5 := hcw2.grown hg5 fun b hb hlt => by have := hrowO b hb; omega
        have hsz5 := hcw5.size
        have hdis5 : ∀ b, u3.ownBlock = some b → v5.ownBlock ≠ some b := fun b hb e => by
          rcases hat5 with e5 | e5
          · exact hdis b hb (e5 ▸ e)
          · rw [e5] at e; injection e with e; have := (hrowA b hb).2; simp at e; omega
        clear hO2 hblk hcw2 hsz2 hsv2 hrp2 hr2 hA2 hdis
        refine (lawCut (n := 200) hrp5 (by omega)).mono ?_
        rintro e w6 ⟨u6, rfl, hu6, rfl⟩
        go_wp2_with (at_builtin; refine append_B rfl _ _ rfl hA5 rfl hu6 rfl hlenA hsz5 ?_; intro v7 w7 hA7 hg7 hat7)
        have hO7 := hO5.chg (Chg.of_grown hg7) (fun b hb e => hdis5 b e.symm hb) (fun b hb e => by have := (hrowA b e.symm).1; omega)
        have hr7 := hr5.chg (Chg.of_grown hg7) fun b hb e => by have := (hrowA b e.symm).1; omega
        have hcw7 := hcw5.grown hg7 fun b hb hlt => by have := (hrowA b hb).1; omega
        have hdis7 : ∀ b, v7.ownBlock = some b → v5.ownBlock ≠ some b := fun b hb e => by
          rcases hat7 with e7 | e7
          · exact hdis5 b (e7 ▸ hb) e
          · rw [e7] at hb; injection hb with hb; have := (hO5.lt b e).2; omega
        rw [← HFl.out] at hA7
        rw [← HS.out] at hO7
        go_round
        case rel => exact ⟨k + 1, by omega, by go_num, hA7, hO7, hdis7, hr7, hcw7⟩
        case measure => simp [intOf]; omega
      · obtain ⟨cs, hcs⟩ : ∃ cs, cs = cuts m k := ⟨_, rfl⟩
        have hmem : ∀ l ∈ cs, l.length ≤ 140737488355328 := fun l hl => by have := cuts_mem m k l (hcs ▸ hl); omega
        have hcl : cs.length ≤ 8 := by rw [hcs, cuts_len m k hk]; omega
        have hfl := flat_le cs fun l hl => cuts_mem m k l (hcs ▸ hl)
        rw [← hcs] at hA hO
        obtain ⟨al, hal⟩ : ∃ al, al = cs.flatten := ⟨_, rfl⟩
        have HAL := hide hal
        rw [← hal] at hA hfl
        have hkd : decide ((k : Int) < (m.length : Int)) = false := decide_eq_false (by omega)
        have hkd1 : 8 ≤ m.length → decide ((k : Int) < 8) = false := fun h => decide_eq_false (by omega)
        have hkd2 : ll.length ≤ m.length → decide ((k : Int) < (ll.length : Int)) = false := fun h => decide_eq_false (by omega)
        first
          | have hkd3 := hkd1 hn.2.1
          | have hkd3 := hkd2 hn.2.1
        try have hkn1 : ¬ k < 8 := by have := hn.2.1; omega
        try have hkn2 : ¬ k < ll.length := by have := hn.2.1; omega
        clear hkd hkd1 hkd2 hcs hal hdis hr h5
        go_wp2_with fail
        refine (refCopies hO.rd hmem (by omega)).mono ?_
        rintro e w2 ⟨u, rfl, hu, k2⟩
        have g2 := hcw.trans0 k2
        have hA2 := hA.rd.c0 k2
        clear hcw hA hO k2
        go_wp2_with fail
        refine (parityCheck hu.rd).mono ?_
        rintro e w3 ⟨rfl, k3⟩
        rw [← HAL.out]
        have g3 := g2.trans0 k3
        have hA3 := hA2.c0 k3
        obtain ⟨q, hq⟩ : ∃ q, q = chk al := ⟨_, rfl⟩
        have HQ := hide hq
        rw [← hq]
        clear hq hu g2 hA2 k3
        simp only [qv, bv]
        go_wp2_with fail
        have hs4 := fun w => slice_arr4 w w3.heap.size
        have hblk := Blk.new w3 28 #[bv q.1, bv q.2.1, bv q.2.2.1, bv q.2.2.2]
        have hA4 : RdB (w3.alloc (.cells #[bv q.1, bv q.2.1, bv q.2.2.1, bv q.2.2.2] 28)) (fun k => k = w3.heap.size) (.slice (some ⟨w3.heap.size, 0, none⟩) 4 4) (qlist q) :=
          RdB.lit w3 28 (0, 0) _ (qlist q) 4 rfl rfl (by simp [maxLen])
        have g4 := g3.alloc (.cells #[bv q.1, bv q.2.1, bv q.2.2.1, bv q.2.2.2] 28)
        have hbu4 := hA3.al (.cells #[bv q.1, bv q.2.1, bv q.2.2.1, bv q.2.2.2] 28)
        simp only [bv] at hA4 g4 hbu4 hblk
        generalize w3.alloc (.cells #[.int .u8 (q.1.toNat : Int), .int .u8 (q.2.1.toNat : Int), .int .u8 (q.2.2.1.toNat : Int), .int .u8 (q.2.2.2.toNat : Int)] 28) = w4 at hA4 g4 hbu4 hblk ⊢
        generalize w3.heap.size = g at hs4 hA4 hblk ⊢
        clear g3 hA3
        have hb47 : al.length ≤ 140737488355328 := by omega
        have hlen : al.length + (qlist q).length ≤ 140737488355328 := by simp [qlist, ql]; omega
        go_region_law (first
          | (refine step_B rfl _ _ rfl hu rfl (hA4.dr.c0 hcg) rfl hlen hcg.size ?_; intro v' wx hown hgr hat)
          | (go_simp; go_at_call 18; refine (refCopy hbu4.dr hb47).mono ?_; rintro e wc ⟨u, rfl, hu, hcg⟩))
        have hrowu : ∀ k, u.ownBlock = some k → w4.heap.size ≤ k := fun k hk => (hu.lt k hk).1
        have cx : Chg Non w4 wx := (((Chg.refl Non w4).drew).trans0 hcg).own hgr hrowu
        have gx := g4.trans0 cx
        have hax := hbu4.c0 cx
        have hqx := (QuadAt.of hblk).c0 cx
        have hwx := hown.rd
        have hgd := goodB_cell al
        rw [← HQ.out, show al ++ ql q = al ++ qlist q from rfl] at hgd
        have q4 : ∀ w, (Op.equalIn 10000 28 (.agg #[.int .u8 (q.1.toNat : Int), .int .u8 (q.2.1.toNat : Int), .int .u8 (q.2.2.1.toNat : Int), .int .u8 (q.2.2.2.toNat : Int)]) (.agg #[.int .u8 (q.1.toNat : Int), .int .u8 (q.2.1.toNat : Int), .int .u8 (q.2.2.1.toNat : Int), .int .u8 (q.2.2.2.toNat : Int)])).run Try.prog w = .ok true w := run_eqIn_quad_same q
        clear hown hgr hat hu hcg hA4 hs4 hlen hb47 hbu4 g4 hrowu cx hblk
        have hchk := refCheck hax.dr (by omega)
        rw [← HQ.out] at hchk
        simp only [qv, bv] at hchk
        have hgood := fun (wa : World) (ca : Chg Non wx.drew wa) => refGood (hwx.dr.c0 ca)
        have hgood2 := fun (wa : World) (ca : Chg Non wx.drew wa) => parityGood (hwx.dr.c0 ca)
        rw [hgd] at hgood hgood2
        have hqd := hqx.dr
        go_wp2_with fail
        go_region_held3 (fun w' => w'.cell? ⟨g, 0, none⟩ = some (.int .u8 (q.1.toNat : Int)) ∧ w'.cell? ⟨g, 1, none⟩ = some (.int .u8 (q.2.1.toNat : Int)) ∧ w'.cell? ⟨g, 2, none⟩ = some (.int .u8 (q.2.2.1.toNat : Int)) ∧ w'.cell? ⟨g, 3, none⟩ = some (.int .u8 (q.2.2.2.toNat : Int))) (first | exact hqd | exact QuadAt.c0 hqd hca | exact QuadAt.c0 hqd hcb | exact QuadAt.c0 hqd hcc) (first
          | (go_at_call 19; refine hchk.mono ?_; rintro e wa ⟨rfl, hca⟩)
          | (go_at_call 20; refine (hgood _ hca).mono ?_; rintro e wb ⟨rfl, hqb⟩; have hcb := Chg.trans0 hca (Chg.ofQ hqb))
          | (go_at_call 21; refine (hgood2 _ hcb).mono ?_; rintro e wd ⟨rfl, hcd⟩; have hcc := Chg.trans0 hcb hcd))
        go_wp2_with fail
        go_ret
        exact ⟨rfl, (gx.drew).trans0 hcc⟩

set_option maxRecDepth 100000 in
theorem contract (H : Type) (enc : TypeId × Value → H) (W : World) (base : Nat) (args : Array Value) (ds gs : List (DataW H)) (before : List MemPlace)
    (hval : ∀ (j : Nat) t v, Try.f4.params[j]? = some t → args[j]? = some v → Value.okWide Try.prog W .any base t v)
    (hW : DataW.Whole enc Try.prog Try.f4.params.toList Rows.parityChecksSpec.vars false W args.toList ds gs before) (hsz : (DataW.weightsEach Try.prog (Try.f4.params.toList ++ Rows.parityChecksSpec.plain.varTypes Try.prog) (ds ++ gs)).all (· ≤ reachBytes) = true) :
    Calls Try.prog 4 args W fun e W' => ∃ v, e = .returned v ∧ Rows.parityChecksSpec.post enc Try.prog Try.f4 false true false false W args v W' := by
  have hW' := hW
  obtain ⟨p, q, hA0, hV, rfl, hfz, hnd⟩ := hW
  have hA : DataW.TrodAll enc Try.prog W 0 (fun _ => true) true Try.f4.params.toList args.toList ds p := hA0
  rw [Try.params4] at hA hval hsz
  obtain ⟨v0, vs0, d0, ds0, p0, q0, hargs, rfl, rfl, h0, r0⟩ := trodAll_cons hA
  obtain ⟨rfl, rfl, rfl⟩ := trodAll_nil r0
  obtain rfl : args = #[v0] := by cases args; simp_all
  obtain ⟨rfl, rfl⟩ := trodVars_none hV
  have k0 := h0
  have lt0 : ∀ x ∈ p0, x.block < W.heap.size := by obtain ⟨m, hm⟩ := k0; exact DataW.trod_lt m _ _ _ hm
  obtain ⟨l0, w0, z0⟩ := openBB (hval 0 25 v0 rfl rfl) h0
  have s0 : l0.length ≤ reachBytes := z0.2 _ fun e s he => by
    have := sized_slice hsz (j := 0) rfl (by rw [he]; rfl) Try.underlying25
    exact Nat.le_trans (Nat.le_mul_of_pos_right _ (of_decide_eq_true (by kernel_rfl))) this
  refine (walk w0 s0).mono fun e W' ⟨he, bel0⟩ => ?_
  have bel := bel0.below
  subst he
  exact ⟨_, rfl, _, _, _, [], _, [], hW', trodAll_mk1 (shut_bool Try.underlying4 _), (trodAll_cons_mk (Below.trod laidOut (by kernel_rfl) (of_decide_eq_true (by kernel_rfl)) k0 bel lt0) trodAll_mk0), rfl, bel.frame _, fun h => by cases h⟩

set_option maxRecDepth 100000 in
theorem lifted (os : Os) (started : os.Started) (H : Type) (enc : TypeId × Value → H) :
    ReturnsInHanded {} Try.checked os 4 .any (Rows.parityChecksSpec.pre6 enc Try.prog Try.f4 Rows.parityChecksRow.domain false) (Rows.parityChecksSpec.post enc Try.prog Try.f4 false true false false) := by
  refine returnsInHanded_of_change_sized (C := Try.checked) own started (by kernel_rfl) Try.func4
    (ChangeSpec.witness6 (enc := enc) (C := Try.checked) false ⟨#[], #[.slice none 0 0], []⟩ 8 (by kernel_rfl) (by kernel_rfl) (by kernel_rfl) (by kernel_rfl)) ?_
  intro W base args ds gs before hval hW _ hsz _
  exact contract H enc W base args ds gs before hval hW hsz

theorem over : Rows.parityChecksRow.holds Try.pinned (OpenSpec.ofChange Rows.parityChecksSpec) :=
  OpenClaim.holds_of_wide 4 Try.f4 rfl rfl rfl rfl rfl rfl rfl ⟨rfl, rfl, rfl, rfl, rfl⟩ rfl rfl rfl rfl rfl (by kernel_rfl) Try.func4 (by kernel_rfl)
    (of_decide_eq_true (by kernel_rfl)) (by unfold Func.isWrapper; first | (rw [if_pos (by decide +kernel)]; kernel_rfl) | (rw [if_neg (by decide +kernel)]; exact ⟨rfl, rfl⟩))
    (fun os started H enc _ => lifted os started H enc)

theorem proved : Rows.ParityChecksSaid := over
end Go.Proofs.Ytijnfjnkjojjnaa.parityChecks
