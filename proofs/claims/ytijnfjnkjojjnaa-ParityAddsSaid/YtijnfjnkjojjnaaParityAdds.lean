/- ParityAdds: check bytes add up, and noughts ahead change nothing: for every input the statement's function answers true. No condition. -/
import Derived.Test.YtijnfjnkjojjnaaCut03
import Derived.Test.YtijnfjnkjojjnaaOpen
import Derived.Deep.RegionLaw
import Derived.Deep.RegionHeld3
namespace Go.Proofs.Ytijnfjnkjojjnaa.parityAdds
open Go.ChangeShapes Go.WideShapes Go.ChangeAt Go.RowKit Go.Deep
open Go.ChangeMaps (open_string shut_string)
set_option linter.unusedVariables false

/-! ### the plain law -/
theorem genq_xor (a b : UInt8) : genq (a ^^^ b) = qxor (genq a) (genq b) := by simp [genq, qxor, mulB_xor]
theorem cstep_xor (p q : Quad) (c d : UInt8) : cstep (qxor p q) (c ^^^ d) = qxor (cstep p c) (cstep q d) := by
  have e : (c ^^^ d) ^^^ (p.1 ^^^ q.1) = (c ^^^ p.1) ^^^ (d ^^^ q.1) := xor_ac _ _ _ _
  unfold cstep
  rw [show (qxor p q).1 = p.1 ^^^ q.1 from rfl, e, genq_xor]
  simp only [qxor]
  refine Prod.ext ?_ (Prod.ext ?_ (Prod.ext ?_ ?_)) <;> simp only [UInt8.zero_xor] <;> ac_rfl
theorem fold_xor : ∀ (l m : List UInt8), l.length = m.length → ∀ p q, (xorL l m).foldl cstep (qxor p q) = qxor (l.foldl cstep p) (m.foldl cstep q)
  | [], [], _, p, q => rfl
  | x :: l, y :: m, h, p, q => by
    show (xorL l m).foldl cstep (cstep (qxor p q) (x ^^^ y)) = _
    rw [cstep_xor, fold_xor l m (by simpa using h)]; rfl
theorem chk_xorL {l m : List UInt8} (h : l.length = m.length) : chk (xorL l m) = qxor (chk l) (chk m) := fold_xor l m h (0, 0, 0, 0) (0, 0, 0, 0)
theorem chk_zeros (n : Nat) (l : List UInt8) : chk (List.replicate n 0 ++ l) = chk l := by
  induction n with
  | zero => rfl
  | succ n ih =>
    rw [← ih]
    show (List.replicate n 0 ++ l).foldl cstep (cstep (0, 0, 0, 0) 0) = _
    rw [show cstep (0, 0, 0, 0) 0 = (0, 0, 0, 0) by decide +kernel]; rfl
/-- what stands behind k rounds of the sum -/
def SumTo (l m : List UInt8) (k : Nat) (cur : List UInt8) : Prop := ∀ i, i < l.length → cur.getD i 0 = if i < k then l.getD i 0 ^^^ m.getD i 0 else l.getD i 0
theorem SumTo.start (l m : List UInt8) : SumTo l m 0 l := fun i _ => by simp
theorem SumTo.step {l m : List UInt8} {k : Nat} {cur : List UInt8} (h : SumTo l m k cur) (hc : cur.length = l.length) (hk : k < l.length) (hm : k < m.length) :
    SumTo l m (k + 1) (cur.set k (cur[k] ^^^ m[k])) := fun i hi => by
  have h1 := h i hi
  rw [List.getD_eq_getElem?_getD, List.getElem?_set]
  by_cases e : k = i
  · subst e
    rw [if_neg (Nat.lt_irrefl _)] at h1
    rw [if_pos rfl, if_pos (by omega), if_pos (by omega), ← h1]
    simp [List.getD_eq_getElem?_getD, hm, show k < cur.length by omega]
  · rw [if_neg e, ← List.getD_eq_getElem?_getD, h1]
    by_cases h2 : i < k
    · rw [if_pos h2, if_pos (by omega)]
    · rw [if_neg h2, if_neg (by omega)]
theorem SumTo.end_ {l m : List UInt8} {cur : List UInt8} (h : SumTo l m l.length cur) (hc : cur.length = l.length) (hm : m.length = l.length) : cur = xorL l m := by
  refine List.ext_getElem (by simp [xorL, hc, hm]) fun i h1 h2 => ?_
  have h3 := h i (by omega)
  rw [if_pos (by omega)] at h3
  simp only [List.getD_eq_getElem?_getD, List.getElem?_eq_getElem h1, List.getElem?_eq_getElem (show i < l.length by omega), List.getElem?_eq_getElem (show i < m.length by omega), Option.getD_some] at h3
  rw [h3]
  simp [xorL]

theorem ql_qxor (p q : Quad) {k : Nat} (hk : k < 4) : (ql (qxor p q)).getD k 0 = (ql p).getD k 0 ^^^ (ql q).getD k 0 := by
  match k, hk with
  | 0, _ => rfl
  | 1, _ => rfl
  | 2, _ => rfl
  | 3, _ => rfl
theorem quad_cell {w : World} {g : Nat} {t : TypeId} {p : Quad} (h : Blk w g t #[bv p.1, bv p.2.1, bv p.2.2.1, bv p.2.2.2]) {k : Nat} (hk : k < 4) : w.cell? ⟨g, k, none⟩ = some (.int .u8 (((ql p).getD k 0).toNat : Int)) := by
  rw [h.cell]
  match k, hk with
  | 0, _ => rfl
  | 1, _ => rfl
  | 2, _ => rfl
  | 3, _ => rfl

def QuadAt (g : Nat) (p : Quad) (w : World) : Prop := w.cell? ⟨g, 0, none⟩ = some (.int .u8 (p.1.toNat : Int)) ∧ w.cell? ⟨g, 1, none⟩ = some (.int .u8 (p.2.1.toNat : Int)) ∧ w.cell? ⟨g, 2, none⟩ = some (.int .u8 (p.2.2.1.toNat : Int)) ∧ w.cell? ⟨g, 3, none⟩ = some (.int .u8 (p.2.2.2.toNat : Int))
theorem QuadAt.of {w : World} {g : Nat} {t : TypeId} {p : Quad} (h : Blk w g t #[bv p.1, bv p.2.1, bv p.2.2.1, bv p.2.2.2]) : QuadAt g p w := ⟨h.cell 0, h.cell 1, h.cell 2, h.cell 3⟩
theorem QuadAt.c0 {w w' : World} {g : Nat} {p : Quad} (h : QuadAt g p w) (hc : Chg Non w w') : QuadAt g p w' :=
  ⟨hc.cell h.1 id, hc.cell h.2.1 id, hc.cell h.2.2.1 id, hc.cell h.2.2.2 id⟩
theorem QuadAt.al {w : World} {g : Nat} {p : Quad} (o : Obj) (h : QuadAt g p w) : QuadAt g p (w.alloc o) := h.c0 ((Chg.refl _ _).alloc o)
theorem QuadAt.dr {w : World} {g : Nat} {p : Quad} (h : QuadAt g p w) : QuadAt g p w.drew := h.c0 ((Chg.refl _ _).drew)
theorem run_mk (w : World) (n : Nat) (h : n ≤ 100) : (Instr.makeSlice 26 (.int .i64 (n : Int)) (.int .i64 (n : Int))).run Try.prog w = .ok (.slice (some ⟨w.heap.size, 0, none⟩) n n) (w.alloc (.cells (madeCells #[.int .u8 0] n) 5)) := by
  obtain ⟨i, hi, hz, h1, h2⟩ := info_parts info_u8
  have h := run_make (P := Try.prog) w 26 5 i _ Try.underlying26 hi hz .i64 .i64 n n (by omega) (Int.le_refl _) (by rw [h2]; omega) (by omega)
  rw [h1, Int.toNat_natCast, Nat.mul_one] at h
  exact h

theorem RdBB.two {w : World} {F : Nat → Prop} {v u : Value} {l m : List UInt8} (h : RdB w F v l) (h' : RdB w F u m) (t : TypeId) :
    RdBB (w.alloc (.cells #[v, u] t)) (fun k => F k ∨ k = w.heap.size) (.slice (some ⟨w.heap.size, 0, Option.none⟩) 2 2) [l, m] := by
  refine ⟨[v, u], rfl, ⟨rfl, some ⟨w.heap.size, 0, Option.none⟩, 2, rfl, Nat.le_refl _, by simp [maxLen], fun _ => ⟨_, rfl, .inr rfl, fun j x hu => ?_⟩⟩, fun k x l' hx hl => ?_⟩
  · rw [add_none, Nat.zero_add, (Blk.new w t #[v, u]).cell]
    simpa using hu
  · match k, hx, hl with
    | 0, hx, hl =>
      simp at hx hl
      subst hx; subst hl
      exact (h.al _).mono fun k hk => .inl hk
    | 1, hx, hl =>
      simp at hx hl
      subst hx; subst hl
      exact (h'.al _).mono fun k hk => .inl hk
    | k + 2, hx, hl => simp at hx
theorem made_u8 (n : Nat) : (madeCells #[.int .u8 0] n).toList = bvs (List.replicate n 0) := by
  rw [toList_madeCells_one]
  simp [bvs, bv]
theorem two_rd {w : World} {base : Nat} {v : Value} {l : List UInt8} (n : Nat) (hn : n ≤ 100) (h : RdB w (fun k => k < base) v l) :
    Calls Try.prog 16 #[.slice (some ⟨w.heap.size + 1, 0, none⟩) 2 2] ((w.alloc (.cells (madeCells #[.int .u8 0] n) 5)).alloc (.cells #[.slice (some ⟨w.heap.size, 0, none⟩) n n, v] 26)).drew
      fun e w' => e = .returned (.agg #[.int .u8 ((chk l).1.toNat : Int), .int .u8 ((chk l).2.1.toNat : Int), .int .u8 ((chk l).2.2.1.toNat : Int), .int .u8 ((chk l).2.2.2.toNat : Int)]) ∧ Chg Non ((w.alloc (.cells (madeCells #[.int .u8 0] n) 5)).alloc (.cells #[.slice (some ⟨w.heap.size, 0, none⟩) n n, v] 26)).drew w' := by
  have h1 := RdB.lit w 5 (0, 0) _ (List.replicate n 0) n (made_u8 n) (by simp) (by simp [maxLen]; omega)
  have h2 := (h.al (.cells (madeCells #[.int .u8 0] n) 5)).mono (F' := fun k => k < base ∨ k = w.heap.size) fun k hk => .inl hk
  have h3 := RdBB.two (h1.mono (F' := fun k => k < base ∨ k = w.heap.size) fun k hk => .inr hk) h2 26
  rw [show (w.alloc (.cells (madeCells #[.int .u8 0] n) 5)).heap.size = w.heap.size + 1 by simp] at h3
  have h4 := parityCheck (h3.c0 ((Chg.refl Non _).drew))
  rw [show ([List.replicate n 0, l] : List (List UInt8)).flatten = List.replicate n 0 ++ l by simp, chk_zeros] at h4
  exact h4

def sliceLen : Value → Nat
  | .slice _ n _ => n
  | _ => 0

set_option maxRecDepth 100000 in
set_option maxHeartbeats 1000000 in
theorem walk {W : World} {v0 v1 : Value} {n : Int} {b0 b1 : List UInt8} (ha : RdB W (fun k => k < W.heap.size) v0 b0) (hb : RdB W (fun k => k < W.heap.size) v1 b1) (hn : (Lit.int .i64 n).wf = true)
    (sa : b0.length ≤ reachBytes) (sb : b1.length ≤ reachBytes) :
    Calls Try.prog 6 #[v0, v1, .int .i64 n] W fun e W' => e = .returned (.bool true) ∧ Chg Non W W' := by
  go_enter Try.func6, Try.ntmps6
  go_wp2_with fail
  refine awake03.mono ?_
  rintro e w1 ⟨rfl, g1⟩
  go_wp2_with fail
  refine (lawCut (n := 300) (ha.c0 g1) (by omega)).mono ?_
  rintro e w2 ⟨u, rfl, hu, rfl⟩
  go_wp2_with fail
  refine (lawCut (n := 300) (hb.c0 g1) (by omega)).mono ?_
  rintro e w0 ⟨v, rfl, hv, rfl⟩
  obtain ⟨a, hae⟩ : ∃ a, a = b0.take 300 := ⟨_, rfl⟩
  obtain ⟨b, hbe⟩ : ∃ b, b = b1.take 300 := ⟨_, rfl⟩
  have ha3 : a.length ≤ 300 := by rw [hae, List.length_take]; omega
  have hb3 : b.length ≤ 300 := by rw [hbe, List.length_take]; omega
  rw [← hae] at hu
  rw [← hbe] at hv
  clear hae hbe ha hb sa sb
  have hu0 := hu.mono (F' := fun k => k < w0.heap.size) fun k hk => Nat.lt_of_lt_of_le hk g1.size
  have hv0 := hv.mono (F' := fun k => k < w0.heap.size) fun k hk => Nat.lt_of_lt_of_le hk g1.size
  clear hu hv
  obtain ⟨B, cb, rfl, hcb, hmb⟩ := hv0.shape
  unfold maxLen at hmb
  go_wp2_with fail
  go_loopw [0] (fun av wr => ∃ (l : List UInt8), l.length ≤ 300 ∧ RdB wr (fun k => k < wr.heap.size) av l ∧ RdB wr (fun k => k < wr.heap.size) (.slice B b.length cb) b ∧ Chg Non W wr) (fun av _ => b.length - sliceLen av)
  case atStart => exact ⟨a, ha3, hu0, hv0, g1⟩
  case round =>
    obtain ⟨l, hl3, hra, hrb, gr⟩ := hrel
    obtain ⟨A, ca, rfl, hca, hma⟩ := hra.shape
    unfold maxLen at hma
    by_cases h1 : l.length < b.length
    · have hlen : ([0] : List UInt8).length + l.length ≤ 140737488355328 := by simp; omega
      go_wp2_with (at_builtin; refine append_B rfl _ _ rfl (own_one wr 0 0 rfl) rfl (hra.al _) rfl hlen (by simp) ?_; intro v1 w2 hown2 hg2 hat2)
      have gx := (gr.alloc (.cells #[.int .u8 0] 5)).own hg2 (fun k hk => by simp [Value.ownBlock] at hk; subst hk; exact gr.size)
      have hrb2 := ((hrb.al (.cells #[.int .u8 0] 5)).chg (Chg.of_grown hg2) (fun k hk e => by simp [Value.ownBlock] at e; omega)).mono (F' := fun k => k < w2.heap.size) (fun k hk => by have h2 := hg2.size; simp at h2; omega)
      have hown3 := hown2.rdB.mono (F' := fun k => k < w2.heap.size) (fun k hk => hk.2)
      obtain ⟨A2, ca2, rfl, _, _⟩ := hown2.shape
      go_round
      case rel => exact ⟨[0] ++ l, by simp; omega, hown3, hrb2, gx⟩
      case measure => simp [sliceLen]; omega
    · have HL := hide h1
      have hb3 : b.length ≤ l.length := by omega
      go_wp2_with fail
      go_loopw [1] (fun bv_ wq => ∃ (m : List UInt8), m.length ≤ l.length ∧ RdB wq (fun k => k < wq.heap.size) bv_ m ∧ RdB wq (fun k => k < wq.heap.size) (.slice A l.length ca) l ∧ Chg Non W wq) (fun bv_ _ => l.length - sliceLen bv_)
      case atStart => exact ⟨b, hb3, hrb, hra, gr⟩
      case round =>
        clear hrb hra gr h1 HL ha3 hu0 hv0 g1
        obtain ⟨m, hml, hrb, hra, gr⟩ := hrel
        obtain ⟨B2, cb2, rfl, hcb, hmb⟩ := hrb.shape
        unfold maxLen at hmb
        by_cases h1 : m.length < l.length
        · have hlen : ([0] : List UInt8).length + m.length ≤ 140737488355328 := by simp; omega
          go_wp2_with (at_builtin; refine append_B rfl _ _ rfl (own_one wr 0 0 rfl) rfl (hrb.al _) rfl hlen (by simp) ?_; intro v1 w2 hown2 hg2 hat2)
          have gx := (gr.alloc (.cells #[.int .u8 0] 5)).own hg2 (fun k hk => by simp [Value.ownBlock] at hk; subst hk; exact gr.size)
          have hra2 := ((hra.al (.cells #[.int .u8 0] 5)).chg (Chg.of_grown hg2) (fun k hk e => by simp [Value.ownBlock] at e; omega)).mono (F' := fun k => k < w2.heap.size) (fun k hk => by have h2 := hg2.size; simp at h2; omega)
          have hown3 := hown2.rdB.mono (F' := fun k => k < w2.heap.size) (fun k hk => hk.2)
          obtain ⟨A3, ca3, rfl, _, _⟩ := hown2.shape
          go_round
          case rel => exact ⟨[0] ++ m, by simp; omega, hown3, hra2, gx⟩
          case measure => simp [sliceLen]; omega
        · have hlm : m.length = l.length := by omega
          have HLM := hide hlm
          rw [hlm] at hrb hcb ⊢
          clear hlm h1 hml
          go_wp2_with fail
          refine (refCopy hra (by omega)).mono ?_
          rintro e wc ⟨u, rfl, hu, gc⟩
          obtain ⟨C, cc, rfl, hcc, hmc⟩ := hu.shape
          unfold maxLen at hmc
          have hra1 := hra.c0 gc
          have hrb1 := hrb.c0 gc
          have gr1 := gr.trans0 gc
          have hsz := gr.size
          generalize wr.heap.size = base at hu hra1 hrb1 hsz
          clear hra hrb gr gc
          go_wp2_with fail
          go_loopw [39] (fun iv wt => ∃ (k : Nat) (cur : List UInt8), k ≤ l.length ∧ iv = .int .i64 k ∧ Hid (cur.length = l.length) ∧ SumTo l m k cur ∧ OwnB wt base (.slice C l.length cc) cur ∧ RdB wt (fun k => k < base) (.slice A l.length ca) l ∧ RdB wt (fun k => k < base) (.slice B2 l.length cb2) m ∧ Chg Non W wt) (fun iv _ => l.length - (intOf iv).toNat)
          case atStart => exact ⟨0, l, by omega, rfl, hide rfl, .start l m, hu, hra1, hrb1, gr1⟩
          case round =>
            clear hu hra1 hrb1 gr1
            obtain ⟨k, cur, hk, rfl, hcl, hst, hcur, hra, hrb, gt⟩ := hrel
            by_cases h1 : k < l.length
            · obtain ⟨gw, rfl, hgw, hgw2⟩ := hcur.head (by have := hcl.out; omega)
              obtain ⟨hci, hcf⟩ := hcur.cell (i := k) (by have := hcl.out; omega)
              obtain ⟨ad, rfl, hadb, hbc⟩ := hrb.at_ (k := k) (by have := HLM.out; omega)
              have hst1 := hst.step hcl.out h1 (by have := HLM.out; omega)
              obtain ⟨y, hy⟩ : ∃ y, y = cur[k]'(by have := hcl.out; omega) := ⟨_, rfl⟩
              obtain ⟨z, hz⟩ : ∃ z, z = m[k]'(by have := HLM.out; omega) := ⟨_, rfl⟩
              rw [← hy] at hci hst1
              rw [← hz] at hbc hst1
              clear hy hz
              have hxv := xorV y z
              have hcur2 := (hcur.stored k (y ^^^ z)).dr
              have hch := (Chg.refl (fun k => k = gw) wr).setCell (p := ⟨gw, k, none⟩) (fun _ => rfl) (.int .u8 ((y ^^^ z).toNat : Int))
              have hra2 := (hra.chg hch (fun k hk e => by subst e; omega)).dr
              have hrb2 := (hrb.chg hch (fun k hk e => by subst e; omega)).dr
              have gt2 := (gt.setCell (p := ⟨gw, k, none⟩) (fun hlt => absurd hlt (by show ¬ gw < _; omega)) (.int .u8 ((y ^^^ z).toNat : Int))).drew
              have HC := hide hcl.out
              clear hch
              go_wp2_with fail
              go_region
              rw [UInt8.toNat_xor] at hcur2 hra2 hrb2 gt2
              have hend : ∃ (k1 : Nat) (cur1 : List UInt8), k1 ≤ l.length ∧ Value.int .i64 ((k : Int) + 1) = Value.int .i64 (k1 : Int) ∧ Hid (cur1.length = l.length) ∧ SumTo l m k1 cur1 ∧
                  OwnB ((wr.setCell ⟨gw, k, none⟩ (.int .u8 ((y.toNat ^^^ z.toNat : Nat) : Int))).drew) base (.slice (some ⟨gw, 0, none⟩) l.length cc) cur1 ∧
                  RdB ((wr.setCell ⟨gw, k, none⟩ (.int .u8 ((y.toNat ^^^ z.toNat : Nat) : Int))).drew) (fun k => k < base) (.slice A l.length ca) l ∧
                  RdB ((wr.setCell ⟨gw, k, none⟩ (.int .u8 ((y.toNat ^^^ z.toNat : Nat) : Int))).drew) (fun k => k < base) (.slice (some ad) l.length cb2) m ∧
                  Chg Non W ((wr.setCell ⟨gw, k, none⟩ (.int .u8 ((y.toNat ^^^ z.toNat : Nat) : Int))).drew) :=
                ⟨k + 1, cur.set k (y ^^^ z), by omega, by go_num, hide (by rw [List.length_set]; exact HC.out), hst1, hcur2, hra2, hrb2, gt2⟩
              clear hcur2 hra2 hrb2 gt2 hst1
              go_wp2_with fail
              refine ⟨?_, ?_⟩
              · first | exact hend | ((repeat apply Exists.intro); exact ⟨hend, rfl⟩)
              · simp [intOf]; omega
            · have hkl : k = l.length := by omega
              subst hkl
              have hcur1 : cur = xorL l m := hst.end_ hcl.out HLM.out
              have hck := chk_xorL HLM.out.symm
              rw [← hcur1] at hck
              have HCK := hide hck
              clear hck hcur1 hst h1
              go_wp2_with fail
              refine (parityCheck (RdBB.one hra 26)).mono ?_
              rintro e w2 ⟨rfl, g2⟩
              have gt2 := (gt.alloc (.cells #[.slice A l.length ca] 26)).trans0 g2
              have hra2 := (hra.al (.cells #[.slice A l.length ca] 26)).c0 g2
              have hrb2 := (hrb.al (.cells #[.slice A l.length ca] 26)).c0 g2
              have hcur2 := (hcur.al (.cells #[.slice A l.length ca] 26)).rd.c0 g2
              simp only [List.flatten_cons, List.flatten_nil, List.append_nil]
              obtain ⟨p, hp⟩ : ∃ p, p = chk l := ⟨_, rfl⟩
              have HP := hide hp
              rw [← hp]
              clear hp g2 gt hra hrb hcur
              go_wp2_with fail
              refine (parityCheck (RdBB.one hrb2 26)).mono ?_
              rintro e w3 ⟨rfl, g3⟩
              have gt3 := (gt2.alloc (.cells #[.slice B2 l.length cb2] 26)).trans0 g3
              have hra3 := (hra2.al (.cells #[.slice B2 l.length cb2] 26)).c0 g3
              have hcur3 := (hcur2.al (.cells #[.slice B2 l.length cb2] 26)).c0 g3
              simp only [List.flatten_cons, List.flatten_nil, List.append_nil]
              obtain ⟨q, hq⟩ : ∃ q, q = chk m := ⟨_, rfl⟩
              have HQ := hide hq
              rw [← hq]
              clear hq g3 gt2 hra2 hrb2 hcur2
              go_wp2_with fail
              refine (parityCheck (RdBB.one hcur3 26)).mono ?_
              rintro e w4 ⟨rfl, g4⟩
              have gt4 := (gt3.alloc (.cells #[.slice C l.length cc] 26)).trans0 g4
              have hra4 := (hra3.al (.cells #[.slice C l.length cc] 26)).c0 g4
              simp only [List.flatten_cons, List.flatten_nil, List.append_nil]
              rw [HCK.out, ← HP.out, ← HQ.out]
              clear g4 gt3 hra3 hcur3
              simp only [qv, bv]
              go_wp2_with fail
              have hbp := ((Blk.new w4 28 #[bv p.1, bv p.2.1, bv p.2.2.1, bv p.2.2.2]).al (.cells #[bv q.1, bv q.2.1, bv q.2.2.1, bv q.2.2.2] 28)).al (.cells #[bv (qxor p q).1, bv (qxor p q).2.1, bv (qxor p q).2.2.1, bv (qxor p q).2.2.2] 28)
              have hbq := (Blk.new (w4.alloc (.cells #[bv p.1, bv p.2.1, bv p.2.2.1, bv p.2.2.2] 28)) 28 #[bv q.1, bv q.2.1, bv q.2.2.1, bv q.2.2.2]).al (.cells #[bv (qxor p q).1, bv (qxor p q).2.1, bv (qxor p q).2.2.1, bv (qxor p q).2.2.2] 28)
              have hbz := Blk.new ((w4.alloc (.cells #[bv p.1, bv p.2.1, bv p.2.2.1, bv p.2.2.2] 28)).alloc (.cells #[bv q.1, bv q.2.1, bv q.2.2.1, bv q.2.2.2] 28)) 28 #[bv (qxor p q).1, bv (qxor p q).2.1, bv (qxor p q).2.2.1, bv (qxor p q).2.2.2]
              have gt5 := ((gt4.alloc (.cells #[bv p.1, bv p.2.1, bv p.2.2.1, bv p.2.2.2] 28)).alloc (.cells #[bv q.1, bv q.2.1, bv q.2.2.1, bv q.2.2.2] 28)).alloc (.cells #[bv (qxor p q).1, bv (qxor p q).2.1, bv (qxor p q).2.2.1, bv (qxor p q).2.2.2] 28)
              have hra5 := ((hra4.al (.cells #[bv p.1, bv p.2.1, bv p.2.2.1, bv p.2.2.2] 28)).al (.cells #[bv q.1, bv q.2.1, bv q.2.2.1, bv q.2.2.2] 28)).al (.cells #[bv (qxor p q).1, bv (qxor p q).2.1, bv (qxor p q).2.2.1, bv (qxor p q).2.2.2] 28)
              rw [show (w4.alloc (.cells #[bv p.1, bv p.2.1, bv p.2.2.1, bv p.2.2.2] 28)).heap.size = w4.heap.size + 1 by simp] at hbq
              rw [show ((w4.alloc (.cells #[bv p.1, bv p.2.1, bv p.2.2.1, bv p.2.2.2] 28)).alloc (.cells #[bv q.1, bv q.2.1, bv q.2.2.1, bv q.2.2.2] 28)).heap.size = w4.heap.size + 1 + 1 by simp] at hbz
              show Code.wp _ _ _ _ (((w4.alloc (.cells #[bv p.1, bv p.2.1, bv p.2.2.1, bv p.2.2.2] 28)).alloc (.cells #[bv q.1, bv q.2.1, bv q.2.2.1, bv q.2.2.2] 28)).alloc (.cells #[bv (qxor p q).1, bv (qxor p q).2.1, bv (qxor p q).2.2.1, bv (qxor p q).2.2.2] 28))
              generalize ((w4.alloc (.cells #[bv p.1, bv p.2.1, bv p.2.2.1, bv p.2.2.2] 28)).alloc (.cells #[bv q.1, bv q.2.1, bv q.2.2.1, bv q.2.2.2] 28)).alloc (.cells #[bv (qxor p q).1, bv (qxor p q).2.1, bv (qxor p q).2.2.1, bv (qxor p q).2.2.2] 28) = w5 at hbp hbq hbz gt5 hra5 ⊢
              generalize w4.heap.size = g at hbp hbq hbz ⊢
              clear gt4 hra4
              go_loopw [62] (fun iv wv => ∃ k : Nat, k ≤ 4 ∧ iv = .int .i64 k ∧ Blk wv g 28 #[bv p.1, bv p.2.1, bv p.2.2.1, bv p.2.2.2] ∧ Blk wv (g + 1) 28 #[bv q.1, bv q.2.1, bv q.2.2.1, bv q.2.2.2] ∧ Blk wv (g + 1 + 1) 28 #[bv (qxor p q).1, bv (qxor p q).2.1, bv (qxor p q).2.2.1, bv (qxor p q).2.2.2] ∧ RdB wv (fun k => k < base) (.slice A l.length ca) l ∧ Chg Non W wv) (fun iv _ => 4 - (intOf iv).toNat)
              case atStart => exact ⟨0, by omega, rfl, hbp, hbq, hbz, hra5, gt5⟩
              case round =>
                clear hbp hbq hbz hra5 gt5
                obtain ⟨k, hk4, rfl, hbp, hbq, hbz, hra, gt⟩ := hrel
                by_cases h4 : k < 4
                · have c1 := quad_cell hbp h4
                  have c2 := quad_cell hbq h4
                  have c3 := quad_cell hbz h4
                  rw [ql_qxor p q h4] at c3
                  obtain ⟨x, hx⟩ : ∃ x, x = (ql p).getD k 0 := ⟨_, rfl⟩
                  obtain ⟨y, hy⟩ : ∃ y, y = (ql q).getD k 0 := ⟨_, rfl⟩
                  rw [← hx] at c1 c3
                  rw [← hy] at c2 c3
                  clear hx hy
                  have hxv := xorV x y
                  have f1 := hbp.frozen k
                  have f2 := hbq.frozen k
                  have f3 := hbz.frozen k
                  go_wp2_with fail
                  go_quiet (fail)
                  have hbp2 := hbp.dn nq
                  have hbq2 := hbq.dn nq
                  have hbz2 := hbz.dn nq
                  have hra2 := hra.dn nq
                  have gt2 := gt.drewN nq
                  clear c1 c2 c3 hxv f1 f2 f3 hbp hbq hbz hra gt
                  go_wp2_with fail
                  go_round
                  case rel => exact ⟨k + 1, by omega, by go_num, hbp2, hbq2, hbz2, hra2, gt2⟩
                  case measure => simp [intOf]; omega
                · have hk : k = 4 := by omega
                  subst hk
                  clear hbq hbz
                  have hnn : ∃ nn : Nat, nn ≤ 100 ∧ ((n < 0 ∧ nn = 3) ∨ (100 < n ∧ nn = 3) ∨ (0 ≤ n ∧ n ≤ 100 ∧ n = (nn : Int))) := by
                    by_cases h1 : n < 0
                    · exact ⟨3, by omega, .inl ⟨h1, rfl⟩⟩
                    · by_cases h2 : 100 < n
                      · exact ⟨3, by omega, .inr (.inl ⟨h2, rfl⟩)⟩
                      · exact ⟨n.toNat, by omega, .inr (.inr ⟨by omega, by omega, by omega⟩)⟩
                  obtain ⟨nn, hnn, ⟨hn1, rfl⟩ | ⟨hn1, rfl⟩ | ⟨hn1, hn2, rfl⟩⟩ := hnn
                  all_goals
                    have hmk := fun w => run_mk w _ hnn
                    have hmk3 : ∀ w, (Instr.makeSlice 26 (.int .i64 3) (.int .i64 3)).run Try.prog w = .ok (.slice (some ⟨w.heap.size, 0, none⟩) 3 3) (w.alloc (.cells (madeCells #[.int .u8 0] 3) 5)) := fun w => run_mk w 3 (by omega)
                    have hq4 := QuadAt.of hbp
                    have hcall := two_rd _ hnn hra
                    rw [← HP.out] at hcall
                    have q4 : ∀ w, (Op.equalIn 10000 28 (.agg #[.int .u8 (p.1.toNat : Int), .int .u8 (p.2.1.toNat : Int), .int .u8 (p.2.2.1.toNat : Int), .int .u8 (p.2.2.2.toNat : Int)]) (.agg #[.int .u8 (p.1.toNat : Int), .int .u8 (p.2.1.toNat : Int), .int .u8 (p.2.2.1.toNat : Int), .int .u8 (p.2.2.2.toNat : Int)])).run Try.prog w = .ok true w := run_eqIn_quad_same p
                    clear hnn hbp
                    go_wp2_with fail
                    go_region_held3 (fun w' => w'.cell? ⟨g, 0, none⟩ = some (.int .u8 (p.1.toNat : Int)) ∧ w'.cell? ⟨g, 1, none⟩ = some (.int .u8 (p.2.1.toNat : Int)) ∧ w'.cell? ⟨g, 2, none⟩ = some (.int .u8 (p.2.2.1.toNat : Int)) ∧ w'.cell? ⟨g, 3, none⟩ = some (.int .u8 (p.2.2.2.toNat : Int))) (first | exact hq4 | exact QuadAt.al _ hq4 | exact QuadAt.al _ (QuadAt.al _ hq4) | exact QuadAt.c0 (QuadAt.dr (QuadAt.al _ (QuadAt.al _ hq4))) hcg) (first | (go_at_call 16; refine hcall.mono ?_; rintro e w' ⟨rfl, hcg⟩))
                    have gt2 := (((gt.alloc _).alloc _).drew).trans0 hcg
                    clear hmk hmk3 hq4 hcall q4
                    go_wp2_with fail
                    go_ret
                    exact ⟨rfl, gt2⟩

set_option maxRecDepth 100000 in
theorem contract (H : Type) (enc : TypeId × Value → H) (W : World) (base : Nat) (args : Array Value) (ds gs : List (DataW H)) (before : List MemPlace)
    (hval : ∀ (j : Nat) t v, Try.f6.params[j]? = some t → args[j]? = some v → Value.okWide Try.prog W .any base t v)
    (hW : DataW.Whole enc Try.prog Try.f6.params.toList Rows.parityAddsSpec.vars false W args.toList ds gs before) (hsz : (DataW.weightsEach Try.prog (Try.f6.params.toList ++ Rows.parityAddsSpec.plain.varTypes Try.prog) (ds ++ gs)).all (· ≤ reachBytes) = true) :
    Calls Try.prog 6 args W fun e W' => ∃ v, e = .returned v ∧ Rows.parityAddsSpec.post enc Try.prog Try.f6 false true false false W args v W' := by
  have hW' := hW
  obtain ⟨p, q, hA0, hV, rfl, hfz, hnd⟩ := hW
  have hA : DataW.TrodAll enc Try.prog W 0 (fun _ => true) true Try.f6.params.toList args.toList ds p := hA0
  rw [Try.params6] at hA hval hsz
  obtain ⟨v0, vs0, d0, ds0, p0, q0, hargs, rfl, rfl, h0, r0⟩ := trodAll_cons hA
  obtain ⟨v1, vs1, d1, ds1, p1, q1, rfl, rfl, rfl, h1, r1⟩ := trodAll_cons r0
  obtain ⟨v2, vs2, d2, ds2, p2, q2, rfl, rfl, rfl, h2, r2⟩ := trodAll_cons r1
  obtain ⟨rfl, rfl, rfl⟩ := trodAll_nil r2
  obtain rfl : args = #[v0, v1, v2] := by cases args; simp_all
  obtain ⟨rfl, rfl⟩ := trodVars_none hV
  have k0 := h0
  have lt0 : ∀ x ∈ p0, x.block < W.heap.size := by obtain ⟨m, hm⟩ := k0; exact DataW.trod_lt m _ _ _ hm
  obtain ⟨l0, w0, z0⟩ := openB (hval 0 26 v0 rfl rfl) h0
  have s0 : l0.length ≤ reachBytes := z0.2 _ fun e s he => by
    have := sized_slice hsz (j := 0) rfl (by rw [he]; rfl) Try.underlying26
    exact Nat.le_trans (Nat.le_mul_of_pos_right _ (of_decide_eq_true (by kernel_rfl))) this
  have k1 := h1
  have lt1 : ∀ x ∈ p1, x.block < W.heap.size := by obtain ⟨m, hm⟩ := k1; exact DataW.trod_lt m _ _ _ hm
  obtain ⟨l1, w1, z1⟩ := openB (hval 1 26 v1 rfl rfl) h1
  have s1 : l1.length ≤ reachBytes := z1.2 _ fun e s he => by
    have := sized_slice hsz (j := 1) rfl (by rw [he]; rfl) Try.underlying26
    exact Nat.le_trans (Nat.le_mul_of_pos_right _ (of_decide_eq_true (by kernel_rfl))) this
  obtain ⟨a2, rfl, rfl, rfl, w2⟩ := open_int Try.underlying3 (hval 2 3 v2 rfl rfl) h2
  refine (walk w0 w1 w2 s0 s1).mono fun e W' ⟨he, bel0⟩ => ?_
  have bel := bel0.below
  subst he
  exact ⟨_, rfl, _, _, _, [], _, [], hW', trodAll_mk1 (shut_bool Try.underlying4 _), (trodAll_cons_mk (Below.trod laidOut (by kernel_rfl) (of_decide_eq_true (by kernel_rfl)) k0 bel lt0) (trodAll_cons_mk (Below.trod laidOut (by kernel_rfl) (of_decide_eq_true (by kernel_rfl)) k1 bel lt1) (trodAll_cons_mk (shut_int Try.underlying3 w2) trodAll_mk0))), rfl, bel.frame _, fun h => by cases h⟩

set_option maxRecDepth 100000 in
theorem lifted (os : Os) (started : os.Started) (H : Type) (enc : TypeId × Value → H) :
    ReturnsInHanded {} Try.checked os 6 .any (Rows.parityAddsSpec.pre6 enc Try.prog Try.f6 Rows.parityAddsRow.domain false) (Rows.parityAddsSpec.post enc Try.prog Try.f6 false true false false) := by
  refine returnsInHanded_of_change_sized (C := Try.checked) own started (by kernel_rfl) Try.func6
    (ChangeSpec.witness6 (enc := enc) (C := Try.checked) false ⟨#[], #[.slice none 0 0, .slice none 0 0, .int .i64 0], []⟩ 8 (by kernel_rfl) (by kernel_rfl) (by kernel_rfl) (by kernel_rfl)) ?_
  intro W base args ds gs before hval hW _ hsz _
  exact contract H enc W base args ds gs before hval hW hsz

theorem over : Rows.parityAddsRow.holds Try.pinned (OpenSpec.ofChange Rows.parityAddsSpec) :=
  OpenClaim.holds_of_wide 6 Try.f6 rfl rfl rfl rfl rfl rfl rfl ⟨rfl, rfl, rfl, rfl, rfl⟩ rfl rfl rfl rfl rfl (by kernel_rfl) Try.func6 (by kernel_rfl)
    (of_decide_eq_true (by kernel_rfl)) (by unfold Func.isWrapper; first | (rw [if_pos (by decide +kernel)]; kernel_rfl) | (rw [if_neg (by decide +kernel)]; exact ⟨rfl, rfl⟩))
    (fun os started H enc _ => lifted os started H enc)

theorem proved : Rows.ParityAddsSaid := over
end Go.Proofs.Ytijnfjnkjojjnaa.parityAdds
