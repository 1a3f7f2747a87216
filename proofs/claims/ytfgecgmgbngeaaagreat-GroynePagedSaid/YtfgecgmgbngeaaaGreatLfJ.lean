/- Lists of leaves in memory; the walk of leaf.Join, of leaves. -/
import Derived.Test.YtfgecgmgbngeaaaGreatLfI
set_option maxRecDepth 100000
namespace Go.Proofs.YtfgecgmgbngeaaaGreat
open Go.RowKit
set_option linter.unusedVariables false
set_option linter.unusedSimpArgs false

theorem info_N : (Tryz.prog.info? 65).map (fun i => (i.zero, i.size, i.bytes)) = some (some (.agg #[.bool false, .slice none 0 0, .slice none 0 0, .slice none 0 0]), 4, 80) := by kernel_rfl
/-- the cells of a list of leaves -/
def flN (P : List (Value × Value)) : List Value := P.flatMap fun p => [.bool true, p.1, p.2, .slice none 0 0]
theorem flN_len (P : List (Value × Value)) : (flN P).length = P.length * 4 := by
  induction P with
  | nil => rfl
  | cons p P ih => rw [flN, List.flatMap_cons, List.length_append, List.length_cons]; unfold flN at ih; rw [ih]; simp; omega
theorem flN_at : ∀ (P : List (Value × Value)) (i : Nat) (h : i < P.length), (flN P)[i * 4]? = some (.bool true) ∧ (flN P)[i * 4 + 1]? = some P[i].1 ∧ (flN P)[i * 4 + 2]? = some P[i].2 ∧ (flN P)[i * 4 + 3]? = some (.slice none 0 0)
  | p :: P, 0, _ => ⟨rfl, rfl, rfl, rfl⟩
  | p :: P, i + 1, h => by
    have ih := flN_at P i (by simpa using h)
    have e : ∀ k, (flN (p :: P))[(i + 1) * 4 + k]? = (flN P)[i * 4 + k]? := fun k => by
      rw [flN, List.flatMap_cons, List.getElem?_append_right (by simp; omega)]
      congr 1
      simp; omega
    exact ⟨(e 0).trans ih.1, (e 1).trans ih.2.1, (e 2).trans ih.2.2.1, (e 3).trans ih.2.2.2⟩
/-- what the leaves read as -/
def RdL (w : World) (G : Nat → Prop) (P : List (Value × Value)) (L : List (List KV)) : Prop :=
  P.length = L.length ∧ ∀ (i : Nat) (p : Value × Value) (l : List KV), P[i]? = some p → L[i]? = some l → RdBB w G p.1 (ksL l) ∧ RdBB w G p.2 (vsL l)
theorem RdL.chg {w w' : World} {G S : Nat → Prop} {P : List (Value × Value)} {L : List (List KV)} (h : RdL w G P L) (hc : Chg S w w') (hG : ∀ b, G b → ¬ S b) : RdL w' G P L :=
  ⟨h.1, fun i p l hp hl => ⟨(h.2 i p l hp hl).1.chg hc hG, (h.2 i p l hp hl).2.chg hc hG⟩⟩
theorem rowN_at {w : World} {F : Nat → Prop} {A : Option Addr} {n c i : Nat} {P : List (Value × Value)} (h : RdV w F 4 (.slice A n c) n (flN P)) (hn : n = P.length) (hi : i < P.length) :
    ∃ ad, A = some ad ∧ F ad.block ∧ w.cell? (ad.add (i * 4)) = some (.bool true) ∧ w.cell? ⟨(ad.add (i * 4)).block, (ad.add (i * 4)).off + 1, none⟩ = some P[i].1 ∧ w.cell? ⟨(ad.add (i * 4)).block, (ad.add (i * 4)).off + 2, none⟩ = some P[i].2 ∧ w.cell? ⟨(ad.add (i * 4)).block, (ad.add (i * 4)).off + 3, none⟩ = some (.slice none 0 0) := by
  obtain ⟨ad, hA, hF, hc⟩ := RdV.cells h (by omega)
  obtain ⟨h0, h1, h2, h3⟩ := flN_at P i hi
  refine ⟨ad, hA, hF, hc _ _ h0, ?_, ?_, ?_⟩
  · rw [← add_succ ad (i * 4) 1 (by omega)]; exact hc _ _ h1
  · rw [← add_succ ad (i * 4) 2 (by omega)]; exact hc _ _ h2
  · rw [← add_succ ad (i * 4) 3 (by omega)]; exact hc _ _ h3
/-- append of a whole list of lists -/
theorem oper_BBm {w : World} {o : Oper} {a : Act} {K : Act → World → Prop} {Q : Exit → Act → World → Prop} (s x : Operand)
    (ho : o.op = .call { callee := .builtin .append, args := #[s, x], argTypes := #[22, 22] })
    {base : Nat} {F G : Nat → Prop} {v y : Value} {ll m : List (List UInt8)} (hown : OwnBB w base F v ll) (hv : a.eval s = v)
    (hu : RdBB w G y m) (hy : a.eval x = y) (hG : ∀ b, G b → F b ∧ b < w.heap.size ∧ v.ownBlock ≠ some b)
    (hb : ll.length + m.length ≤ 1000000000000) (hbase : base ≤ w.heap.size)
    (h : ∀ v' w', OwnBB w' base F v' (ll ++ m) → w.grownBy w' v.ownBlock → (v'.ownBlock = v.ownBlock ∨ v'.ownBlock = some w.heap.size) → K (a.put o.dst v') w') : Oper.wp Tryz.prog o a w K Q := by
  obtain ⟨i, hi, hz, h1, h2⟩ := info_parts info_bb
  obtain ⟨vs, e1, e2, e3⟩ := hown
  obtain ⟨us, g1, g2, g3⟩ := hu
  have h1c : ∀ z ∈ us, z.oneCell' = true := fun z hz => by
    obtain ⟨k, hk, rfl⟩ := List.getElem_of_mem hz
    obtain ⟨A, c, e, _, _⟩ := (g3 k us[k] m[k] (List.getElem?_eq_getElem hk) (List.getElem?_eq_getElem (by omega))).shape
    rw [e]; rfl
  subst hv
  subst hy
  refine wp_append_rd w s x _ ho base 30 i _ 1 24 Tryz.underlying22 hi hz h1 h2 rfl (by omega) _ _ e2 _ _ _ g2 h1c (by simp only [maxLen]; omega) (by omega) hbase ?_
  intro v' w' hown' hgr _ hat
  have hmv : ∀ (z : Value) (l : List UInt8), RdB w (fun b => F b ∧ b < w.heap.size ∧ (a.eval s).ownBlock ≠ some b) z l → RdB w' (fun b => F b ∧ b < w'.heap.size ∧ v'.ownBlock ≠ some b) z l := fun z l h =>
    (h.chg (Chg.of_grown hgr) fun b hb e => hb.2.2 e.symm).mono fun b hb => ⟨hb.1, Nat.lt_of_lt_of_le hb.2.1 hgr.size, fun e => by
      rcases hat with hat | hat
      · exact hb.2.2 (hat ▸ e)
      · rw [hat] at e; injection e with e; omega⟩
  refine h v' w' ⟨vs ++ us, by simp [e1, g1], by rw [List.length_append]; exact hown', fun k z l hz hl => ?_⟩ hgr hat
  rw [List.getElem?_append] at hz hl
  rw [e1] at hz
  split at hz
  · rename_i hk
    rw [if_pos hk] at hl
    exact hmv z l (e3 k z l hz hl)
  · rename_i hk
    rw [if_neg hk] at hl
    exact hmv z l ((g3 _ z l hz hl).mono hG)
theorem TwP.putK {w w' : World} {P : Nat → Prop} {base : Nat} {kv vv kv' : Value} {ks vs m : List (List UInt8)} (h : TwP w P base kv vv ks vs) (hk : OwnBB w' base (fun b => P b ∧ vv.ownBlock ≠ some b) kv' (ks ++ m)) (hg : w.grownBy w' kv.ownBlock) (hat : kv'.ownBlock = kv.ownBlock ∨ kv'.ownBlock = some w.heap.size) : TwP w' P base kv' vv (ks ++ m) vs := by
  have hc := Chg.of_grown hg
  refine ⟨hk, ((h.v.fit.chg hc (fun b hb e => h.ne b e.symm hb) fun b hb e => hb.1.2 e.symm).mono fun b hb => ⟨hb.1.1, fun e => ?_⟩), fun b hb e => ?_⟩
  · rcases hat with hat | hat
    · exact hb.1.2 (hat ▸ e)
    · rw [hat] at e; injection e with e; have := hb.2; omega
  · rcases hat with hat | hat
    · exact h.ne b (hat ▸ hb) e
    · rw [hat] at hb; injection hb with hb; have := h.v.lt b e; omega
theorem TwP.putV {w w' : World} {P : Nat → Prop} {base : Nat} {kv vv vv' : Value} {ks vs m : List (List UInt8)} (h : TwP w P base kv vv ks vs) (hv : OwnBB w' base (fun b => P b ∧ kv.ownBlock ≠ some b) vv' (vs ++ m)) (hg : w.grownBy w' vv.ownBlock) (hat : vv'.ownBlock = vv.ownBlock ∨ vv'.ownBlock = some w.heap.size) : TwP w' P base kv vv' ks (vs ++ m) := by
  have hc := Chg.of_grown hg
  refine ⟨((h.k.fit.chg hc (fun b hb e => h.ne b hb e.symm) fun b hb e => hb.1.2 e.symm).mono fun b hb => ⟨hb.1.1, fun e => ?_⟩), hv, fun b hb e => ?_⟩
  · rcases hat with hat | hat
    · exact hb.1.2 (hat ▸ e)
    · rw [hat] at e; injection e with e; have := hb.2; omega
  · rcases hat with hat | hat
    · exact h.ne b hb (hat ▸ e)
    · rw [hat] at e; injection e with e; have := h.k.lt b hb; omega
theorem TwP.nil_ (w : World) (P : Nat → Prop) (base : Nat) : TwP w P base (.slice none 0 0) (.slice none 0 0) [] [] := ⟨OwnBB.nil_ .., OwnBB.nil_ .., fun b e => by cases e⟩
def ksLL (L : List (List KV)) : List (List UInt8) := L.flatMap ksL
def vsLL (L : List (List KV)) : List (List UInt8) := L.flatMap vsL
theorem flat_take_step {α β : Type} (f : α → List β) (L : List α) {i : Nat} (h : i < L.length) : (L.take (i + 1)).flatMap f = (L.take i).flatMap f ++ f L[i] := by
  rw [List.take_succ_eq_append_getElem h, List.flatMap_append]; simp
theorem flat_take_le {α β : Type} (f : α → List β) (L : List α) (i : Nat) : ((L.take i).flatMap f).length ≤ (L.flatMap f).length := by
  conv => rhs; rw [← List.take_append_drop i L, List.flatMap_append, List.length_append]
  omega
set_option maxHeartbeats 16000000 in
theorem lfJoin {w : World} {F : Nat → Prop} {A : Option Addr} {n c : Nat} {P : List (Value × Value)} {L : List (List KV)} (hrow : RdV w F 4 (.slice A n c) n (flN P)) (hn : n = P.length) (hL : RdL w F P L) (hF : ∀ b, F b → b < w.heap.size) (hlim : ∀ l ∈ L, Lim (ksL l) (vsL l)) (hk9 : (ksLL L).length ≤ 1000000) (hv9 : (vsLL L).length ≤ 1000000) (hn9 : n ≤ 1000000) :
    Calls Tryz.prog 37 #[.slice A n c] w fun e w' => ∃ (kA : Option Addr) (kn kc : Nat) (vA : Option Addr) (vn vc : Nat), e = .returned (.agg #[.bool true, .slice kA kn kc, .slice vA vn vc, .slice none 0 0]) ∧ RdBB w' (fun b => F b ∨ w.heap.size ≤ b) (.slice kA kn kc) (ksLL L) ∧ RdBB w' (fun b => F b ∨ w.heap.size ≤ b) (.slice vA vn vc) (vsLL L) ∧ Chg Non w w' := by
  have hr := Blk.new w 65 #[.bool false, .slice none 0 0, .slice none 0 0, .slice none 0 0]
  have hc1 := (Chg.refl Non w).alloc (.cells #[.bool false, .slice none 0 0, .slice none 0 0, .slice none 0 0] 65)
  have hn1 := sizeAl' w (.cells #[.bool false, .slice none 0 0, .slice none 0 0, .slice none 0 0] 65)
  have ho := Blk.new (w.alloc (.cells #[.bool false, .slice none 0 0, .slice none 0 0, .slice none 0 0] 65)) 65 #[.bool true, .slice none 0 0, .slice none 0 0, .slice none 0 0]
  rw [hn1] at ho
  have hc2 := (Chg.refl Non (w.alloc (.cells #[.bool false, .slice none 0 0, .slice none 0 0, .slice none 0 0] 65))).alloc (.cells #[.bool true, .slice none 0 0, .slice none 0 0, .slice none 0 0] 65)
  have hn2 := sizeAl' (w.alloc (.cells #[.bool false, .slice none 0 0, .slice none 0 0, .slice none 0 0] 65)) (.cells #[.bool true, .slice none 0 0, .slice none 0 0, .slice none 0 0] 65)
  rw [hn1] at hn2
  have HRW := hide hrow
  have HNP := hide hn
  have HLL := hide hL
  clear hrow hn hL
  go_enter Tryz.func37, Tryz.ntmps37
  go_upto_region 2 with fail
  obtain ⟨N, hN⟩ : ∃ N, N = w.heap.size := ⟨_, rfl⟩
  have hc02 := hc1.trans0 hc2
  have hr2 := hr.c0 hc2
  rw [← hN] at hr2 ho hn2 ⊢
  have HNN := hide hN
  have hHF : ∀ b, F b → b < N := fun b hb => by rw [hN]; exact hF b hb
  clear hr hc1 hc2 hn1 hN hF
  generalize World.alloc (World.alloc w _) _ = w2 at hr2 ho hn2 hc02 ⊢
  have HC02 := hide hc02
  have HR := hide hr2
  have HO := hide ho
  have HN2 := hide hn2
  clear hr2 ho hn2 hc02
  go_wp2_with fail
  go_loopw [9] (fun iv wr => ∃ (i : Nat) (KA : Option Addr) (kn kc : Nat) (VA : Option Addr) (vn vc : Nat), i ≤ n ∧ iv = .int .i64 (i : Int) ∧ TwP wr (fun b => F b ∨ N + 1 < b) (N + 2) (.slice KA kn kc) (.slice VA vn vc) (ksLL (L.take i)) (vsLL (L.take i)) ∧ Blk wr (N + 1) 65 #[.bool true, .slice KA kn kc, .slice VA vn vc, .slice none 0 0] ∧ Chg (fun k => k = N + 1 ∨ N + 2 ≤ k) w2 wr) (fun iv _ => n - (intOf iv).toNat)
  case atStart => exact ⟨0, none, 0, 0, none, 0, 0, Nat.zero_le _, rfl, TwP.nil_ _ _ _, HO.out, Chg.refl _ _⟩
  case round =>
    obtain ⟨i, KA, kn, kc, VA, vn, vc, hi, rfl, hT, hO, hcw⟩ := hrel
    have hnr := hcw.size
    have hN2 := HN2.out
    by_cases hil : i < n
    · have hiP : i < P.length := by have := HNP.out; omega
      have hiL : i < L.length := by have := HLL.out.1; omega
      have hc0r : ∀ b, F b → ¬ (b = N + 1 ∨ N + 2 ≤ b) := fun b hb e => by have := hHF b hb; omega
      have hrow := (HRW.out.chg HC02.out fun _ _ h => h).chg hcw hc0r
      obtain ⟨ad, rfl, hFa, c0, c1, c2, c3⟩ := rowN_at hrow HNP.out hiP
      obtain ⟨p, hp⟩ : ∃ p, p = P[i] := ⟨_, rfl⟩
      obtain ⟨l, hl⟩ : ∃ l, l = L[i] := ⟨_, rfl⟩
      rw [← hp] at c1 c2
      have hlm := hlim l (by rw [hl]; exact List.getElem_mem hiL)
      obtain ⟨hrk, hrv⟩ := HLL.out.2 i p l (by rw [hp]; exact List.getElem?_eq_getElem hiP) (by rw [hl]; exact List.getElem?_eq_getElem hiL)
      have hrk := (hrk.c0 HC02.out).chg hcw hc0r
      have hrv := (hrv.c0 HC02.out).chg hcw hc0r
      obtain ⟨pk, pv⟩ := p
      obtain ⟨PA, pn, pc, rfl⟩ : ∃ A n c, pk = .slice A n c := by obtain ⟨A, c, e, _⟩ := hrk.shape; exact ⟨A, _, c, e⟩
      obtain ⟨QA, qn, qc, rfl⟩ : ∃ A n c, pv = .slice A n c := by obtain ⟨A, c, e, _⟩ := hrv.shape; exact ⟨A, _, c, e⟩
      have hks := flat_take_step ksL L hiL
      have hvs := flat_take_step vsL L hiL
      rw [← hl] at hks hvs
      have hkle := flat_take_le ksL L (i + 1)
      have hvle := flat_take_le vsL L (i + 1)
      rw [hks] at hkle
      rw [hvs] at hvle
      rw [List.length_append] at hkle hvle
      have HLEN := hide (show (ksLL (L.take i)).length + (ksL l).length ≤ 1000000 ∧ (vsLL (L.take i)).length + (vsL l).length ≤ 1000000 from ⟨Nat.le_trans hkle hk9, Nat.le_trans hvle hv9⟩)
      have hgb := Blk.new wr 65 #[.bool true, .slice PA pn pc, .slice QA qn qc, .slice none 0 0]
      have hcg := (Chg.refl Non wr).alloc (.cells #[.bool true, .slice PA pn pc, .slice QA qn qc, .slice none 0 0] 65)
      have hng := sizeAl' wr (.cells #[.bool true, .slice PA pn pc, .slice QA qn qc, .slice none 0 0] 65)
      have HT := hide hT
      have HOo := hide hO
      have HW := hide hcw
      have HKS := hide (And.intro hks hvs)
      have HRK := hide (And.intro (hrk.c0 hcg) (hrv.c0 hcg))
      have HIL := hide hil
      clear hT hO hcw hks hvs hkle hvle hrk hrv hi hrow hp hl hiP hiL hFa
      go_upto_region 5 with fail
      obtain ⟨g, hge⟩ : ∃ g, g = wr.heap.size := ⟨_, rfl⟩
      rw [← hge] at hgb hng ⊢
      have HGE := hide hge
      have HCG := hide hcg
      have HGB := hide hgb
      have HNG := hide hng
      clear hge hcg hgb hng c0 c1 c2 c3
      generalize World.alloc wr _ = w3 at HCG HGB HNG HRK ⊢
      have b0 : w3.cell? ⟨g, 0, none⟩ = some (.bool true) := HGB.out.cell 0
      have b1 : w3.cell? ⟨g, 1, none⟩ = some (.slice PA pn pc) := HGB.out.cell 1
      have b2 : w3.cell? ⟨g, 2, none⟩ = some (.slice QA qn qc) := HGB.out.cell 2
      have b3 : w3.cell? ⟨g, 3, none⟩ = some (.slice none 0 0) := HGB.out.cell 3
      have htw := lfTwin HRK.out.1 HRK.out.2 hlm.n (by rw [hlm.e]; exact hlm.n) ⟨hlm.k, hlm.v⟩
      go_wp2_with fail
      refine htw.mono ?_
      rintro e w4 ⟨TA, tn, tc, UA, un, uc, rfl, hTk, hUv, hc4⟩
      have hg4 := HGB.out.c0 hc4
      have y0 : w4.cell? ⟨g, 0, none⟩ = some (.bool true) := hg4.cell 0
      have y1 : w4.cell? ⟨g, 1, none⟩ = some (.slice PA pn pc) := hg4.cell 1
      have y2 : w4.cell? ⟨g, 2, none⟩ = some (.slice QA qn qc) := hg4.cell 2
      have y3 : w4.cell? ⟨g, 3, none⟩ = some (.slice none 0 0) := hg4.cell 3
      have f0 := hg4.frozen 0
      have f1 := hg4.frozen 1
      have f2 := hg4.frozen 2
      have f3 := hg4.frozen 3
      have hr8 := (((hg4.set_ 0 (.bool true)).set_ 1 (.slice TA tn tc)).set_ 2 (.slice UA un uc)).set_ 3 (.slice none 0 0)
      simp at hr8
      have hc8 : Chg (fun k => k = g) w4 ((((w4.setCell ⟨g, 0, none⟩ (.bool true)).setCell ⟨g, 1, none⟩ (.slice TA tn tc)).setCell ⟨g, 2, none⟩ (.slice UA un uc)).setCell ⟨g, 3, none⟩ (.slice none 0 0)) :=
        Chg.setCell (p := ⟨g, 3, none⟩) (Chg.setCell (p := ⟨g, 2, none⟩) (Chg.setCell (p := ⟨g, 1, none⟩) (Chg.setCell (p := ⟨g, 0, none⟩) (Chg.refl (fun k => k = g) w4) (fun _ => rfl) _) (fun _ => rfl) _) (fun _ => rfl) _) (fun _ => rfl) _
      have n4 := hc4.size
      have hc48 : Chg Non wr ((((w4.setCell ⟨g, 0, none⟩ (.bool true)).setCell ⟨g, 1, none⟩ (.slice TA tn tc)).setCell ⟨g, 2, none⟩ (.slice UA un uc)).setCell ⟨g, 3, none⟩ (.slice none 0 0)) := (HCG.out.trans0 hc4).trans hc8 fun b hb e => by
        have e : b = g := e
        have := HGE.out
        omega
      have HG8 := hide hr8
      have HC8 := hide hc48
      have hTk8 := hTk.chg hc8 (fun b hb e => by have e : b = g := e; have := HGE.out; have := HNG.out; exact hb.1.elim (fun h => by have := hHF b h; omega) (fun h => by omega))
      have hUv8 := hUv.chg hc8 (fun b hb e => by have e : b = g := e; have := HGE.out; have := HNG.out; exact hb.1.elim (fun h => by have := hHF b h; omega) (fun h => by omega))
      have HTU := hide (And.intro hTk8 hUv8)
      have HN4 := hide n4
      have n8 := hc8.size
      have HN8 := hide n8
      clear htw hTk hUv hg4 hr8 hc8 hc48 hTk8 hUv8 b0 b1 b2 b3 hc4 n4 n8
      go_upto_region 7 with fail
      generalize World.setCell _ _ _ = w5 at HG8 HC8 HTU HN8 ⊢
      clear y0 y1 y2 y3 f0 f1 f2 f3
      have HT5 := hide (HT.out.c0 HC8.out)
      have HO5 := hide (HOo.out.c0 HC8.out)
      have HW5 := hide (HW.out.trans0 HC8.out)
      have HKO := hide (And.intro (show ∀ b, (Value.slice KA kn kc).ownBlock = some b → N + 2 ≤ b ∧ b < wr.heap.size from fun b e => HT.out.k.lt b e) (show ∀ b, (Value.slice VA vn vc).ownBlock = some b → N + 2 ≤ b ∧ b < wr.heap.size from fun b e => HT.out.v.lt b e))
      clear HT HOo HW
      refine wp_region_T (fun wx => Blk wx (N + 1) 65 #[.bool true, .slice KA kn kc, .slice VA vn vc, .slice none 0 0] ∧ Blk wx g 65 #[.bool true, .slice TA tn tc, .slice UA un uc, .slice none 0 0]) 11 (by kernel_rfl) ?_
      have HB0 := hide (And.intro (HO5.out.c0 ((Chg.refl Non w5).drew)) (HG8.out.c0 ((Chg.refl Non w5).drew)))
      have HT0 := hide (HT5.out.c0 ((Chg.refl Non w5).drew))
      have HW0 := hide HW5.out.drew
      have HU0 := hide (And.intro (HTU.out.1.c0 ((Chg.refl Non w5).drew)) (HTU.out.2.c0 ((Chg.refl Non w5).drew)))
      have hs0 : w5.drew.heap.size = w5.heap.size := rfl
      have HS0 := hide hs0
      clear HO5 HG8 HT5 HW5 HTU hs0
      have hwg : wr.heap.size = g := HGE.out.symm
      have hn3 := HNG.out
      have hn4 := HN4.out
      have hn8 := HN8.out
      generalize World.drew w5 = x0 at HB0 HT0 HW0 HU0 HS0 ⊢
      have hxs := HS0.out
      refine AnyT.takeM (i := 0) (v := ?_) rfl (by kernel_rfl) (by kernel_rfl) (fun _ _ _ h => h) (by kernel_rfl) (by kernel_rfl) (Or.inl ⟨by rfl, ?_⟩) HB0.out ?_
      rotate_left
      · (intro w9 h9; go_simp; try with_reducible rfl)
      try simp only [List.getElem_toArray, List.getElem_cons_succ, List.getElem_cons_zero, Act.put, List.setIfInBounds_toArray, List.set_cons_zero, List.set_cons_succ]
      refine AnyT.takeM (i := 1) (v := ?_) rfl (by kernel_rfl) (by kernel_rfl) (fun _ _ _ h => h) (by kernel_rfl) (by kernel_rfl) (Or.inl ⟨by rfl, ?_⟩) HB0.out ?_
      rotate_left
      · (intro w9 h9; have y1 : w9.cell? ⟨N + 1, 1, none⟩ = some (.slice KA kn kc) := h9.1.cell 1; go_simp; try with_reducible rfl)
      try simp only [List.getElem_toArray, List.getElem_cons_succ, List.getElem_cons_zero, Act.put, List.setIfInBounds_toArray, List.set_cons_zero, List.set_cons_succ]
      refine AnyT.takeM (i := 2) (v := ?_) rfl (by kernel_rfl) (by kernel_rfl) (fun _ _ _ h => h) (by kernel_rfl) (by kernel_rfl) (Or.inl ⟨by rfl, ?_⟩) HB0.out ?_
      rotate_left
      · (intro w9 h9; go_simp; try with_reducible rfl)
      try simp only [List.getElem_toArray, List.getElem_cons_succ, List.getElem_cons_zero, Act.put, List.setIfInBounds_toArray, List.set_cons_zero, List.set_cons_succ]
      refine AnyT.takeM (i := 3) (v := ?_) rfl (by kernel_rfl) (by kernel_rfl) (fun _ _ _ h => h) (by kernel_rfl) (by kernel_rfl) (Or.inl ⟨by rfl, ?_⟩) HB0.out ?_
      rotate_left
      · (intro w9 h9; have y1 : w9.cell? ⟨g, 1, none⟩ = some (.slice TA tn tc) := h9.2.cell 1; go_simp; try with_reducible rfl)
      try simp only [List.getElem_toArray, List.getElem_cons_succ, List.getElem_cons_zero, Act.put, List.setIfInBounds_toArray, List.set_cons_zero, List.set_cons_succ]
      refine AnyT.takeM (i := 5) (v := ?_) rfl (by kernel_rfl) (by kernel_rfl) (fun _ _ _ h => h) (by kernel_rfl) (by kernel_rfl) (Or.inl ⟨by rfl, ?_⟩) HB0.out ?_
      rotate_left
      · (intro w9 h9; go_simp; try with_reducible rfl)
      try simp only [List.getElem_toArray, List.getElem_cons_succ, List.getElem_cons_zero, Act.put, List.setIfInBounds_toArray, List.set_cons_zero, List.set_cons_succ]
      refine AnyT.takeM (i := 6) (v := ?_) rfl (by kernel_rfl) (by kernel_rfl) (fun _ _ _ h => h) (by kernel_rfl) (by kernel_rfl) (Or.inl ⟨by rfl, ?_⟩) HB0.out ?_
      rotate_left
      · (intro w9 h9; have y1 : w9.cell? ⟨N + 1, 2, none⟩ = some (.slice VA vn vc) := h9.1.cell 2; go_simp; try with_reducible rfl)
      try simp only [List.getElem_toArray, List.getElem_cons_succ, List.getElem_cons_zero, Act.put, List.setIfInBounds_toArray, List.set_cons_zero, List.set_cons_succ]
      refine AnyT.takeM (i := 7) (v := ?_) rfl (by kernel_rfl) (by kernel_rfl) (fun _ _ _ h => h) (by kernel_rfl) (by kernel_rfl) (Or.inl ⟨by rfl, ?_⟩) HB0.out ?_
      rotate_left
      · (intro w9 h9; go_simp; try with_reducible rfl)
      try simp only [List.getElem_toArray, List.getElem_cons_succ, List.getElem_cons_zero, Act.put, List.setIfInBounds_toArray, List.set_cons_zero, List.set_cons_succ]
      refine AnyT.takeM (i := 8) (v := ?_) rfl (by kernel_rfl) (by kernel_rfl) (fun _ _ _ h => h) (by kernel_rfl) (by kernel_rfl) (Or.inl ⟨by rfl, ?_⟩) HB0.out ?_
      rotate_left
      · (intro w9 h9; have y1 : w9.cell? ⟨g, 2, none⟩ = some (.slice UA un uc) := h9.2.cell 2; go_simp; try with_reducible rfl)
      try simp only [List.getElem_toArray, List.getElem_cons_succ, List.getElem_cons_zero, Act.put, List.setIfInBounds_toArray, List.set_cons_zero, List.set_cons_succ]
      refine AnyT.one (i := 4) (by kernel_rfl) rfl (fun K hK => ?_)
      rw [if_pos (by rfl)]
      try simp only [List.getElem_toArray, List.getElem_cons_succ, List.getElem_cons_zero, Act.put, List.setIfInBounds_toArray, List.set_cons_zero, List.set_cons_succ]
      refine oper_BBm _ _ rfl HT0.out.k rfl HU0.out.1 rfl (fun b hb => ?_) (by have := HLEN.out; omega) (by omega) ?_
      · have hkb := fun e => HKO.out.1 b e
        have hvb := fun e => HKO.out.2 b e
        rcases hb.1 with h | h
        · have := hHF b h
          exact ⟨⟨.inl h, fun e => by have := hvb e; omega⟩, by omega, fun e => by have := hkb e; omega⟩
        · exact ⟨⟨.inr (by omega), fun e => by have := hvb e; omega⟩, by omega, fun e => by have := hkb e; omega⟩
      intro kv1 x1 hO1 hg1 hat1
      obtain ⟨KB, kbn, kbc, rfl⟩ := hO1.shapeH
      have HT1 := hide (HT0.out.putK hO1 hg1 hat1)
      have hd1 : Chg (fun b => (Value.slice KA kn kc).ownBlock = some b) x0 x1 := (Chg.of_grown hg1).mono fun b _ e => e.symm
      have HB1 := hide (And.intro (HB0.out.1.chg hd1 (fun e => by have := HKO.out.1 _ e; omega)) (HB0.out.2.chg hd1 (fun e => by have := HKO.out.1 _ e; omega)))
      have HU1 := hide (HU0.out.2.chg hd1 (fun b hb e => by have := HKO.out.1 _ e; exact hb.1.elim (fun h => by have := hHF b h; omega) (fun h => by omega)))
      have HW1 := hide (HW0.out.trans hd1 fun b hb e => by have := HKO.out.1 _ e; omega)
      have HK1 := hide (show ∀ b, (Value.slice KB kbn kbc).ownBlock = some b → (N + 2 ≤ b ∧ b < g) ∨ b = x0.heap.size from fun b e => hat1.elim (fun h => .inl (by rw [h] at e; have := HKO.out.1 b e; omega)) (fun h => .inr (by rw [h] at e; exact (Option.some.inj e).symm)))
      have n1 := hd1.size
      refine hK.out _ _ (fun _ => HB1.out) ?_
      clear hO1 hg1 hat1 hd1 HT0 HB0 HU0 HW0
      clear hK K
      try simp only [List.getElem_toArray, List.getElem_cons_succ, List.getElem_cons_zero, Act.put, List.setIfInBounds_toArray, List.set_cons_zero, List.set_cons_succ]
      refine AnyT.takeM (i := 10) (v := ?_) rfl (by kernel_rfl) (by kernel_rfl) (fun _ _ _ h => h) (by kernel_rfl) (by kernel_rfl) (Or.inl ⟨by rfl, ?_⟩) HB1.out ?_
      rotate_left
      · (intro w9 h9; go_simp; try with_reducible rfl)
      try simp only [List.getElem_toArray, List.getElem_cons_succ, List.getElem_cons_zero, Act.put, List.setIfInBounds_toArray, List.set_cons_zero, List.set_cons_succ]
      refine AnyT.one (i := 9) (by kernel_rfl) rfl (fun K hK => ?_)
      rw [if_pos (by rfl)]
      try simp only [List.getElem_toArray, List.getElem_cons_succ, List.getElem_cons_zero, Act.put, List.setIfInBounds_toArray, List.set_cons_zero, List.set_cons_succ]
      refine oper_BBm _ _ rfl HT1.out.v rfl HU1.out rfl (fun b hb => ?_) (by have := HLEN.out; omega) (by omega) ?_
      · have hkb := fun e => HK1.out b e
        have hvb := fun e => HKO.out.2 b e
        rcases hb.1 with h | h
        · have := hHF b h
          exact ⟨⟨.inl h, fun e => by have := hkb e; omega⟩, by omega, fun e => by have := hvb e; omega⟩
        · exact ⟨⟨.inr (by omega), fun e => by have := hkb e; omega⟩, by omega, fun e => by have := hvb e; omega⟩
      intro vv2 x2 hO2 hg2 hat2
      obtain ⟨VB, vbn, vbc, rfl⟩ := hO2.shapeH
      have HT2 := hide (HT1.out.putV hO2 hg2 hat2)
      have hd2 : Chg (fun b => (Value.slice VA vn vc).ownBlock = some b) x1 x2 := (Chg.of_grown hg2).mono fun b _ e => e.symm
      have HB2 := hide (And.intro (HB1.out.1.chg hd2 (fun e => by have := HKO.out.2 _ e; omega)) (HB1.out.2.chg hd2 (fun e => by have := HKO.out.2 _ e; omega)))
      have HW2 := hide (HW1.out.trans hd2 fun b hb e => by have := HKO.out.2 _ e; omega)
      refine hK.out _ _ (fun _ => HB2.out) ?_
      clear hO2 hg2 hat2 hd2 HT1 HB1 HU1 HW1 HK1
      clear hK K
      try simp only [List.getElem_toArray, List.getElem_cons_succ, List.getElem_cons_zero, Act.put, List.setIfInBounds_toArray, List.set_cons_zero, List.set_cons_succ]
      refine AnyT.one (i := 11) (by kernel_rfl) rfl (fun K hK => ?_)
      rw [if_pos (by rfl)]
      try simp only [List.getElem_toArray, List.getElem_cons_succ, List.getElem_cons_zero, Act.put, List.setIfInBounds_toArray, List.set_cons_zero, List.set_cons_succ]
      have y1 : x2.cell? ⟨N + 1, 1, none⟩ = some (.slice KA kn kc) := HB2.out.1.cell 1
      have fz1 := HB2.out.1.frozen 1
      have hb6 := HB2.out.1.set_ 1 (.slice KB kbn kbc)
      simp at hb6
      have hd6 : Chg (fun k => k = N + 1) x2 (x2.setCell ⟨N + 1, 1, none⟩ (.slice KB kbn kbc)) := Chg.setCell (p := ⟨N + 1, 1, none⟩) (Chg.refl (fun k => k = N + 1) x2) (fun _ => rfl) _
      have HO1 := hide hb6
      have HTa := hide (HT2.out.chg hd6 (fun b hb e => by have e : b = N + 1 := e; omega) fun b hb e => by have e : b = N + 1 := e; have h9 := hHF b; rcases hb with hb | hb; (· have := h9 hb; omega); (· omega))
      have HWa := hide (HW2.out.trans hd6 fun b hb e => .inl e)
      go_simp
      refine hK.out _ _ (fun h => absurd h (by decide)) ?_
      clear hb6 hd6 y1 fz1 HT2 HW2
      generalize World.setCell x2 _ _ = z1 at HO1 HTa HWa ⊢
      clear hK K
      try simp only [List.getElem_toArray, List.getElem_cons_succ, List.getElem_cons_zero, Act.put, List.setIfInBounds_toArray, List.set_cons_zero, List.set_cons_succ]
      refine AnyT.takeL (i := 12) (v := ?_) rfl (by kernel_rfl) (by kernel_rfl) (fun _ _ _ h => h) (by kernel_rfl) (by kernel_rfl) (Or.inl ⟨by rfl, ?_⟩) ?_
      rotate_left
      · (intro w9; go_simp; try with_reducible rfl)
      try simp only [List.getElem_toArray, List.getElem_cons_succ, List.getElem_cons_zero, Act.put, List.setIfInBounds_toArray, List.set_cons_zero, List.set_cons_succ]
      refine AnyT.one (i := 13) (by kernel_rfl) rfl (fun K hK => ?_)
      rw [if_pos (by rfl)]
      try simp only [List.getElem_toArray, List.getElem_cons_succ, List.getElem_cons_zero, Act.put, List.setIfInBounds_toArray, List.set_cons_zero, List.set_cons_succ]
      have y1 : z1.cell? ⟨N + 1, 2, none⟩ = some (.slice VA vn vc) := HO1.out.cell 2
      have fz1 := HO1.out.frozen 2
      have hb6 := HO1.out.set_ 2 (.slice VB vbn vbc)
      simp at hb6
      have hd6 : Chg (fun k => k = N + 1) z1 (z1.setCell ⟨N + 1, 2, none⟩ (.slice VB vbn vbc)) := Chg.setCell (p := ⟨N + 1, 2, none⟩) (Chg.refl (fun k => k = N + 1) z1) (fun _ => rfl) _
      have HO2 := hide hb6
      have HTb := hide (HTa.out.chg hd6 (fun b hb e => by have e : b = N + 1 := e; omega) fun b hb e => by have e : b = N + 1 := e; have h9 := hHF b; rcases hb with hb | hb; (· have := h9 hb; omega); (· omega))
      have HWb := hide (HWa.out.trans hd6 fun b hb e => .inl e)
      go_simp
      refine hK.out _ _ (fun h => absurd h (by decide)) ?_
      clear hb6 hd6 y1 fz1 HTa HWa
      generalize World.setCell z1 _ _ = z2 at HO2 HTb HWb ⊢
      clear hK K
      try simp only [List.getElem_toArray, List.getElem_cons_succ, List.getElem_cons_zero, Act.put, List.setIfInBounds_toArray, List.set_cons_zero, List.set_cons_succ]
      refine AnyT.nil (by kernel_rfl) ?_
      clear HB2 HO1
      go_wp2_with fail
      go_roundw
      case rel => exact ⟨i + 1, KB, kbn, kbc, VB, vbn, vbc, HIL.out, by go_num, by rw [ksLL, vsLL, HKS.out.1, HKS.out.2]; exact HTb.out, HO2.out, HWb.out⟩
      case measure => (have := HIL.out; simp [intOf]; omega)
    · have hin : i = n := by omega
      subst hin
      have e1 : L.take i = L := List.take_of_length_le (by have := HNP.out; have := HLL.out.1; omega)
      rw [e1] at hT
      have o0 : wr.cell? ⟨N + 1, 0, none⟩ = some (.bool true) := hO.cell 0
      have o1 : wr.cell? ⟨N + 1, 1, none⟩ = some (.slice KA kn kc) := hO.cell 1
      have o2 : wr.cell? ⟨N + 1, 2, none⟩ = some (.slice VA vn vc) := hO.cell 2
      have o3 : wr.cell? ⟨N + 1, 3, none⟩ = some (.slice none 0 0) := hO.cell 3
      have hr5 := HR.out.chg hcw (show ¬ (N = N + 1 ∨ N + 2 ≤ N) by omega)
      have r0 : wr.cell? ⟨N, 0, none⟩ = some (.bool false) := hr5.cell 0
      have r1 : wr.cell? ⟨N, 1, none⟩ = some (.slice none 0 0) := hr5.cell 1
      have r2 : wr.cell? ⟨N, 2, none⟩ = some (.slice none 0 0) := hr5.cell 2
      have r3 : wr.cell? ⟨N, 3, none⟩ = some (.slice none 0 0) := hr5.cell 3
      have f0 := hr5.frozen 0
      have f1 := hr5.frozen 1
      have f2 := hr5.frozen 2
      have f3 := hr5.frozen 3
      have hr8 := (((hr5.set_ 0 (.bool true)).set_ 1 (.slice KA kn kc)).set_ 2 (.slice VA vn vc)).set_ 3 (.slice none 0 0)
      simp at hr8
      have hc8 : Chg (fun k => k = N) wr ((((wr.setCell ⟨N, 0, none⟩ (.bool true)).setCell ⟨N, 1, none⟩ (.slice KA kn kc)).setCell ⟨N, 2, none⟩ (.slice VA vn vc)).setCell ⟨N, 3, none⟩ (.slice none 0 0)) :=
        Chg.setCell (p := ⟨N, 3, none⟩) (Chg.setCell (p := ⟨N, 2, none⟩) (Chg.setCell (p := ⟨N, 1, none⟩) (Chg.setCell (p := ⟨N, 0, none⟩) (Chg.refl (fun k => k = N) wr) (fun _ => rfl) _) (fun _ => rfl) _) (fun _ => rfl) _) (fun _ => rfl) _
      have HR8 := hide hr8
      have HC8 := hide hc8
      have HT := hide hT
      have HW := hide hcw
      have hgt : ¬ i < i := Nat.lt_irrefl _
      clear hr5 hr8 hc8 hT hO hcw hi e1 hil
      go_wp2_with fail
      generalize World.setCell _ _ _ = w9 at HR8 HC8 ⊢
      have q0 := HR8.out.cell 0
      have q1 := HR8.out.cell 1
      have q2 := HR8.out.cell 2
      have q3 := HR8.out.cell 3
      simp at q0 q1 q2 q3
      have hNw := HNN.out
      have hrk := HT.out.k.rd.chg HC8.out (fun b hb e => by
        have e : b = N := e
        rcases hb.1 with h | h
        · rcases h.1 with h9 | h9
          · have := hHF b h9; omega
          · omega
        · have := HT.out.k.lt b h; omega)
      have hrv := HT.out.v.rd.chg HC8.out (fun b hb e => by
        have e : b = N := e
        rcases hb.1 with h | h
        · rcases h.1 with h9 | h9
          · have := hHF b h9; omega
          · omega
        · have := HT.out.v.lt b h; omega)
      refine bodyPost_ret (v := .agg #[.bool true, .slice KA kn kc, .slice VA vn vc, .slice none 0 0]) (by simp [results, Tryz.results37, go_sem, q0, q1, q2, q3]) rfl ⟨KA, kn, kc, VA, vn, vc, rfl, hrk.mono fun b hb => by
        rcases hb.1 with h | h
        · exact h.1.elim .inl fun h9 => .inr (by omega)
        · have := HT.out.k.lt b h; exact .inr (by omega), hrv.mono fun b hb => by
        rcases hb.1 with h | h
        · exact h.1.elim .inl fun h9 => .inr (by omega)
        · have := HT.out.v.lt b h; exact .inr (by omega), (HC02.out.trans HW.out fun b hb e => by omega).trans HC8.out fun b hb e => by have e : b = N := e; omega⟩
end Go.Proofs.YtfgecgmgbngeaaaGreat
