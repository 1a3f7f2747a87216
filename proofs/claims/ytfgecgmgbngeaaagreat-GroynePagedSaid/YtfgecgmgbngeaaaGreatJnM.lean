/- The walk of groynetop.joined: all leaves of a pool, joined. -/
import Derived.Test.YtfgecgmgbngeaaaGreatLaid
import Derived.Test.YtfgecgmgbngeaaaGreatLfF
set_option maxRecDepth 100000
namespace Go.Proofs.YtfgecgmgbngeaaaGreat
open Go.RowKit Go.Maps
set_option linter.unusedVariables false
set_option linter.unusedSimpArgs false

/-- Get on a drive that no death waits for -/
theorem plGetU {w : World} {TD TP G : Nat → Prop} {gd g hand bs bf ba : Nat} {pre : ByteArray} {S : DSt} {sl tab : Slots} {sf : List (Int × Int)} {at_ : Ats} {cl h1 h2 h3 : Int} {sv : Option (List UInt8 × (Nat → List UInt8))}
    (h : PoolM w TD TP G gd g pre hand S sl sf at_ bs bf ba cl h1 h2 h3) (hG : PG pre S sl sf at_ tab sv) {i : Nat} (hi : i ∈ sl.map (·.1)) (h1h : 1 ≤ hand) (hle : at_.length ≤ hand) (hhb : hand ≤ 1000000) (hq : S.queue.length ≤ 900000) (harm : S.arm = none) :
    Calls Tryz.prog 35 #[.pointer (some ⟨g, 0, none⟩), .int .i64 (i : Int)] w fun e w' => Chg (fun b => TD b ∨ TP b) w w' ∧ ∃ u, e = .returned (.tuple #[u, .int .i64 0]) ∧ OwnB w' w.heap.size u (cont ((S.seen (nf pre)).getD []) sl at_ i) ∧
      ∃ S' sl' at' TD' TP' G' cl' a1 a2 a3, PoolM w' TD' TP' G' gd g pre hand S' sl' sf at' bs bf ba cl' a1 a2 a3 ∧ PG pre S' sl' sf at' tab sv ∧ sl'.map (·.1) = sl.map (·.1) ∧ (∀ j, cont ((S'.seen (nf pre)).getD []) sl' at' j = cont ((S.seen (nf pre)).getD []) sl at_ j) ∧ S'.arm = none ∧
        S'.queue.length ≤ S.queue.length + 1 ∧ at'.length ≤ hand ∧ (∀ b, TD' b → Ext TD w w' b) ∧ ∀ b, TP' b → Ext TP w w' b := by
  obtain ⟨⟨i', s⟩, hs, hie⟩ := List.mem_map.1 hi
  have hie : i' = i := hie
  subst hie
  by_cases hf : ∃ f, (i', f) ∈ at_
  · obtain ⟨f, hf⟩ := hf
    refine (plGetA h hG hs hf).mono ?_
    rintro e w' ⟨hc, u, rfl, hu, G', cl', a1, hP⟩
    have hct : cont ((S.seen (nf pre)).getD []) sl at_ i' = f.data := by unfold cont; rw [hG.inv.at hf]
    exact ⟨hc, u, rfl, by rw [hct]; exact hu, S, sl, at_, TD, TP, G', cl', a1, h2, h3, hP, hG, rfl, fun _ => rfl, harm, by omega, hle, fun b hb => .inl hb, fun b hb => .inl hb⟩
  · have hno : ∀ p ∈ at_, p.1 ≠ i' := fun p hp e => hf ⟨p.2, by rw [← e]; exact hp⟩
    refine (plGetB h hG hs h1h hle hhb hq hno).mono ?_
    rintro e w' ⟨hc, ⟨_, harm', _⟩ | ⟨⟨u, rfl, hu⟩, S', sl', at', TD', TP', G', cl', a2, a3, hP, hG', e1, e2, e3, e4, e5, e6, e7⟩⟩
    · exact absurd harm harm'
    · have hct : cont ((S.seen (nf pre)).getD []) sl at_ i' = slotY ((S.seen (nf pre)).getD []) s := by unfold cont; rw [get_none keyI hno, hG.inv.slot hs]
      exact ⟨hc, u, rfl, by rw [hct]; exact hu, S', sl', at', TD', TP', G', cl', h1, a2, a3, hP, hG', e1, e2, e3 harm, e4, e5, e6, e7⟩

theorem flN_snoc (P : List (Value × Value)) (p : Value × Value) : flN (P ++ [p]) = flN P ++ [.bool true, p.1, p.2, .slice none 0 0] := by
  rw [flN, List.flatMap_append]; rfl
/-- append of one leaf, that stands in a literal's block -/
theorem append_N1 {w : World} {ops : Array Oper} {rest : List Oper} {o : Oper} {a : Act} {Q : Exit → Act → World → Prop} (hgd : o.guard = none) (s x : Operand)
    (ho : o.op = .call { callee := .builtin .append, args := #[s, x], argTypes := #[89, 89] })
    {base : Nat} {v : Value} {P : List (Value × Value)} {n : Nat} (hown : w.ownsRow base 65 4 v n (flN P)) (hv : a.eval s = v)
    {A B : Option Addr} {an ac bn bc : Nat} {g : Nat} (hg : Blk w g 65 #[.bool true, .slice A an ac, .slice B bn bc, .slice none 0 0]) (hy : a.eval x = .slice (some ⟨g, 0, none⟩) 1 1)
    (hb : n + 1 ≤ 1000000000000) (hbase : base ≤ w.heap.size)
    (h : ∀ v' w', w'.ownsRow base 65 4 v' (n + 1) (flN (P ++ [(.slice A an ac, .slice B bn bc)])) → w.grownBy w' v.ownBlock → (v'.ownBlock = v.ownBlock ∨ v'.ownBlock = some w.heap.size) → wpList Tryz.prog ops Q rest (a.put o.dst v') w') : wpList Tryz.prog ops Q (o :: rest) a w := by
  obtain ⟨i, hi, hz, h1, h2⟩ := info_parts info_N
  have hr : RdV w (fun _ => True) 4 (.slice (some ⟨g, 0, none⟩) 1 1) 1 [.bool true, .slice A an ac, .slice B bn bc, .slice none 0 0] := ⟨rfl, _, 1, rfl, Nat.le_refl _, by simp [maxLen], fun _ => ⟨_, rfl, trivial, fun j y hyj => by
    rw [add_none, hg.cell]
    match j, hyj with
    | 0, hyj => simpa using hyj
    | 1, hyj => simpa using hyj
    | 2, hyj => simpa using hyj
    | 3, hyj => simpa using hyj
    | j + 4, hyj => simp at hyj⟩⟩
  refine wpList_append_rd w hgd s x _ ho base 65 i _ 4 80 Tryz.underlying89 hi hz h1 h2 rfl (by omega) v hv _ _ hown _ _ hy _ _ hr (fun y hy => by simp at hy; rcases hy with rfl | rfl | rfl | rfl <;> rfl) (by simp only [maxLen]; omega) (by omega) hbase ?_
  intro v' w' hown' hgr _ hat
  refine h v' w' ?_ hgr hat
  rw [flN_snoc]
  exact hown'
theorem RdL.snoc {w : World} {G : Nat → Prop} {P : List (Value × Value)} {L : List (List KV)} (h : RdL w G P L) {p : Value × Value} {l : List KV} (hk : RdBB w G p.1 (ksL l)) (hv : RdBB w G p.2 (vsL l)) : RdL w G (P ++ [p]) (L ++ [l]) := by
  refine ⟨by simp [h.1], fun i q m hq hm => ?_⟩
  rw [List.getElem?_append] at hq hm
  by_cases hi : i < P.length
  · rw [if_pos hi] at hq
    rw [if_pos (by rw [← h.1]; exact hi)] at hm
    exact h.2 i q m hq hm
  · rw [if_neg hi] at hq
    rw [if_neg (by rw [← h.1]; exact hi)] at hm
    have e : i - P.length = 0 := by
      have := (List.getElem?_eq_some_iff.1 hq).1
      simp at this; omega
    rw [e] at hq
    rw [← h.1, e] at hm
    simp at hq hm
    subst hq
    subst hm
    exact ⟨hk, hv⟩
theorem RdL.mono {w : World} {G G' : Nat → Prop} {P : List (Value × Value)} {L : List (List KV)} (h : RdL w G P L) (hG : ∀ b, G b → G' b) : RdL w G' P L :=
  ⟨h.1, fun i p l hp hl => ⟨(h.2 i p l hp hl).1.mono hG, (h.2 i p l hp hl).2.mono hG⟩⟩
theorem RdL.nil_ (w : World) (G : Nat → Prop) : RdL w G [] [] := ⟨rfl, fun i p l hp => by simp at hp⟩
theorem ksLL_flat (L : List (List KV)) : ksLL L = ksL L.flatten := by unfold ksLL ksL; rw [List.map_flatten, List.flatMap]
theorem vsLL_flat (L : List (List KV)) : vsLL L = vsL L.flatten := by unfold vsLL vsL; rw [List.map_flatten, List.flatMap]
theorem len_flat {α : Type} : ∀ {L : List (List α)} {l : List α}, l ∈ L → l.length ≤ L.flatten.length
  | m :: L, l, h => by
    rw [List.flatten_cons, List.length_append]
    rcases List.mem_cons.1 h with rfl | h
    · omega
    · have := len_flat h; omega
end Go.Proofs.YtfgecgmgbngeaaaGreat

set_option maxRecDepth 100000
namespace Go.Proofs.YtfgecgmgbngeaaaGreat
open Go.RowKit Go.Maps
set_option linter.unusedVariables false
set_option linter.unusedSimpArgs false

theorem ownN_chg {w w' : World} {S : Nat → Prop} {base n : Nat} {v : Value} {xs : List Value} (h : w.ownsRow base 65 4 v n xs) (hc : Chg S w w') (hn : ∀ k, v.ownBlock = some k → ¬ S k) : w'.ownsRow base 65 4 v n xs := by
  refine ⟨h.1, ?_⟩
  rcases h.2 with hn' | ⟨g, cap, cur, rfl, hb, hg, rest⟩
  · exact .inl hn'
  · exact .inr ⟨g, cap, cur, rfl, hb, hc.heap hg (hn g rfl), rest⟩
set_option maxHeartbeats 16000000 in
theorem joinedW {w : World} {TD TP G : Nat → Prop} {gd g hand bs bf ba : Nat} {pre : ByteArray} {S : DSt} {sl tab : Slots} {sf : List (Int × Int)} {at_ : Ats} {cl h1 h2 h3 : Int} {sv : Option (List UInt8 × (Nat → List UInt8))}
    (h : PoolM w TD TP G gd g pre hand S sl sf at_ bs bf ba cl h1 h2 h3) (hG : PG pre S sl sf at_ tab sv) (h1h : 1 ≤ hand) (hle : at_.length ≤ hand) (hhb : hand ≤ 1000) (hq : S.queue.length ≤ 500000) (harm : S.arm = none)
    {L : List (List KV)} (hk : sl.map (·.1) = List.range L.length) (hct : ∀ (j : Nat) (x : List KV), L[j]? = some x → cont ((S.seen (nf pre)).getD []) sl at_ j = pageKV x) (hsz : ∀ x ∈ L, sizeKV x ≤ 512 ∧ GoodKV x) (hn : L.length ≤ 200) (hfl : L.flatten.length ≤ 120) :
    Calls Tryz.prog 14 #[.pointer (some ⟨g, 0, none⟩)] w fun e w' => ∃ (kA : Option Addr) (kn kc : Nat) (vA : Option Addr) (vn vc : Nat), e = .returned (.tuple #[.agg #[.bool true, .slice kA kn kc, .slice vA vn vc, .slice none 0 0], .bool true]) ∧
      RdBB w' (fun _ => True) (.slice kA kn kc) (ksL L.flatten) ∧ RdBB w' (fun _ => True) (.slice vA vn vc) (vsL L.flatten) ∧ Chg (fun b => TD b ∨ TP b) w w' := by
  have hTl := h.drv.lt'
  have hPl := h.lt
  have hb0 := Blk.new w 25 #[.bool false, .slice none 0 0, .slice none 0 0, .slice none 0 0]
  have hc0 := (Chg.refl Non w).alloc (.cells #[.bool false, .slice none 0 0, .slice none 0 0, .slice none 0 0] 25)
  have hn0 := sizeAl' w (.cells #[.bool false, .slice none 0 0, .slice none 0 0, .slice none 0 0] 25)
  have hids := plIds (h.c0 hc0) hG.inv.rs hG.inv.nS
  have hle' : (sl.map fun p => (p.1 : Int)) = (List.range L.length).map fun k : Nat => (k : Int) := by
    rw [← hk, List.map_map]; rfl
  obtain ⟨m, hm⟩ : ∃ m, m = L.length := ⟨_, rfl⟩
  rw [← hm] at hk hn hle'
  have HM := hide hm
  have HP := hide h
  have HG := hide hG
  have HK := hide hk
  have HLE := hide hle'
  have HL := hide (And.intro hTl hPl)
  have HCT := hide hct
  have HSZ := hide hsz
  clear hm h hG hk hle' hTl hPl hct hsz
  go_enter Tryz.func14, Tryz.ntmps14
  go_wp2_with fail
  refine hids.mono ?_
  rintro e w2 ⟨v, rfl, hv, hc2⟩
  rw [HLE.out] at hv
  obtain ⟨IA, ic, rfl, hic, hicm⟩ := hv.shape
  rw [List.length_map, List.length_range] at hv hic ⊢
  obtain ⟨N, hN⟩ : ∃ N, N = w.heap.size := ⟨_, rfl⟩
  have hb2 := hb0.c0 hc2
  have hc02 := hc0.trans0 hc2
  have n2 := hc2.size
  rw [hn0] at hv n2
  rw [← hN] at hb2 hv n2 ⊢
  have HB := hide hb2
  have HC02 := hide hc02
  have HV := hide hv
  have HN := hide hN
  have HP2 := hide (HP.out.c0 hc02)
  clear hids hb0 hc0 hn0 hc2 hb2 hc02 hv hN
  go_wp2_with fail
  go_loopw [4, 15] (fun av iv wr => ∃ (k : Nat) (S1 : DSt) (sl1 : Slots) (at1 : Ats) (TD1 TP1 G1 : Nat → Prop) (cl1 a1 a2 a3 : Int) (A : Option Addr) (n c : Nat) (P : List (Value × Value)), av = .slice A n c ∧ iv = .int .i64 (k : Int) ∧ k ≤ m ∧ PoolM wr TD1 TP1 G1 gd g pre hand S1 sl1 sf at1 bs bf ba cl1 a1 a2 a3 ∧
      Hid (PG pre S1 sl1 sf at1 tab sv ∧ sl1.map (·.1) = List.range m ∧ (∀ j, cont ((S1.seen (nf pre)).getD []) sl1 at1 j = cont ((S.seen (nf pre)).getD []) sl at_ j) ∧ S1.arm = none ∧ S1.queue.length ≤ S.queue.length + k ∧ at1.length ≤ hand) ∧ Hid ((∀ b, TD1 b → Ext TD w2 wr b) ∧ ∀ b, TP1 b → Ext TP w2 wr b) ∧
      Hid (n = k ∧ wr.ownsRow w2.heap.size 65 4 (.slice A n c) n (flN P) ∧ RdL wr (fun b => w2.heap.size ≤ b ∧ b < wr.heap.size ∧ ¬ (TD1 b ∨ TP1 b) ∧ (Value.slice A n c).ownBlock ≠ some b) P (L.take k) ∧ ∀ b, (Value.slice A n c).ownBlock = some b → ¬ (TD1 b ∨ TP1 b)) ∧ Chg (fun b => TD b ∨ TP b) w2 wr) (fun _ iv _ => m - (intOf iv).toNat)
  case atStart => exact ⟨0, S, sl, at_, TD, TP, G, cl, h1, h2, h3, none, 0, 0, [], rfl, rfl, Nat.zero_le _, HP2.out, hide ⟨HG.out, HK.out, fun _ => rfl, harm, Nat.le_refl _, hle⟩, hide ⟨fun b hb => .inl hb, fun b hb => .inl hb⟩, hide ⟨rfl, World.ownsRow_nil w2 _ _ 4, RdL.nil_ _ _, fun b e => by cases e⟩, Chg.refl _ _⟩
  case round =>
    obtain ⟨k, S1, sl1, at1, TD1, TP1, G1, cl1, a1, a2, a3, A, n, c, P, rfl, rfl, hkm, hP1, hG1, hT1, hR1, hcw⟩ := hrel
    have nr := hcw.size
    have HKM := hide hkm
    clear hkm
    by_cases hkl : k < m
    · have hkL : k < L.length := by have := HM.out; omega
      obtain ⟨x, hx⟩ : ∃ x, x = L[k] := ⟨_, rfl⟩
      have hxm : x ∈ L := by rw [hx]; exact List.getElem_mem hkL
      have hxs : L[k]? = some x := by rw [hx]; exact List.getElem?_eq_getElem hkL
      have hcx : cont ((S1.seen (nf pre)).getD []) sl1 at1 k = pageKV x := (hG1.out.2.2.1 k).trans (HCT.out k x hxs)
      have hget := plGetU hP1 hG1.out.1 (i := k) (by rw [hG1.out.2.1]; exact List.mem_range.2 hkl) h1h hG1.out.2.2.2.2.2 (by omega) (by have := hG1.out.2.2.2.2.1; omega) hG1.out.2.2.2.1
      rw [hcx] at hget
      have hIb : ∀ j, (Value.slice IA m ic).ownBlock = some j → ¬ (TD j ∨ TP j) := fun j hj e => by
        have h1 := (HV.out.lt j hj).1
        have h9 := HN.out
        rcases e with e | e
        · have := HL.out.1 j e; omega
        · have := HL.out.2 j e; omega
      have hiv : OwnI wr (N + 1) (.slice IA m ic) ((List.range m).map fun k : Nat => (k : Int)) := HV.out.chg hcw hIb
      obtain ⟨gi, ci, ei, hgi, hcell⟩ := hiv.at_ (k := k) (by rw [List.length_map, List.length_range]; exact hkl)
      rw [List.getElem_map, List.getElem_range] at hcell
      rw [List.length_map, List.length_range] at ei
      injection ei with ei1 _ ei2
      subst ei1
      subst ei2
      have HKL := hide hkl
      have HXM := hide (And.intro hxm (And.intro hxs hkL))
      have HCW := hide hcw
      have HP1 := hide hP1
      clear hx hxm hxs hcx hIb hiv hkL hcw hP1
      go_wp2_with fail
      refine hget.mono ?_
      rintro e w4 ⟨hc4, u, rfl, hu, S', sl', at', TD', TP', G', cl', b1, b2, b3, hP4, hG4, e1, e2, e3, e4, e5, e6, e7⟩
      have hdec := lfDecode hu.rd (HSZ.out x HXM.out.1).2 (HSZ.out x HXM.out.1).1
      have n4 := hc4.size
      have HP4 := hide hP4
      have HG4 := hide (show PG pre S' sl' sf at' tab sv ∧ sl'.map (·.1) = List.range m ∧ (∀ j, cont ((S'.seen (nf pre)).getD []) sl' at' j = cont ((S.seen (nf pre)).getD []) sl at_ j) ∧ S'.arm = none ∧ S'.queue.length ≤ S.queue.length + (k + 1) ∧ at'.length ≤ hand from ⟨hG4, e1.trans hG1.out.2.1, fun j => (e2 j).trans (hG1.out.2.2.1 j), e3, by have := hG1.out.2.2.2.2.1; omega, e5⟩)
      have HX4 := hide (And.intro e6 e7)
      have HC4 := hide hc4
      clear hget hu hP4 hG4 e1 e2 e3 e4 e5 e6 e7 hc4 hcell
      go_wp2_with fail
      refine hdec.mono ?_
      rintro e w5 ⟨kv, vv, rfl, hkv, hvv, hc5⟩
      obtain ⟨KA, kn, kc, rfl⟩ : ∃ A n c, kv = .slice A n c := by obtain ⟨A, c, e, _⟩ := hkv.shape; exact ⟨A, _, c, e⟩
      obtain ⟨VA, vn, vc, rfl⟩ : ∃ A n c, vv = .slice A n c := by obtain ⟨A, c, e, _⟩ := hvv.shape; exact ⟨A, _, c, e⟩
      have n5 := hc5.size
      have HKV := hide (And.intro hkv hvv)
      have HC5 := hide hc5
      clear hdec hkv hvv hc5
      go_upto_region 7 with fail
      have hb6 := Blk.new w5 65 #[.bool true, .slice KA kn kc, .slice VA vn vc, .slice none 0 0]
      have hc6 := (Chg.refl Non w5).alloc (.cells #[.bool true, .slice KA kn kc, .slice VA vn vc, .slice none 0 0] 65)
      have hn6 := sizeAl' w5 (.cells #[.bool true, .slice KA kn kc, .slice VA vn vc, .slice none 0 0] 65)
      obtain ⟨bx, hbx⟩ : ∃ bx, bx = w5.heap.size := ⟨_, rfl⟩
      rw [← hbx] at hb6 hn6 ⊢
      generalize World.alloc w5 _ = w6 at hb6 hc6 hn6 ⊢
      have y0 : w6.cell? ⟨bx, 0, none⟩ = some (.bool true) := hb6.cell 0
      have y1 : w6.cell? ⟨bx, 1, none⟩ = some (.slice KA kn kc) := hb6.cell 1
      have y2 : w6.cell? ⟨bx, 2, none⟩ = some (.slice VA vn vc) := hb6.cell 2
      have y3 : w6.cell? ⟨bx, 3, none⟩ = some (.slice none 0 0) := hb6.cell 3
      have hlit := Blk.new w6 65 #[.bool true, .slice KA kn kc, .slice VA vn vc, .slice none 0 0]
      have hc7 := (Chg.refl Non w6).alloc (.cells #[.bool true, .slice KA kn kc, .slice VA vn vc, .slice none 0 0] 65)
      have hn7 := sizeAl' w6 (.cells #[.bool true, .slice KA kn kc, .slice VA vn vc, .slice none 0 0] 65)
      have hc47 := (HC5.out.trans0 hc6).trans0 hc7
      have n47 := hc47.size
      have hrow := (ownN_chg (ownN_chg hR1.out.2.1 HC4.out hR1.out.2.2.2) hc47 fun _ _ h => h)
      have hn9 : n + 1 ≤ 1000000000000 := by have := hR1.out.1; omega
      have hbase := Nat.le_trans nr (Nat.le_trans n4 n47)
      have HC47 := hide hc47
      have hc67 := hc6
      have hc77 := hc7
      have HN7 := hide (And.intro hn6 (And.intro hn7 hbx))
      clear hb6 hc6 hn6 hbx hc7 hn7 hc47
      go_upto_region 10 with (at_builtin; refine append_N1 rfl _ _ rfl hrow rfl hlit rfl hn9 hbase ?_; intro v9 w9 hO9 hg9 hat9; obtain ⟨_, A9, c9, rfl, _, _, _⟩ := RdV.of_own hO9)
      have HC57 := hide (hc67.trans0 hc77)
      clear hlit hrow hn9 hbase y0 y1 y2 y3 hc67 hc77
      generalize World.alloc w6 _ = w7 at hg9 hat9 HC47 HC57 HN7 n47
      have hd9 : Chg (fun b => (Value.slice A n c).ownBlock = some b) w7 w9 := (Chg.of_grown hg9).mono fun b _ e => e.symm
      have n9 := hd9.size
      have how : ∀ b, (Value.slice A n c).ownBlock = some b → b < wr.heap.size ∧ ¬ (TD1 b ∨ TP1 b) := fun b e => ⟨(World.ownsRow.lt hR1.out.2.1 b e).2, hR1.out.2.2.2 b e⟩
      have hTn : ∀ b, (TD' b ∨ TP' b) → (TD1 b ∨ TP1 b) ∨ (wr.heap.size ≤ b ∧ b < w4.heap.size) := fun b hb => by
        rcases hb with hb | hb
        · rcases HX4.out.1 b hb with h | h
          · exact .inl (.inl h)
          · exact .inr h
        · rcases HX4.out.2 b hb with h | h
          · exact .inl (.inr h)
          · exact .inr h
      have hno : ∀ b, (TD' b ∨ TP' b) → ¬ (Value.slice A n c).ownBlock = some b := fun b hb e => by
        rcases hTn b hb with h | h
        · exact (how b e).2 h
        · have := (how b e).1; omega
      have hP9 := (HP4.out.c0 HC47.out).chg hd9 (fun b hb => hno b (.inl hb)) (fun b hb => hno b (.inr hb))
      have HT9 := hide (show (∀ b, TD' b → Ext TD w2 w9 b) ∧ ∀ b, TP' b → Ext TP w2 w9 b from ⟨fun b hb => by
        rcases HX4.out.1 b hb with h | h
        · exact (hT1.out.1 b h).up (by omega)
        · exact .inr (by omega), fun b hb => by
        rcases HX4.out.2 b hb with h | h
        · exact (hT1.out.2 b h).up (by omega)
        · exact .inr (by omega)⟩)
      have hnew : ∀ b, (Value.slice A9 (n + 1) c9).ownBlock = some b → (Value.slice A n c).ownBlock = some b ∨ b = w7.heap.size := fun b e => by
        rcases hat9 with h | h
        · exact .inl (h ▸ e)
        · rw [h] at e; injection e with e; exact .inr e.symm
      have s57 := HC57.out.size
      have hR9 : RdL w9 (fun b => w2.heap.size ≤ b ∧ b < w9.heap.size ∧ ¬ (TD' b ∨ TP' b) ∧ (Value.slice A9 (n + 1) c9).ownBlock ≠ some b) (P ++ [(.slice KA kn kc, .slice VA vn vc)]) (L.take (k + 1)) := by
        rw [List.take_add_one, HXM.out.2.1]
        refine RdL.snoc ?_ ?_ ?_
        · refine (((hR1.out.2.2.1.chg HC4.out fun b hb => hb.2.2.1).chg HC47.out fun _ _ h => h).chg hd9 fun b hb e => hb.2.2.2 e).mono fun b hb => ⟨hb.1, by omega, fun e => ?_, fun e => ?_⟩
          · rcases hTn b e with h | h
            · exact hb.2.2.1 h
            · omega
          · rcases hnew b e with h | h
            · exact hb.2.2.2 h
            · omega
        · refine ((HKV.out.1.c0 HC57.out).chg hd9 fun b hb e => by have := (how b e).1; omega).mono fun b hb => ⟨by omega, by omega, fun e => ?_, fun e => ?_⟩
          · have h8 := HP4.out.drv.lt' b
            have h9 := HP4.out.lt b
            rcases e with e | e
            · have := h8 e; omega
            · have := h9 e; omega
          · rcases hnew b e with h | h
            · have := (how b h).1; omega
            · omega
        · refine ((HKV.out.2.c0 HC57.out).chg hd9 fun b hb e => by have := (how b e).1; omega).mono fun b hb => ⟨by omega, by omega, fun e => ?_, fun e => ?_⟩
          · have h8 := HP4.out.drv.lt' b
            have h9 := HP4.out.lt b
            rcases e with e | e
            · have := h8 e; omega
            · have := h9 e; omega
          · rcases hnew b e with h | h
            · have := (how b h).1; omega
            · omega
      have HR9 := hide (And.intro (show n + 1 = k + 1 by rw [hR1.out.1]) (And.intro hO9 (And.intro hR9 (show ∀ b, (Value.slice A9 (n + 1) c9).ownBlock = some b → ¬ (TD' b ∨ TP' b) from fun b e e2 => by
        rcases hnew b e with h | h
        · exact hno b e2 h
        · have h8 := HP4.out.drv.lt' b
          have h9 := HP4.out.lt b
          rcases e2 with e2 | e2
          · have := h8 e2; omega
          · have := h9 e2; omega))))
      have HC9 := hide (((HCW.out.trans HC4.out fun b hb e => by
        rcases e with e | e
        · rcases hT1.out.1 b e with h | h
          · exact .inl h
          · omega
        · rcases hT1.out.2 b e with h | h
          · exact .inr h
          · omega).trans0 HC47.out).trans hd9 fun b hb e => by have := (World.ownsRow.lt hR1.out.2.1 b e).1; omega)
      have HP9 := hide hP9
      clear hO9 hg9 hat9 hd9 how hTn hno hP9 hnew hR9
      go_wp2_with fail
      go_roundw
      case rel => exact ⟨k + 1, S', sl', at', TD', TP', G', cl', b1, b2, b3, A9, n + 1, c9, P ++ [(.slice KA kn kc, .slice VA vn vc)], rfl, by go_num, HKL.out, HP9.out, HG4, HT9, HR9, HC9.out⟩
      case measure => (have := HKL.out; simp [intOf]; omega)
    · have hkk : k = m := by have := HKM.out; omega
      subst hkk
      have hgt : ¬ k < k := Nat.lt_irrefl _
      have htk : L.take k = L := by rw [HM.out]; exact List.take_length
      have hR := hR1.out
      rw [htk] at hR
      have hnP : n = P.length := by rw [hR.2.2.1.1, hR.1]; exact HM.out
      have hown := fun b e => World.ownsRow.lt hR.2.1 b e
      have hkf : (ksLL L).length ≤ 1000000 := by rw [ksLL_flat, ksL_length]; omega
      have hvf : (vsLL L).length ≤ 1000000 := by rw [vsLL_flat, vsL_length]; omega
      have hjn := lfJoin (F := fun b => w2.heap.size ≤ b ∧ b < wr.heap.size) ((RdV.of_own hR.2.1).mono fun b e => hown b e) hnP (hR.2.2.1.mono fun b hb => ⟨hb.1, hb.2.1⟩) (fun b hb => hb.2) (fun l hl => lim_kv (HSZ.out l hl).2 (Nat.le_trans (len_flat hl) hfl)) hkf hvf (by have := hR.1; omega)
      rw [ksLL_flat, vsLL_flat] at hjn
      have hbr := HB.out.chg hcw (fun e => by
        have hNw := HN.out
        rcases e with e | e
        · have := HL.out.1 _ e; omega
        · have := HL.out.2 _ e; omega)
      have HBR := hide hbr
      have HCW := hide hcw
      clear htk hR hnP hown hkf hvf hbr hcw hgt
      have hgt : ¬ k < k := Nat.lt_irrefl _
      go_wp2_with fail
      refine hjn.mono ?_
      rintro e w4 ⟨kA, kn, kc, vA, vn, vc, rfl, hrk, hrv, hc4⟩
      have hb5 := Blk.new w4 65 #[.bool true, .slice kA kn kc, .slice vA vn vc, .slice none 0 0]
      have hc5 := (Chg.refl Non w4).alloc (.cells #[.bool true, .slice kA kn kc, .slice vA vn vc, .slice none 0 0] 65)
      have hn5 := sizeAl' w4 (.cells #[.bool true, .slice kA kn kc, .slice vA vn vc, .slice none 0 0] 65)
      have n4 := hc4.size
      have hc45 := hc4.trans0 hc5
      have hb05 := HBR.out.c0 hc45
      have hrk5 := hrk.c0 hc5
      have hrv5 := hrv.c0 hc5
      have f0 := hb05.frozen 0
      have f1 := hb05.frozen 1
      have f2 := hb05.frozen 2
      have f3 := hb05.frozen 3
      have q0 : (w4.alloc (.cells #[.bool true, .slice kA kn kc, .slice vA vn vc, .slice none 0 0] 65)).cell? ⟨w4.heap.size, 1, none⟩ = some (.slice kA kn kc) := hb5.cell 1
      have q1 : (w4.alloc (.cells #[.bool true, .slice kA kn kc, .slice vA vn vc, .slice none 0 0] 65)).cell? ⟨w4.heap.size, 2, none⟩ = some (.slice vA vn vc) := hb5.cell 2
      have HRD := hide (And.intro hrk5 hrv5)
      have HC45 := hide hc45
      have HB05 := hide hb05
      clear hjn hrk hrv hc4 hc45 hb05 hrk5 hrv5 hb5
      go_upto_region 12 with fail
      generalize World.alloc w4 _ = w5 at HRD HC45 HB05 f0 f1 f2 f3 q0 q1 hn5 hc5 ⊢
      have hr8 := (((HB05.out.set_ 0 (.bool true)).set_ 1 (.slice kA kn kc)).set_ 2 (.slice vA vn vc)).set_ 3 (.slice none 0 0)
      simp at hr8
      have hc8 : Chg (fun k => k = N) w5 ((((w5.setCell ⟨N, 0, none⟩ (.bool true)).setCell ⟨N, 1, none⟩ (.slice kA kn kc)).setCell ⟨N, 2, none⟩ (.slice vA vn vc)).setCell ⟨N, 3, none⟩ (.slice none 0 0)) :=
        Chg.setCell (p := ⟨N, 3, none⟩) (Chg.setCell (p := ⟨N, 2, none⟩) (Chg.setCell (p := ⟨N, 1, none⟩) (Chg.setCell (p := ⟨N, 0, none⟩) (Chg.refl (fun k => k = N) w5) (fun _ => rfl) _) (fun _ => rfl) _) (fun _ => rfl) _) (fun _ => rfl) _
      have HR8 := hide hr8
      have HC8 := hide hc8
      have x0 : w5.cell? ⟨N, 0, none⟩ = some (.bool false) := HB05.out.cell 0
      have x1 : w5.cell? ⟨N, 1, none⟩ = some (.slice none 0 0) := HB05.out.cell 1
      have x2 : w5.cell? ⟨N, 2, none⟩ = some (.slice none 0 0) := HB05.out.cell 2
      have x3 : w5.cell? ⟨N, 3, none⟩ = some (.slice none 0 0) := HB05.out.cell 3
      clear hr8 hc8
      go_wp2_with fail
      generalize World.setCell _ _ _ = w9 at HR8 HC8 ⊢
      have p0 := HR8.out.cell 0
      have p1 := HR8.out.cell 1
      have p2 := HR8.out.cell 2
      have p3 := HR8.out.cell 3
      simp at p0 p1 p2 p3
      have hNw := HN.out
      have hrk := HRD.out.1.chg HC8.out (fun b hb e => by have e : b = N := e; omega)
      have hrv := HRD.out.2.chg HC8.out (fun b hb e => by have e : b = N := e; omega)
      refine bodyPost_ret (v := .tuple #[.agg #[.bool true, .slice kA kn kc, .slice vA vn vc, .slice none 0 0], .bool true]) (by simp [results, Tryz.results14, go_sem, p0, p1, p2, p3]) rfl ⟨kA, kn, kc, vA, vn, vc, rfl, hrk.mono fun _ _ => trivial, hrv.mono fun _ _ => trivial, (((HC02.out.mono (S' := fun b => TD b ∨ TP b) fun _ _ h => h.elim).trans HCW.out fun _ _ h => h).trans0 HC45.out).trans HC8.out fun b hb e => by have e : b = N := e; omega⟩
end Go.Proofs.YtfgecgmgbngeaaaGreat
