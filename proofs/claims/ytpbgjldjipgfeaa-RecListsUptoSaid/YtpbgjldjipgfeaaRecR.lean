/- The walks of rec's reader: triples. -/
import Derived.Test.YtpbgjldjipgfeaaRecQ
import Derived.Test.YtpbgjldjipgfeaaRecF
namespace Go.Proofs.Ytpbgjldjipgfeaa
open Go.RowKit
set_option linter.unusedVariables false

/-- values that own their bytes, no two in one block -/
def OwnPs (w : World) (base : Nat) (ps : List (Value × List UInt8)) : Prop := (∀ p ∈ ps, OwnB w base p.1 p.2) ∧ ps.Pairwise fun p q => Dsj p.1 q.1
section
variable {w w' : World} {base : Nat} {ps qs : List (Value × List UInt8)} {S : Nat → Prop}
theorem OwnPs.nil_ (w : World) (base : Nat) : OwnPs w base [] := ⟨fun p h => by simp at h, .nil⟩
theorem OwnPs.sub (h : OwnPs w base ps) (hs : qs.Sublist ps) : OwnPs w base qs := ⟨fun p hp => h.1 p (hs.subset hp), h.2.sublist hs⟩
theorem OwnPs.chg (h : OwnPs w base ps) (hc : Chg S w w') (hS : ∀ k, base ≤ k → k < w.heap.size → ¬ S k) : OwnPs w' base ps :=
  ⟨fun p hp => (h.1 p hp).chg hc fun k hk => hS k ((h.1 p hp).lt k hk).1 ((h.1 p hp).lt k hk).2, h.2⟩
theorem OwnPs.chg' (h : OwnPs w base ps) (hc : Chg S w w') (hS : ∀ p ∈ ps, ∀ k, p.1.ownBlock = some k → ¬ S k) : OwnPs w' base ps :=
  ⟨fun p hp => (h.1 p hp).chg hc fun k hk => hS p hp k hk, h.2⟩
theorem OwnPs.c0 (h : OwnPs w base ps) (hc : Chg Non w w') : OwnPs w' base ps := h.chg hc fun _ _ _ h => h
theorem OwnPs.low (h : OwnPs w base ps) {b : Nat} (hb : b ≤ base) : OwnPs w b ps := ⟨fun p hp => (h.1 p hp).low hb, h.2⟩
theorem OwnPs.app {b1 b2 m : Nat} (h : OwnPs w b1 ps) (h' : OwnPs w b2 qs) (hlt : ∀ p ∈ ps, ∀ k, p.1.ownBlock = some k → k < m) (hge : m ≤ b2) (hb : base ≤ b1) (hb2 : base ≤ b2) : OwnPs w base (ps ++ qs) := by
  refine ⟨fun p hp => ?_, List.pairwise_append.2 ⟨h.2, h'.2, fun p hp q hq k hk e => ?_⟩⟩
  · rcases List.mem_append.1 hp with hp | hp
    · exact (h.1 p hp).low hb
    · exact (h'.1 p hp).low hb2
  · have h1 := hlt p hp k hk
    have h2 := ((h'.1 q hq).lt k e).1
    omega
theorem OwnPs.lt (h : OwnPs w base ps) : ∀ p ∈ ps, ∀ k, p.1.ownBlock = some k → k < w.heap.size := fun p hp k hk => ((h.1 p hp).lt k hk).2
theorem OwnPs.perm (h : OwnPs w base ps) (hp : ps.Perm qs) : OwnPs w base qs := ⟨fun p hq => h.1 p (hp.mem_iff.2 hq), hp.pairwise h.2 fun h => h.symm⟩
/-- what Split hands back, in these words -/
theorem OwnsBB.psOf {v : Value} {ll : List (List UInt8)} (h : OwnsBB w base v ll) : ∃ vs : List Value, vs.length = ll.length ∧ w.ownsRow base 28 1 v ll.length vs ∧ OwnPs w base (vs.zip ll) := by
  obtain ⟨vs, h1, h2, h3, h4⟩ := h
  refine ⟨vs, h1, h2, fun p hp => ?_, ?_⟩
  · obtain ⟨k, hk, rfl⟩ := List.mem_iff_getElem.1 hp
    rw [List.length_zip] at hk
    rw [List.getElem_zip]
    exact h4 k _ _ (List.getElem?_eq_getElem (by omega)) (List.getElem?_eq_getElem (by omega))
  · refine List.pairwise_iff_getElem.2 fun i j hi hj hij k hk e => ?_
    rw [List.length_zip] at hi hj
    rw [List.getElem_zip] at hk e
    exact h3.1 i j _ _ k hij (List.getElem?_eq_getElem (by omega)) (List.getElem?_eq_getElem (by omega)) hk e
end
/-- the pieces of a list of writes -/
def pcW (xs : List (Value × Value)) (l : List WrS) : List (Value × List UInt8) := (xs.zip l).flatMap fun p => [(p.1.1, p.2.a), (p.1.2, p.2.b)]
theorem pcW_snoc (xs : List (Value × Value)) (l : List WrS) (x : Value × Value) (y : WrS) (h : xs.length = l.length) : pcW (xs ++ [x]) (l ++ [y]) = pcW xs l ++ [(x.1, y.a), (x.2, y.b)] := by
  rw [pcW, List.zip_append h, List.flatMap_append]; rfl
theorem triL_cons (y : WrS) (l : List WrS) : triL (y :: l) = flB y.f :: y.a :: y.b :: triL l := rfl
theorem fits_triL {l : List WrS} (h : triW l ≤ 1048576) (hn : l.length ≤ 1048576) : Fits (triL l) := by
  refine ⟨by rw [triL_len]; omega, fun x hx => ?_⟩
  obtain ⟨w, hw, hx⟩ := List.mem_flatMap.1 hx
  have hle : w.a.length + w.b.length + 1 ≤ triW l := by
    have gen : ∀ l : List WrS, w ∈ l → w.a.length + w.b.length + 1 ≤ (l.map fun w => w.a.length + w.b.length + 1).sum := by
      intro l hw
      induction l with
      | nil => simp at hw
      | cons a l ih =>
        simp only [List.map_cons, List.sum_cons]
        rcases List.mem_cons.1 hw with rfl | hw
        · omega
        · have := ih hw; omega
    exact gen l hw
  simp at hx
  rcases hx with rfl | rfl | rfl
  · rw [flB_len]; omega
  · omega
  · omega
/-- how many parts a reader still has -/
def leftN (w : World) (g : Nat) : Nat := match w.cell? ⟨g, 0, none⟩ with | some (.slice _ n _) => n | _ => 0
theorem RdOk.left {w : World} {F : Nat → Prop} {g : Nat} {vs : List Value} (h : RdOk w F g vs) : leftN w g = vs.length := by
  obtain ⟨v, h1, h2, h3⟩ := h
  obtain ⟨A, c, rfl, _, _⟩ := h2.shape
  have := h1.cell 0
  simp at this
  rw [leftN, this]
theorem hmf : ∀ (fn : Fn) (first cap : Array Value) (w : World), (Instr.makeFunc fn first cap).run Try.prog w = .ok (.func fn first cap) w := fun _ _ _ _ => rfl

set_option maxHeartbeats 8000000 in
set_option maxRecDepth 100000 in
theorem recTriW {w : World} {F G : Nat → Prop} {g t o : Nat} {ty : TypeId} {p : Value} {vs : List Value} {l : List WrS} {c0 c1 c2 c3 c5 c6 c7 c8 c9 c10 : Value} (h : RdOk w F g (p :: vs)) (hr : RdB w G p (triB l)) (hG : ¬ G g) (hl : vs.length ≤ 1000000000000)
    (hw : triW l ≤ 1048576) (hn : l.length ≤ 1048576) (hFw : ∀ k, F k → k < w.heap.size ∧ k ≠ o)
    (ht : Blk w t ty #[.pointer (some ⟨o, 0, none⟩)]) (ho : Blk w o 32 #[c0, c1, c2, c3, .slice none 0 0, c5, c6, c7, c8, c9, c10]) (hog : o ≠ g) (htg : t ≠ g) (hto : t ≠ o) :
    Calls Try.prog 53 #[.pointer (some ⟨g, 0, none⟩), .func (.func 54) #[] #[.pointer (some ⟨t, 0, none⟩)]] w fun e w' => e = .returned (.tuple #[]) ∧ ∃ v' xs, xs.length = l.length ∧
      Blk w' o 32 #[c0, c1, c2, c3, v', c5, c6, c7, c8, c9, c10] ∧ w'.ownsRow w.heap.size 49 3 v' l.length (flW xs l) ∧ OwnPs w' w.heap.size (pcW xs l) ∧ RdOk w' F g vs ∧ Chg (fun k => k = g ∨ k = o) w w' := by
  have hg := h.blk
  have hol := ho.lt
  have htl := ht.lt
  have hnext := recNext h hr.sl hl
  have htb := triB_len l
  have hsp : splitB (triB l) = (triL l, 0) := splitB_join _ (fits_triL hw hn)
  have hlen3 := triL_len l
  go_enter Try.func53, Try.ntmps53
  go_wp2_with fail
  refine hnext.mono ?_
  rintro e w1 ⟨rfl, hk1, hc1⟩
  have hr1 := hr.chg hc1 fun k hk (e : k = g) => hG (e ▸ hk)
  have ht1 := ht.chg hc1 htg
  have ho1 := ho.chg hc1 hog
  have hs1 := hc1.size
  clear h hr ht ho hnext
  have hk1' := hk1
  obtain ⟨v1, hb1, hv1, hF1⟩ := hk1'
  have a1 := hb1.cell 1
  simp at a1
  go_upto_region 3 with fail
  have hB2 := Blk.new w1 78 #[.slice none 0 0, .int .i64 0]
  have hc2 := (Chg.refl Non w1).alloc (.cells #[.slice none 0 0, .int .i64 0] 78)
  have hr2 := hr1.c0 hc2
  have ht2 := ht1.c0 hc2
  have ho2 := ho1.c0 hc2
  have hk2 := hk1.c0 hc2
  have hg2s : (w1.alloc (.cells #[.slice none 0 0, .int .i64 0] 78)).heap.size = w1.heap.size + 1 := by simp
  obtain ⟨g2, hg2⟩ : ∃ g2, g2 = w1.heap.size := ⟨_, rfl⟩
  rw [← hg2] at hB2 hg2s ⊢
  have hg2l : w.heap.size ≤ g2 := by omega
  clear hr1 ht1 ho1 hk1 hb1 hv1 a1 hg2
  generalize World.alloc _ _ = w2 at hB2 hc2 hr2 ht2 ho2 hk2 hg2s ⊢
  have hspl := packSplit hr2 (by omega)
  rw [hsp] at hspl
  clear hr2
  go_upto_region 4 with (go_at_call 35; refine hspl.mono ?_; rintro e w3 ⟨u3, rfl, hO3, hc3⟩; obtain ⟨U3, m3, rfl, hm3, hmm3⟩ := hO3.shape; have f0 := (hB2.c0 hc3).frozen 0; have f1 := (hB2.c0 hc3).frozen 1; have z0 : w3.cell? ⟨g2, 0, none⟩ = some (.slice none 0 0) := (hB2.c0 hc3).cell 0; have z1 : w3.cell? ⟨g2, 1, none⟩ = some (.int .i64 0) := (hB2.c0 hc3).cell 1)
  have hs3 := hc3.size
  have hB5 := ((hB2.c0 hc3).set_ 0 (.slice U3 (triL l).length m3)).set_ 1 (.int .i64 0)
  simp only [List.setIfInBounds_toArray, List.set_cons_succ, List.set_cons_zero] at hB5
  have hc5 : Chg (fun k => k = g2) w3 ((w3.setCell ⟨g2, 0, none⟩ (.slice U3 (triL l).length m3)).setCell ⟨g2, 1, none⟩ (.int .i64 0)) := ((Chg.refl (fun k => k = g2) w3).setCell (p := ⟨g2, 0, none⟩) (fun _ => rfl) _).setCell (p := ⟨g2, 1, none⟩) (fun _ => rfl) _
  obtain ⟨rs0, hrl, hrow, hps⟩ := hO3.psOf
  rw [hlen3] at hB5 hc5 hrow
  have hrl3 : rs0.length = 3 * l.length := by rw [hrl, hlen3]
  generalize World.setCell _ _ _ = w5 at hB5 hc5 ⊢
  have hs5 := hc5.size
  have hrow5 : RdV w5 (fun b => g2 < b ∧ b < w3.heap.size) 1 (.slice U3 (3 * l.length) m3) rs0.length rs0 := by
    have h := RdV.of_own hrow
    rw [hrl3]
    refine (h.mono (F' := fun b => g2 < b ∧ b < w3.heap.size) fun k hk => ?_).chg hc5 fun k (hk : g2 < k ∧ k < w3.heap.size) (e : k = g2) => by omega
    have := World.ownsRow.lt hrow k hk
    omega
  have hps5 := hps.chg hc5 fun k hk _ e => by subst e; omega
  have hpl5 : ∀ p ∈ rs0.zip (triL l), ∀ k, p.1.ownBlock = some k → k < w3.heap.size := hps.lt
  have hRd5 : RdOk w5 (fun b => g2 < b ∧ b < w3.heap.size) g2 rs0 := ⟨_, hB5, hrow5, fun h => Nat.lt_irrefl _ h.1⟩
  have ht5 := (ht2.c0 hc3).chg hc5 (by omega)
  have ho5 := (ho2.c0 hc3).chg hc5 (by omega)
  have hk5 := (hk2.c0 hc3).chg hc5 (by omega) fun k hk e => by have := hFw k hk; omega
  have hct : Chg (fun k => k = g ∨ k = o) w w5 := ((hc1.mono (S' := fun k => k = g ∨ k = o) fun _ _ h => .inl h).trans0 (hc2.trans0 hc3)).trans hc5 fun k hk e => by omega
  have b0 := hB5.cell 0
  have b1 := hB5.cell 1
  simp at b0 b1
  clear hspl hO3 f0 f1 z0 z1 hB2 hps hrow hrow5 hk2 ht2 ho2 hsp htb hlen3 hrl
  have hmod : ((((3 * l.length : Nat) : Int)).tmod 3 != 0) = false := by
    have : (((3 * l.length : Nat) : Int)).tmod 3 = 0 := by rw [Int.natCast_mul]; exact Int.mul_tmod_right 3 _
    rw [this]; rfl
  go_wp2_with fail
  have hw2 : w.heap.size ≤ w2.heap.size := by omega
  go_loopw [] (fun wr => ∃ (l1 l2 : List WrS) (xs : List (Value × Value)) (rs : List Value) (wv : Value), Hid (l = l1 ++ l2) ∧ xs.length = l1.length ∧ rs.length = 3 * l2.length ∧ RdOk wr (fun b => g2 < b ∧ b < w3.heap.size) g2 rs ∧
    Blk wr o 32 #[c0, c1, c2, c3, wv, c5, c6, c7, c8, c9, c10] ∧ wr.ownsRow w.heap.size 49 3 wv l1.length (flW xs l1) ∧ (∀ k, wv.ownBlock = some k → w3.heap.size ≤ k) ∧
    OwnPs wr w2.heap.size (pcW xs l1 ++ rs.zip (triL l2)) ∧ (∀ p ∈ pcW xs l1 ++ rs.zip (triL l2), ∀ k, p.1.ownBlock = some k → k < w3.heap.size) ∧
    Blk wr t ty #[.pointer (some ⟨o, 0, none⟩)] ∧ RdOk wr F g vs ∧ Chg (fun k => k = g ∨ k = o) w wr ∧ w3.heap.size ≤ wr.heap.size) (fun wr => leftN wr g2)
  case atStart => exact ⟨[], l, [], rs0, _, hide rfl, rfl, hrl3, hRd5, ho5, World.ownsRow_nil _ _ _ 3, fun k hk => by simp [Value.ownBlock] at hk, hps5, hpl5, ht5, hk5, hct, hs5⟩
  case round =>
    clear hps5 hpl5 ht5 ho5 hk5 hct hB5 hRd5 b0 b1 hmod hc5
    obtain ⟨l1, l2, xs, rs, wv, HL, hxl, hrsl, hRd, ho, hrow, hwv, hP, hPl, ht, hk, hct, hsr⟩ := hrel
    have hleft := hRd.left
    have hRd' := hRd
    obtain ⟨v2, hb2, hv2, _⟩ := hRd'
    obtain ⟨V, d, rfl, hd, hdm⟩ := hv2.shape
    have b0 := hb2.cell 0
    have b1 := hb2.cell 1
    simp at b0 b1
    clear hv2 hb2
    rcases l2 with _ | ⟨y, l2⟩
    · have hr0 : rs = [] := List.eq_nil_of_length_eq_zero (by simpa using hrsl)
      subst hr0
      have HL' := hide (show l1 = l by have := HL.out; simpa using this.symm)
      rw [HL'.out] at hxl hrow hP
      have hk' := hk
      obtain ⟨v7, hb7, hv7, hF7⟩ := hk'
      have d1 := hb7.cell 1
      have e1 := hb7.frozen 1
      simp at d1
      have hb8 := hb7.set_ 1 (.int .i64 0)
      simp only [List.setIfInBounds_toArray, List.set_cons_succ, List.set_cons_zero] at hb8
      have hc8 : Chg (fun k => k = g) wr (wr.setCell ⟨g, 1, none⟩ (.int .i64 0)) := (Chg.refl (fun k => k = g) wr).setCell (p := ⟨g, 1, none⟩) (fun _ => rfl) _
      have hlen1 : decide ((0 : Int) < (0 : Int)) = false := rfl
      have ho8 := ho.chg hc8 hog
      have hrow8 := row_chg hrow hc8 fun k hk e => by have := hwv k hk; omega
      have hP8 := (hP.sub (List.sublist_append_left _ _)).chg hc8 fun k hk _ e => by omega
      have hk8 : RdOk (wr.setCell ⟨g, 1, none⟩ (.int .i64 0)) F g vs := ⟨v7, hb8, hv7.chg hc8 fun k hk e => hF7 (e ▸ hk), hF7⟩
      have hct8 : Chg (fun k => k = g ∨ k = o) w (wr.setCell ⟨g, 1, none⟩ (.int .i64 0)) := hct.trans hc8 fun k hk e => .inl e
      have HO8 := hide ho8
      have HR8 := hide hrow8
      have HP8 := hide hP8
      have HK8 := hide hk8
      have HC8 := hide hct8
      clear ho8 hrow8 hP8 hk8 hct8 hc8 hb8 hb7 hv7 ho hrow hP hk hct hRd hleft ht hPl
      go_wp2_with fail
      exact bodyPost_end (results_none rfl _ _ _) rfl ⟨rfl, wv, xs, hxl, HO8.out, HR8.out, HP8.out.low hw2, HK8.out, HC8.out⟩
    · obtain ⟨f, a, b, rs, rfl⟩ : ∃ f a b rs', rs = f :: a :: b :: rs' := by
        match rs, hrsl with
        | [], h => simp at h
        | [x], h => simp at h; omega
        | [x, y], h => simp at h; omega
        | f :: a :: b :: rs', _ => exact ⟨f, a, b, rs', rfl⟩
      have hll : l1.length + (l2.length + 1) ≤ 1048576 := by
        have := congrArg List.length HL.out
        simp only [List.length_append, List.length_cons] at this
        omega
      have hrs' : rs.length = 3 * l2.length := by simp at hrsl; omega
      rw [triL_cons] at hP hPl
      simp only [List.zip_cons_cons] at hP hPl
      have of : OwnB wr w2.heap.size f (flB y.f) := hP.1 (f, flB y.f) (by simp)
      have oa : OwnB wr w2.heap.size a y.a := hP.1 (a, y.a) (by simp)
      have ob : OwnB wr w2.heap.size b y.b := hP.1 (b, y.b) (by simp)
      have hP' := hP.sub (qs := pcW xs l1 ++ (a, y.a) :: (b, y.b) :: rs.zip (triL l2)) (List.Sublist.append (List.Sublist.refl _) (List.sublist_cons_self _ _))
      have hPl' : ∀ p ∈ pcW xs l1 ++ (a, y.a) :: (b, y.b) :: rs.zip (triL l2), ∀ k, p.1.ownBlock = some k → k < w3.heap.size := fun p hp => hPl p (by
        rcases List.mem_append.1 hp with h | h
        · exact List.mem_append_left _ h
        · exact List.mem_append_right _ (List.mem_cons_of_mem _ h))
      have htr := recTruthR hRd of.rd (fun e => by have := (of.lt _ e).1; omega) (by simp; omega)
      have hlen2 : (0 : Int) < (((f :: a :: b :: rs).length : Nat) : Int) := by simp; omega
      have hlen1 : decide ((0 : Int) < (((f :: a :: b :: rs).length : Nat) : Int)) = true := decide_eq_true hlen2
      have HLEFT := hide hleft
      obtain ⟨sa1, sa2, sa3, rfl⟩ := oa.sl
      obtain ⟨sb1, sb2, sb3, rfl⟩ := ob.sl
      clear of hP hPl hleft
      go_wp2_with fail
      refine htr.mono ?_
      rintro e w6 ⟨rfl, hRd6, hc6⟩
      have hn6 := recNext hRd6 ⟨_, _, _, rfl⟩ (by simp; omega)
      clear htr hlen1 hlen2 b0 b1
      go_wp2_with fail
      refine hn6.mono ?_
      rintro e w7 ⟨rfl, hRd7, hc7⟩
      have hn7 := recNext hRd7 ⟨_, _, _, rfl⟩ (by omega)
      clear hn6
      go_wp2_with fail
      refine hn7.mono ?_
      rintro e w8 ⟨rfl, hRd8, hc8⟩
      have hc68 : Chg (fun k => k = g2) wr w8 := (hc6.trans hc7 fun _ _ h => h).trans hc8 fun _ _ h => h
      have hs8 := hc68.size
      have ho8 := ho.chg hc68 (by omega)
      have ht8 := ht.chg hc68 (by omega)
      have hk8 := hk.chg hc68 (by omega) fun k hk e => by have := hFw k hk; omega
      have hrow8 := row_chg hrow hc68 fun k hk e => by have := hwv k hk; omega
      have hP8 := hP'.chg hc68 fun k hk _ e => by omega
      have htake := recTakeW (a := .slice sa1 sa2 sa3) (b := .slice sb1 sb2 sb3) (f := y.f) ht8 ho8 hrow8 ⟨_, _, _, rfl⟩ ⟨_, _, _, rfl⟩ (by omega) (by omega) hol (fun e => by have := hwv t e.symm; omega)
      clear hn7 hRd6 hRd7 hc6 hc7 hc8 ho ht hk hrow hP' oa ob hRd
      go_wp2_with fail
      refine htake.mono ?_
      rintro e w9 ⟨rfl, v9, ho9, hrow9, hc9, hv9⟩
      clear htake
      have hs9 := hc9.size
      have hRd9 := hRd8.chg hc9 (by rintro (e | e) <;> first | omega | (have := hwv g2 e.symm; omega)) fun k hk => by rintro (e | e) <;> first | omega | (have := hwv k e.symm; omega)
      have hP9 := hP8.chg' hc9 fun p hp k hk => by
        have h1 := hPl' p hp k hk
        have h2 := ((hP8.1 p hp).lt k hk).1
        rintro (e | e)
        · omega
        · have := hwv k e.symm; omega
      have ht9 := ht8.chg hc9 (by rintro (e | e) <;> first | exact hto e | (have := hwv t e.symm; omega))
      have hk9 := hk8.chg hc9 (by rintro (e | e) <;> first | exact hog e.symm | (have := hwv g e.symm; omega)) fun k hk => by
        have := hFw k hk
        rintro (e | e)
        · exact this.2 e
        · have := hwv k e.symm; omega
      have hct9 : Chg (fun k => k = g ∨ k = o) w w9 := (hct.trans hc68 fun k hk e => by omega).trans hc9 fun k hk => by
        rintro (e | e)
        · exact .inr e
        · have := hwv k e.symm; omega
      have HPC := hide (pcW_snoc xs l1 (.slice sa1 sa2 sa3, .slice sb1 sb2 sb3) y hxl)
      have HFL := hide (flW_snoc xs l1 (.slice sa1 sa2 sa3, .slice sb1 sb2 sb3) y hxl)
      have hl9 := hRd9.left
      go_wp2_with fail
      go_roundw
      case rel =>
        refine ⟨l1 ++ [y], l2, xs ++ [(.slice sa1 sa2 sa3, .slice sb1 sb2 sb3)], rs, v9, hide (by rw [HL.out, List.append_assoc]; rfl), by simp [hxl], hrs', hRd9, ho9, ?_, fun k hk => ?_, ?_, ?_, ht9, hk9, hct9, by omega⟩
        · rw [HFL.out, List.length_append]; exact hrow9
        · rcases hv9 with h | h
          · rw [h] at hk; exact hwv k hk
          · have := h k hk; omega
        · rw [HPC.out, List.append_assoc]; exact hP9
        · rw [HPC.out, List.append_assoc]; exact hPl'
      case measure => rw [hl9, HLEFT.out]; simp; omega

set_option maxHeartbeats 8000000 in
set_option maxRecDepth 100000 in
theorem recTriR {w : World} {F G : Nat → Prop} {g t o : Nat} {ty : TypeId} {p : Value} {vs : List Value} {l : List WrS} {c0 c1 c2 c3 c4 c6 c7 c8 c9 c10 : Value} (h : RdOk w F g (p :: vs)) (hr : RdB w G p (triB l)) (hG : ¬ G g) (hl : vs.length ≤ 1000000000000)
    (hw : triW l ≤ 1048576) (hn : l.length ≤ 1048576) (hFw : ∀ k, F k → k < w.heap.size ∧ k ≠ o)
    (ht : Blk w t ty #[.pointer (some ⟨o, 0, none⟩)]) (ho : Blk w o 32 #[c0, c1, c2, c3, c4, .slice none 0 0, c6, c7, c8, c9, c10]) (hog : o ≠ g) (htg : t ≠ g) (hto : t ≠ o) :
    Calls Try.prog 53 #[.pointer (some ⟨g, 0, none⟩), .func (.func 55) #[] #[.pointer (some ⟨t, 0, none⟩)]] w fun e w' => e = .returned (.tuple #[]) ∧ ∃ v' xs, xs.length = l.length ∧
      Blk w' o 32 #[c0, c1, c2, c3, c4, v', c6, c7, c8, c9, c10] ∧ w'.ownsRow w.heap.size 63 3 v' l.length (flW xs l) ∧ OwnPs w' w.heap.size (pcW xs l) ∧ RdOk w' F g vs ∧ Chg (fun k => k = g ∨ k = o) w w' := by
  have hg := h.blk
  have hol := ho.lt
  have htl := ht.lt
  have hnext := recNext h hr.sl hl
  have htb := triB_len l
  have hsp : splitB (triB l) = (triL l, 0) := splitB_join _ (fits_triL hw hn)
  have hlen3 := triL_len l
  go_enter Try.func53, Try.ntmps53
  go_wp2_with fail
  refine hnext.mono ?_
  rintro e w1 ⟨rfl, hk1, hc1⟩
  have hr1 := hr.chg hc1 fun k hk (e : k = g) => hG (e ▸ hk)
  have ht1 := ht.chg hc1 htg
  have ho1 := ho.chg hc1 hog
  have hs1 := hc1.size
  clear h hr ht ho hnext
  have hk1' := hk1
  obtain ⟨v1, hb1, hv1, hF1⟩ := hk1'
  have a1 := hb1.cell 1
  simp at a1
  go_upto_region 3 with fail
  have hB2 := Blk.new w1 78 #[.slice none 0 0, .int .i64 0]
  have hc2 := (Chg.refl Non w1).alloc (.cells #[.slice none 0 0, .int .i64 0] 78)
  have hr2 := hr1.c0 hc2
  have ht2 := ht1.c0 hc2
  have ho2 := ho1.c0 hc2
  have hk2 := hk1.c0 hc2
  have hg2s : (w1.alloc (.cells #[.slice none 0 0, .int .i64 0] 78)).heap.size = w1.heap.size + 1 := by simp
  obtain ⟨g2, hg2⟩ : ∃ g2, g2 = w1.heap.size := ⟨_, rfl⟩
  rw [← hg2] at hB2 hg2s ⊢
  have hg2l : w.heap.size ≤ g2 := by omega
  clear hr1 ht1 ho1 hk1 hb1 hv1 a1 hg2
  generalize World.alloc _ _ = w2 at hB2 hc2 hr2 ht2 ho2 hk2 hg2s ⊢
  have hspl := packSplit hr2 (by omega)
  rw [hsp] at hspl
  clear hr2
  go_upto_region 4 with (go_at_call 35; refine hspl.mono ?_; rintro e w3 ⟨u3, rfl, hO3, hc3⟩; obtain ⟨U3, m3, rfl, hm3, hmm3⟩ := hO3.shape; have f0 := (hB2.c0 hc3).frozen 0; have f1 := (hB2.c0 hc3).frozen 1; have z0 : w3.cell? ⟨g2, 0, none⟩ = some (.slice none 0 0) := (hB2.c0 hc3).cell 0; have z1 : w3.cell? ⟨g2, 1, none⟩ = some (.int .i64 0) := (hB2.c0 hc3).cell 1)
  have hs3 := hc3.size
  have hB5 := ((hB2.c0 hc3).set_ 0 (.slice U3 (triL l).length m3)).set_ 1 (.int .i64 0)
  simp only [List.setIfInBounds_toArray, List.set_cons_succ, List.set_cons_zero] at hB5
  have hc5 : Chg (fun k => k = g2) w3 ((w3.setCell ⟨g2, 0, none⟩ (.slice U3 (triL l).length m3)).setCell ⟨g2, 1, none⟩ (.int .i64 0)) := ((Chg.refl (fun k => k = g2) w3).setCell (p := ⟨g2, 0, none⟩) (fun _ => rfl) _).setCell (p := ⟨g2, 1, none⟩) (fun _ => rfl) _
  obtain ⟨rs0, hrl, hrow, hps⟩ := hO3.psOf
  rw [hlen3] at hB5 hc5 hrow
  have hrl3 : rs0.length = 3 * l.length := by rw [hrl, hlen3]
  generalize World.setCell _ _ _ = w5 at hB5 hc5 ⊢
  have hs5 := hc5.size
  have hrow5 : RdV w5 (fun b => g2 < b ∧ b < w3.heap.size) 1 (.slice U3 (3 * l.length) m3) rs0.length rs0 := by
    have h := RdV.of_own hrow
    rw [hrl3]
    refine (h.mono (F' := fun b => g2 < b ∧ b < w3.heap.size) fun k hk => ?_).chg hc5 fun k (hk : g2 < k ∧ k < w3.heap.size) (e : k = g2) => by omega
    have := World.ownsRow.lt hrow k hk
    omega
  have hps5 := hps.chg hc5 fun k hk _ e => by subst e; omega
  have hpl5 : ∀ p ∈ rs0.zip (triL l), ∀ k, p.1.ownBlock = some k → k < w3.heap.size := hps.lt
  have hRd5 : RdOk w5 (fun b => g2 < b ∧ b < w3.heap.size) g2 rs0 := ⟨_, hB5, hrow5, fun h => Nat.lt_irrefl _ h.1⟩
  have ht5 := (ht2.c0 hc3).chg hc5 (by omega)
  have ho5 := (ho2.c0 hc3).chg hc5 (by omega)
  have hk5 := (hk2.c0 hc3).chg hc5 (by omega) fun k hk e => by have := hFw k hk; omega
  have hct : Chg (fun k => k = g ∨ k = o) w w5 := ((hc1.mono (S' := fun k => k = g ∨ k = o) fun _ _ h => .inl h).trans0 (hc2.trans0 hc3)).trans hc5 fun k hk e => by omega
  have b0 := hB5.cell 0
  have b1 := hB5.cell 1
  simp at b0 b1
  clear hspl hO3 f0 f1 z0 z1 hB2 hps hrow hrow5 hk2 ht2 ho2 hsp htb hlen3 hrl
  have hmod : ((((3 * l.length : Nat) : Int)).tmod 3 != 0) = false := by
    have : (((3 * l.length : Nat) : Int)).tmod 3 = 0 := by rw [Int.natCast_mul]; exact Int.mul_tmod_right 3 _
    rw [this]; rfl
  go_wp2_with fail
  have hw2 : w.heap.size ≤ w2.heap.size := by omega
  go_loopw [] (fun wr => ∃ (l1 l2 : List WrS) (xs : List (Value × Value)) (rs : List Value) (wv : Value), Hid (l = l1 ++ l2) ∧ xs.length = l1.length ∧ rs.length = 3 * l2.length ∧ RdOk wr (fun b => g2 < b ∧ b < w3.heap.size) g2 rs ∧
    Blk wr o 32 #[c0, c1, c2, c3, c4, wv, c6, c7, c8, c9, c10] ∧ wr.ownsRow w.heap.size 63 3 wv l1.length (flW xs l1) ∧ (∀ k, wv.ownBlock = some k → w3.heap.size ≤ k) ∧
    OwnPs wr w2.heap.size (pcW xs l1 ++ rs.zip (triL l2)) ∧ (∀ p ∈ pcW xs l1 ++ rs.zip (triL l2), ∀ k, p.1.ownBlock = some k → k < w3.heap.size) ∧
    Blk wr t ty #[.pointer (some ⟨o, 0, none⟩)] ∧ RdOk wr F g vs ∧ Chg (fun k => k = g ∨ k = o) w wr ∧ w3.heap.size ≤ wr.heap.size) (fun wr => leftN wr g2)
  case atStart => exact ⟨[], l, [], rs0, _, hide rfl, rfl, hrl3, hRd5, ho5, World.ownsRow_nil _ _ _ 3, fun k hk => by simp [Value.ownBlock] at hk, hps5, hpl5, ht5, hk5, hct, hs5⟩
  case round =>
    clear hps5 hpl5 ht5 ho5 hk5 hct hB5 hRd5 b0 b1 hmod hc5
    obtain ⟨l1, l2, xs, rs, wv, HL, hxl, hrsl, hRd, ho, hrow, hwv, hP, hPl, ht, hk, hct, hsr⟩ := hrel
    have hleft := hRd.left
    have hRd' := hRd
    obtain ⟨v2, hb2, hv2, _⟩ := hRd'
    obtain ⟨V, d, rfl, hd, hdm⟩ := hv2.shape
    have b0 := hb2.cell 0
    have b1 := hb2.cell 1
    simp at b0 b1
    clear hv2 hb2
    rcases l2 with _ | ⟨y, l2⟩
    · have hr0 : rs = [] := List.eq_nil_of_length_eq_zero (by simpa using hrsl)
      subst hr0
      have HL' := hide (show l1 = l by have := HL.out; simpa using this.symm)
      rw [HL'.out] at hxl hrow hP
      have hk' := hk
      obtain ⟨v7, hb7, hv7, hF7⟩ := hk'
      have d1 := hb7.cell 1
      have e1 := hb7.frozen 1
      simp at d1
      have hb8 := hb7.set_ 1 (.int .i64 0)
      simp only [List.setIfInBounds_toArray, List.set_cons_succ, List.set_cons_zero] at hb8
      have hc8 : Chg (fun k => k = g) wr (wr.setCell ⟨g, 1, none⟩ (.int .i64 0)) := (Chg.refl (fun k => k = g) wr).setCell (p := ⟨g, 1, none⟩) (fun _ => rfl) _
      have hlen1 : decide ((0 : Int) < (0 : Int)) = false := rfl
      have ho8 := ho.chg hc8 hog
      have hrow8 := row_chg hrow hc8 fun k hk e => by have := hwv k hk; omega
      have hP8 := (hP.sub (List.sublist_append_left _ _)).chg hc8 fun k hk _ e => by omega
      have hk8 : RdOk (wr.setCell ⟨g, 1, none⟩ (.int .i64 0)) F g vs := ⟨v7, hb8, hv7.chg hc8 fun k hk e => hF7 (e ▸ hk), hF7⟩
      have hct8 : Chg (fun k => k = g ∨ k = o) w (wr.setCell ⟨g, 1, none⟩ (.int .i64 0)) := hct.trans hc8 fun k hk e => .inl e
      have HO8 := hide ho8
      have HR8 := hide hrow8
      have HP8 := hide hP8
      have HK8 := hide hk8
      have HC8 := hide hct8
      clear ho8 hrow8 hP8 hk8 hct8 hc8 hb8 hb7 hv7 ho hrow hP hk hct hRd hleft ht hPl
      go_wp2_with fail
      exact bodyPost_end (results_none rfl _ _ _) rfl ⟨rfl, wv, xs, hxl, HO8.out, HR8.out, HP8.out.low hw2, HK8.out, HC8.out⟩
    · obtain ⟨f, a, b, rs, rfl⟩ : ∃ f a b rs', rs = f :: a :: b :: rs' := by
        match rs, hrsl with
        | [], h => simp at h
        | [x], h => simp at h; omega
        | [x, y], h => simp at h; omega
        | f :: a :: b :: rs', _ => exact ⟨f, a, b, rs', rfl⟩
      have hll : l1.length + (l2.length + 1) ≤ 1048576 := by
        have := congrArg List.length HL.out
        simp only [List.length_append, List.length_cons] at this
        omega
      have hrs' : rs.length = 3 * l2.length := by simp at hrsl; omega
      rw [triL_cons] at hP hPl
      simp only [List.zip_cons_cons] at hP hPl
      have of : OwnB wr w2.heap.size f (flB y.f) := hP.1 (f, flB y.f) (by simp)
      have oa : OwnB wr w2.heap.size a y.a := hP.1 (a, y.a) (by simp)
      have ob : OwnB wr w2.heap.size b y.b := hP.1 (b, y.b) (by simp)
      have hP' := hP.sub (qs := pcW xs l1 ++ (a, y.a) :: (b, y.b) :: rs.zip (triL l2)) (List.Sublist.append (List.Sublist.refl _) (List.sublist_cons_self _ _))
      have hPl' : ∀ p ∈ pcW xs l1 ++ (a, y.a) :: (b, y.b) :: rs.zip (triL l2), ∀ k, p.1.ownBlock = some k → k < w3.heap.size := fun p hp => hPl p (by
        rcases List.mem_append.1 hp with h | h
        · exact List.mem_append_left _ h
        · exact List.mem_append_right _ (List.mem_cons_of_mem _ h))
      have htr := recTruthR hRd of.rd (fun e => by have := (of.lt _ e).1; omega) (by simp; omega)
      have hlen2 : (0 : Int) < (((f :: a :: b :: rs).length : Nat) : Int) := by simp; omega
      have hlen1 : decide ((0 : Int) < (((f :: a :: b :: rs).length : Nat) : Int)) = true := decide_eq_true hlen2
      have HLEFT := hide hleft
      obtain ⟨sa1, sa2, sa3, rfl⟩ := oa.sl
      obtain ⟨sb1, sb2, sb3, rfl⟩ := ob.sl
      clear of hP hPl hleft
      go_wp2_with fail
      refine htr.mono ?_
      rintro e w6 ⟨rfl, hRd6, hc6⟩
      have hn6 := recNext hRd6 ⟨_, _, _, rfl⟩ (by simp; omega)
      clear htr hlen1 hlen2 b0 b1
      go_wp2_with fail
      refine hn6.mono ?_
      rintro e w7 ⟨rfl, hRd7, hc7⟩
      have hn7 := recNext hRd7 ⟨_, _, _, rfl⟩ (by omega)
      clear hn6
      go_wp2_with fail
      refine hn7.mono ?_
      rintro e w8 ⟨rfl, hRd8, hc8⟩
      have hc68 : Chg (fun k => k = g2) wr w8 := (hc6.trans hc7 fun _ _ h => h).trans hc8 fun _ _ h => h
      have hs8 := hc68.size
      have ho8 := ho.chg hc68 (by omega)
      have ht8 := ht.chg hc68 (by omega)
      have hk8 := hk.chg hc68 (by omega) fun k hk e => by have := hFw k hk; omega
      have hrow8 := row_chg hrow hc68 fun k hk e => by have := hwv k hk; omega
      have hP8 := hP'.chg hc68 fun k hk _ e => by omega
      have htake := recTakeR (a := .slice sa1 sa2 sa3) (b := .slice sb1 sb2 sb3) (f := y.f) ht8 ho8 hrow8 ⟨_, _, _, rfl⟩ ⟨_, _, _, rfl⟩ (by omega) (by omega) hol (fun e => by have := hwv t e.symm; omega)
      clear hn7 hRd6 hRd7 hc6 hc7 hc8 ho ht hk hrow hP' oa ob hRd
      go_wp2_with fail
      refine htake.mono ?_
      rintro e w9 ⟨rfl, v9, ho9, hrow9, hc9, hv9⟩
      clear htake
      have hs9 := hc9.size
      have hRd9 := hRd8.chg hc9 (by rintro (e | e) <;> first | omega | (have := hwv g2 e.symm; omega)) fun k hk => by rintro (e | e) <;> first | omega | (have := hwv k e.symm; omega)
      have hP9 := hP8.chg' hc9 fun p hp k hk => by
        have h1 := hPl' p hp k hk
        have h2 := ((hP8.1 p hp).lt k hk).1
        rintro (e | e)
        · omega
        · have := hwv k e.symm; omega
      have ht9 := ht8.chg hc9 (by rintro (e | e) <;> first | exact hto e | (have := hwv t e.symm; omega))
      have hk9 := hk8.chg hc9 (by rintro (e | e) <;> first | exact hog e.symm | (have := hwv g e.symm; omega)) fun k hk => by
        have := hFw k hk
        rintro (e | e)
        · exact this.2 e
        · have := hwv k e.symm; omega
      have hct9 : Chg (fun k => k = g ∨ k = o) w w9 := (hct.trans hc68 fun k hk e => by omega).trans hc9 fun k hk => by
        rintro (e | e)
        · exact .inr e
        · have := hwv k e.symm; omega
      have HPC := hide (pcW_snoc xs l1 (.slice sa1 sa2 sa3, .slice sb1 sb2 sb3) y hxl)
      have HFL := hide (flW_snoc xs l1 (.slice sa1 sa2 sa3, .slice sb1 sb2 sb3) y hxl)
      have hl9 := hRd9.left
      go_wp2_with fail
      go_roundw
      case rel =>
        refine ⟨l1 ++ [y], l2, xs ++ [(.slice sa1 sa2 sa3, .slice sb1 sb2 sb3)], rs, v9, hide (by rw [HL.out, List.append_assoc]; rfl), by simp [hxl], hrs', hRd9, ho9, ?_, fun k hk => ?_, ?_, ?_, ht9, hk9, hct9, by omega⟩
        · rw [HFL.out, List.length_append]; exact hrow9
        · rcases hv9 with h | h
          · rw [h] at hk; exact hwv k hk
          · have := h k hk; omega
        · rw [HPC.out, List.append_assoc]; exact hP9
        · rw [HPC.out, List.append_assoc]; exact hPl'
      case measure => rw [hl9, HLEFT.out]; simp; omega
end Go.Proofs.Ytpbgjldjipgfeaa
