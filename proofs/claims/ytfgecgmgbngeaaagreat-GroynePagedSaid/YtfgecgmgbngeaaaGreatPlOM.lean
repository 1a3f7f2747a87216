/- The walks of the pool's load and Open. -/
import Derived.Test.YtfgecgmgbngeaaaGreatPlLM
import Derived.Test.YtfgecgmgbngeaaaGreatRdM
import Derived.Deep.CutBlock
import Derived.Lib.MinMax
set_option maxRecDepth 100000
namespace Go.Proofs.YtfgecgmgbngeaaaGreat
open Go.RowKit Go.Maps
set_option linter.unusedVariables false
set_option linter.unusedSimpArgs false

theorem ins_last {α : Type} (x : Nat × α) : ∀ {l : List (Nat × α)}, (∀ p ∈ l, p.1 < x.1) → aIns klI x l = l ++ [x]
  | [], _ => rfl
  | y :: r, h => by
    have hb : (klI x.1).before (klI y.1) = false := by
      show decide ((x.1 : Int) < (y.1 : Int)) = false
      have := h y (by simp)
      exact decide_eq_false (by omega)
    unfold aIns
    rw [hb, if_neg (by decide), ins_last x fun p hp => h p (by simp [hp])]
    rfl
theorem put_last {α : Type} {k : Nat} {v : α} {l : List (Nat × α)} (h : ∀ p ∈ l, p.1 < k) : aPut klI k v l = l ++ [(k, v)] := by
  unfold aPut
  rw [del_none keyI fun p hp => Nat.ne_of_lt (h p hp), ins_last _ h]
theorem put_take {tab : Slots} (hr : Rise tab) {k : Nat} (hk : k < tab.length) : aPut klI tab[k].1 tab[k].2 (tab.take k) = tab.take (k + 1) := by
  rw [put_last, List.take_succ_eq_append_getElem hk]
  intro p hp
  obtain ⟨j, hj, rfl⟩ := List.mem_take_iff_getElem.1 hp
  exact List.pairwise_iff_getElem.1 hr j k (by omega) hk (by omega)

/-- how often each slot is needed by a list of pages -/
structure CntT (l : Slots) (sf : List (Int × Int)) : Prop where
  once : Once sf
  lo : ∀ p ∈ sf, 0 ≤ p.2 ∧ p.2 ≤ (l.length : Int) ∧ -1 ≤ p.1
  len : sf.length ≤ l.length
  pos : ∀ s : Int, (∃ c, (s, c) ∈ sf ∧ 0 < c) ↔ ∃ p ∈ l, p.2 = s
theorem CntT.nil_ : CntT [] [] := ⟨Once.nil_, fun p hp => by simp at hp, Nat.le_refl _, fun s => ⟨fun ⟨c, h, _⟩ => by simp at h, fun ⟨p, h, _⟩ => by simp at h⟩⟩
theorem CntT.get {l : Slots} {sf : List (Int × Int)} (h : CntT l sf) (s : Int) : 0 ≤ (aGet klZ sf s).getD 0 ∧ (aGet klZ sf s).getD 0 ≤ (l.length : Int) := by
  cases e : aGet klZ sf s with
  | none => simp
  | some c =>
    obtain ⟨h1, h2, _⟩ := h.lo _ (get_mem keyZ e)
    exact ⟨h1, h2⟩
theorem CntT.step {l : Slots} {sf : List (Int × Int)} (h : CntT l sf) {p : Nat × Int} (hlo : -1 ≤ p.2) : CntT (l ++ [p]) (aPut klZ p.2 ((aGet klZ sf p.2).getD 0 + 1) sf) := by
  have hg := h.get p.2
  have hL : (l ++ [p]).length = l.length + 1 := by simp
  refine ⟨h.once.put keyZ _ _, fun q hq => ?_, ?_, fun s => ?_⟩
  · rcases (mem_put keyZ).1 hq with rfl | ⟨hq, _⟩
    · exact ⟨by show 0 ≤ _ + 1; omega, by show (aGet klZ sf p.2).getD 0 + 1 ≤ _; omega, hlo⟩
    · obtain ⟨a, b, c⟩ := h.lo q hq
      exact ⟨a, by omega, c⟩
  · have := length_put_le (kl := klZ) p.2 ((aGet klZ sf p.2).getD 0 + 1) sf
    have := h.len
    omega
  · constructor
    · rintro ⟨c, hm, hc⟩
      rcases (mem_put keyZ).1 hm with e | ⟨hm, _⟩
      · injection e with e1 e2
        exact ⟨p, by simp, e1.symm⟩
      · obtain ⟨q, hq, e⟩ := (h.pos s).1 ⟨c, hm, hc⟩
        exact ⟨q, by simp [hq], e⟩
    · rintro ⟨q, hq, e2⟩
      by_cases e : s = p.2
      · exact ⟨_, (mem_put keyZ).2 (.inl (by rw [e])), by omega⟩
      · rcases List.mem_append.1 hq with hq | hq
        · obtain ⟨c, hm, hc⟩ := (h.pos s).2 ⟨q, hq, e2⟩
          exact ⟨c, (mem_put keyZ).2 (.inr ⟨hm, e⟩), hc⟩
        · rw [List.mem_singleton.1 hq] at e2
          exact absurd e2.symm e
theorem CntT.safe {l : Slots} {sf : List (Int × Int)} (h : CntT l sf) (hn : l.length ≤ 65536) : SafeM sf l :=
  ⟨h.once, h.pos, fun p hp => by
    obtain ⟨a, b, c⟩ := h.lo p hp
    exact ⟨a, by omega, c⟩, by have := h.len; omega⟩
theorem tabB_split {tab : Slots} {k : Nat} (hk : k < tab.length) : tabB tab = tabB (tab.take k) ++ (numB tab[k].1 ++ (numB (tab[k].2 + 1).toNat ++ tabB (tab.drop (k + 1)))) := by
  have h1 : tabB tab = tabB (tab.take k ++ tab.drop k) := by rw [List.take_append_drop]
  rw [h1, List.drop_eq_getElem_cons hk]
  unfold tabB
  rw [List.flatMap_append, List.flatMap_cons, rowB, List.append_assoc]
theorem fits2 (sl : Slots) (h : sl.length ≤ 65536) : Fits [tabB sl, []] := by
  have := tabB_length sl
  refine ⟨by simp, fun l hl => ?_⟩
  rcases List.mem_cons.1 hl with rfl | hl
  · omega
  · rw [List.mem_singleton.1 hl]; simp

set_option maxHeartbeats 16000000 in
theorem plLoad {w : World} {TD TP G Fb : Nat → Prop} {gd g hand bs bf ba : Nat} {pre : ByteArray} {S : DSt} {tab : Slots} {cl h1 h2 h3 : Int}
    (h : PoolM w TD TP G gd g pre hand S [] [] [] bs bf ba cl h1 h2 h3) (hd : S.dead = false) (ht : TabOk tab) (hfit : ∀ p ∈ tab, 0 ≤ p.2 → (p.2.toNat + 1) * 512 ≤ ((S.seen (nf pre)).getD []).length) (hbig : ((S.seen (nf pre)).getD []).length ≤ 67109376)
    {u : Value} (hu : RdB w Fb u (metaB tab)) :
    Calls Tryz.prog 19 #[.pointer (some ⟨g, 0, none⟩), u] w fun e w' => ∃ nv sf', e = .returned (.tuple #[nv, .bool true]) ∧ PoolM w' TD TP G gd g pre hand S tab sf' [] bs bf ba cl h1 h2 h3 ∧ SafeM sf' tab ∧ Chg (fun k => k = bs ∨ k = bf) w w' := by
  have hml := metaB_len tab ht.n
  have hjl := joinB_len tab ht.n
  have hun := parityUnwrap hu (by omega)
  have hue : unwN [] (metaB tab) = (joinB [tabB tab, []], 0) := by
    have := unwN_wrapB _ (joinB [tabB tab, []]) [] (Nat.le_refl _)
    rw [List.nil_append] at this
    exact this
  rw [hue] at hun
  have hse := splitB_join _ (fits2 tab ht.n)
  have HP := hide h
  have HT := hide ht
  have HFIT := hide hfit
  have HD := hide hd
  have hpre := h.pre
  clear h ht hfit hue hu hml hd
  go_enter Tryz.func19, Tryz.ntmps19
  go_wp2_with fail
  refine hun.mono ?_
  rintro e w1 ⟨jv, rfl, hjv, hc1⟩
  have hspl := packSplit hjv.rd (by omega)
  rw [hse] at hspl
  clear hun hjv hse
  go_wp2_with fail
  refine hspl.mono ?_
  rintro e w2 ⟨pv, rfl, hpv, hc2⟩
  have hc12 := hc1.trans0 hc2
  have hpr : RdBB w2 (fun b => w1.heap.size ≤ b ∧ b < w2.heap.size) pv [tabB tab, []] := hpv.rd
  obtain ⟨PA, pc, rfl, hpc, hpcm⟩ := hpr.shape
  obtain ⟨ad, x0, rfl, hf0, hx0, hr0⟩ := hpr.at_ (k := 0) (by simp)
  obtain ⟨ad2, x1, ead, hf1, hx1, hr1⟩ := hpr.at_ (k := 1) (by simp)
  injection ead with ead
  subst ead
  replace hx0 : w2.cell? (ad.add 0) = some x0 := hx0
  replace hr0 : RdB w2 (fun b => w1.heap.size ≤ b ∧ b < w2.heap.size) x0 (tabB tab) := hr0
  have hadz : ad.add 0 = ad := by unfold Addr.add; simp
  rw [hadz] at hx0
  have HP2 := hide (HP.out.c0 hc12)
  have n1 := hc1.size
  have n2 := hc12.size
  have HC12 := hide hc12
  clear hspl hpv hpr hc1 hc2 hc12
  have k02 : w2.cell? ⟨g, 0, none⟩ = some (.pointer (some ⟨gd, 0, none⟩)) := HP2.out.blk.cell 0
  have hfile := fun {wx : World} (hc : Chg Non w2 wx) => plFile (HP2.out.c0 hc)
  have hsz := fun {wx : World} (hc : Chg Non w2 wx) => dgSize (HP2.out.drv.c0 hc) HD.out (nfB pre) (by unfold nfB; rw [ByteArray.size_append, show (⟨#[112, 97, 103, 101, 115]⟩ : ByteArray).size = 5 from rfl]; unfold maxLen; omega)
  obtain ⟨L, hL⟩ : ∃ L, L = ((S.seen (nf pre)).getD []).length := ⟨_, rfl⟩
  replace hsz : ∀ {wx : World}, Chg Non w2 wx → Calls Tryz.prog 44 #[.pointer (some ⟨gd, 0, none⟩), .string (nfB pre)] wx fun e w' => e = .returned (.int .i64 (L : Int)) ∧ w' = wx := by rw [hL]; exact hsz
  rw [← hL] at hbig
  obtain ⟨sz, hszd⟩ : ∃ sz : Nat, sz = L / 512 := ⟨_, rfl⟩
  have hquo : Int.tdiv (L : Int) 512 = (sz : Int) := by rw [Int.tdiv_eq_ediv_of_nonneg (by omega), hszd]; omega
  have hw1 : IntKind.i64.wrap (sz : Int) = (sz : Int) := IntWalk.i64_in _ (by omega)
  have HSZ := hide (show ∀ p ∈ tab, (p.2 + 1).toNat ≤ sz from fun p hp => by
    by_cases h0 : 0 ≤ p.2
    · have h9 := HFIT.out p hp h0
      rw [← hL] at h9
      have : (p.2 + 1).toNat = p.2.toNat + 1 := by omega
      rw [this, hszd]
      exact (Nat.le_div_iff_mul_le (by omega)).2 h9
    · omega)
  have hszb : sz ≤ 200000 := by omega
  clear hL hszd
  have hlen2 : ∀ w' ty, (Builtin.len_ #[22] ty #[.slice (some ad) 2 pc]).run Tryz.prog w' = .ok (.int .i64 2) w' := fun w' ty => rfl
  go_upto_region 7 with fail
  go_cut [9] from 34 (fun v9 wx => v9 = .int .i64 (sz : Int) ∧ Chg Non w2 wx)
  case first =>
    go_region_law (first
      | (go_simp; go_at_call 45; refine (hfile ((Chg.refl Non w2).drew)).mono ?_; rintro e w3 ⟨rfl, hc3⟩; have hc3' := ((Chg.refl Non w2).drew).trans0 hc3; have k0b := hc3'.cell k02 (fun h => h))
      | (go_simp; go_at_call 44; refine (hsz hc3').mono ?_; rintro e w4 ⟨rfl, hw4⟩; subst w4))
    all_goals
      try simp only [List.getElem_toArray, List.getElem_cons_succ, List.getElem_cons_zero, Act.put, List.setIfInBounds_toArray, List.set_cons_zero, List.set_cons_succ]
      go_wp2_with fail
      go_meet
      exact ⟨by first | rfl | (simp only [hquo, hw1]), hc3'⟩
  case rest =>
    obtain ⟨rfl, hc3⟩ := hcut
    obtain ⟨w3, rfl⟩ : ∃ w', w' = wc := ⟨_, rfl⟩
    have hP3 := HP2.out.c0 hc3
    have hx03 := hc3.cell hx0 (fun h => h)
    have hx13 := hc3.cell hx1 (fun h => h)
    have hr03 := hr0.c0 hc3
    obtain ⟨A0, c0, rfl, hcc0, hcm0⟩ := hr03.shape
    have hr13 := hr1.c0 hc3
    have n3 := hc3.size
    have HC3 := hide hc3
    have HX := hide (And.intro hx03 hx13)
    have HR0 := hide hr03
    have HP3 := hide hP3
    have HF := hide (And.intro hf0 hf1)
    have hTPl := HP.out.lt
    have hbsl := hTPl bs HP.out.tg.2.1
    have hbfl := hTPl bf HP.out.tg.2.2.1
    have hne := HP.out.neS
    have hdist := HP.out.dist
    have htl := tabB_length tab
    have hTn := HT.out.n
    clear hfile hsz hx0 hx1 hr0 hr1 hc3 hx03 hx13 hr03 hr13 hP3 hquo hw1 k02 hf0 hf1 hTPl HFIT
    go_wp2_with fail
    go_loopw [10] (fun av wr => ∃ (k : Nat) (sf1 : List (Int × Int)), k ≤ tab.length ∧ av = .int .i64 ((tabB (tab.take k)).length : Int) ∧ PoolM wr TD TP G gd g pre hand S (tab.take k) sf1 [] bs bf ba cl h1 h2 h3 ∧ Hid (CntT (tab.take k) sf1) ∧ Chg (fun b => b = bs ∨ b = bf) w3 wr) (fun av _ => (tabB tab).length - (intOf av).toNat)
    case atStart => exact ⟨0, [], Nat.zero_le _, rfl, HP3.out, hide CntT.nil_, Chg.refl _ _⟩
    case round =>
      obtain ⟨k, sf1, hk, rfl, hP, hT, hcw⟩ := hrel
      have hnb : ∀ b, w1.heap.size ≤ b → ¬ (b = bs ∨ b = bf) := fun b hb e => by omega
      have y0 : wr.cell? ad = some (.slice A0 (tabB tab).length c0) := hcw.cell HX.out.1 (hnb _ HF.out.1.1)
      have hr := HR0.out.chg hcw fun b hb => hnb b hb.1
      have hlen := fun w' ty => run_len8 hr w' ty
      by_cases hkl : k < tab.length
      · obtain ⟨p, hp⟩ : ∃ p, p = tab[k] := ⟨_, rfl⟩
        have hpm : p ∈ tab := by rw [hp]; exact List.getElem_mem hkl
        have hs := tabB_split hkl
        have hput := put_take HT.out.rs hkl
        have hrow := tabB_take tab k hkl
        rw [← hp] at hs hput hrow
        have hid := HT.out.ids p hpm
        have hlo := HT.out.lo p hpm
        have hhi := HT.out.hi p hpm
        have hszp := HSZ.out p hpm
        obtain ⟨q, hq⟩ : ∃ q : Nat, q = (p.2 + 1).toNat := ⟨_, rfl⟩
        rw [← hq] at hs hszp
        have hq2 : p.2 = (q : Int) - 1 := by omega
        obtain ⟨a, ha⟩ : ∃ a, a = (tabB (tab.take k)).length := ⟨_, rfl⟩
        obtain ⟨n1', hn1⟩ : ∃ n, n = (numB p.1).length := ⟨_, rfl⟩
        obtain ⟨n2', hn2⟩ : ∃ n, n = (numB q).length := ⟨_, rfl⟩
        have hL : (tabB tab).length = a + (n1' + (n2' + (tabB (tab.drop (k + 1))).length)) := by
          have := congrArg List.length hs
          simp only [List.length_append] at this
          omega
        have hd1 : hd ((tabB tab).drop a) = (p.1, n1', 0) := by
          rw [hs, ha, List.drop_left, hd_numB (by omega), hn1]
        have hd2 : hd ((tabB tab).drop (a + n1')) = (q, n2', 0) := by
          rw [← List.drop_drop, hs, ha, List.drop_left, hn1, List.drop_left, hd_numB (by omega), hn2]
        have hpos1 : 0 < n1' := by rw [hn1]; unfold numB; split <;> simp
        have hnx : (tabB (tab.take (k + 1))).length = a + n1' + n2' := by
          rw [hrow, List.length_append, rowB, List.length_append, ← hq]; omega
        have htk1 := packTake_ok (w := wr) hr (by omega) hd1
        have htk2 := packTake_ok (w := wr) hr (by omega) hd2
        obtain ⟨b1, hb1⟩ : ∃ b1, b1 = a + n1' := ⟨_, rfl⟩
        obtain ⟨b2, hb2⟩ : ∃ b2, b2 = b1 + n2' := ⟨_, rfl⟩
        rw [← hb1] at htk1 htk2
        rw [← hb2] at htk2
        replace hnx : (tabB (tab.take (k + 1))).length = b2 := by omega
        have HAB := hide (show a < b2 ∧ b2 ≤ (tabB tab).length by omega)
        rw [← ha]
        have HNX := hide hnx
        have HPUT := hide hput
        have HKL := hide hkl
        have hpt : tab.take (k + 1) = tab.take k ++ [p] := by rw [List.take_succ_eq_append_getElem hkl, ← hp]
        have HPT := hide hpt
        have HPB := hide hlo
        have hlt : a < (tabB tab).length := by omega
        obtain ⟨p1, hp1⟩ : ∃ p1, p1 = p.1 := ⟨_, rfl⟩
        obtain ⟨p2, hp2⟩ : ∃ p2, p2 = p.2 := ⟨_, rfl⟩
        rw [← hp1] at htk1 hid hput
        rw [← hp2] at hq2 hput hhi hlo
        have HPP := hide (And.intro hp1 hp2)
        have HA := hide ha
        obtain ⟨N, hN⟩ : ∃ N, N = (tabB tab).length := ⟨_, rfl⟩
        rw [← hN] at hlt hlen y0
        have HN := hide hN
        have g1 : ¬ 65536 ≤ p1 := by omega
        have g1' : decide ((65536 : Int) ≤ (p1 : Int)) = false := decide_eq_false (by omega)
        have g2 : ¬ sz < q := by omega
        have g2' : decide ((sz : Int) < (q : Int)) = false := decide_eq_false (by omega)
        have g3 : decide ((a : Int) < (N : Int)) = true := decide_eq_true (by omega)
        have hu1 : IntKind.u64.wrap (sz : Int) = (sz : Int) := wrapU (by omega) (by omega)
        have hi1 : IntKind.i64.wrap (p1 : Int) = (p1 : Int) := IntWalk.i64_in _ (by omega)
        have hi2 : IntKind.i64.wrap (q : Int) = (q : Int) := IntWalk.i64_in _ (by omega)
        have hi3 : IntKind.i64.wrap ((q : Int) - 1) = p2 := by rw [← hq2]; exact IntWalk.i64_in _ (by omega)
        have k3 : wr.cell? ⟨g, 3, none⟩ = some (.map (some bs)) := hP.blk.cell 3
        have hms := hP.ms
        have hkeyI := keyOf_i (i := p1) (by omega)
        have hwf2 := wf64 (a := p2) (by omega) (by omega)
        have hmxS : (tab.take k).length < maxLen := by rw [List.length_take]; unfold maxLen; omega
        rw [← hN] at htk1 htk2
        have HP' := hide hP
        clear hs hput hrow hpm hp hq hn1 hn2 hL hd1 hd2 hpos1 hnx hpt hkl hk hp1 hp2 ha hN hq2 hr hP hszp hb1 hb2
        go_upto_region 17 with (first
          | (go_at_call 46; first | (with_reducible refine htk1.mono ?_; rintro e w5 ⟨rfl, hw5⟩; subst w5) | (with_reducible refine htk2.mono ?_; rintro e w5 ⟨rfl, hw5⟩; subst w5))
          | (at_mapUpdate; refine wpList_mapUpdate_own _ rfl _ _ _ 52 rfl 3 3 keyN Tryz.underlying52 RI bs (tab.take k).length _ rfl hms hmxS _ _ (klI p1) rfl rfl hkeyI (eZ p2) [] (plainElem_int Tryz.underlying3 hwf2) ?_; intro w6 hm6 hg6))
        have hc6 : Chg (fun j => j = bs) wr w6 := (Chg.of_grown hg6).mono fun b _ e => by injection e
        have hput2 := HPUT.out
        rw [← HPP.out.1, ← HPP.out.2] at hput2
        have hm6' := putZ hm6
        rw [hput2] at hm6'
        have hP6 := HP'.out.turnS hc6 hm6'
        have k46 : w6.cell? ⟨g, 4, none⟩ = some (.map (some bf)) := hP6.blk.cell 4
        have hmf6 := hP6.mf
        have hkeyz := keyOf_z (i := p2) (by omega) (by omega)
        have hlkz := (lookZ hmf6 hkeyz).1
        have hgt := hT.out.get p2
        have hstep := hT.out.step (p := p) HPB.out
        rw [← HPT.out, ← HPP.out.2] at hstep
        obtain ⟨cz, hcz⟩ : ∃ cz, cz = (aGet klZ sf1 p2).getD 0 := ⟨_, rfl⟩
        rw [← hcz] at hlkz hgt hstep
        have hlk2 : (tab.take k).length ≤ tab.length := by rw [List.length_take]; omega
        have hi4 : IntKind.i64.wrap (cz + 1) = cz + 1 := IntWalk.i64_in _ (by omega)
        have hwf4 := wf64 (a := cz + 1) (by omega) (by omega)
        have hmxF : sf1.length < maxLen := by have := hT.out.len; unfold maxLen; omega
        have HP6 := hide hP6
        have HST := hide hstep
        clear hP6 hstep hcz hgt hput2 hm6 hm6' hms hg6 k3 y0
        go_wp2_with (at_mapUpdate; refine wpList_mapUpdate_own _ rfl _ _ _ 52 rfl 3 3 keyN Tryz.underlying52 RI bf sf1.length _ rfl hmf6 hmxF _ _ (klZ p2) rfl rfl hkeyz (eZ (cz + 1)) [] (plainElem_int Tryz.underlying3 hwf4) ?_; intro w7 hm7 hg7)
        have hc7 : Chg (fun j => j = bf) w6 w7 := (Chg.of_grown hg7).mono fun b _ e => by injection e
        have hP7 := HP6.out.turnM hc7 (putZ hm7)
        have hcw7 := (hcw.trans hc6 fun j _ e => .inl e).trans hc7 fun j _ e => .inr e
        try simp only [Act.put]
        go_roundw
        case rel => exact ⟨k + 1, _, HKL.out, by rw [HNX.out], hP7, HST, hcw7⟩
        case measure => (have h1 := HN.out; have h2 := HAB.out; have h3 := HA.out; have h4 := HNX.out; simp [intOf]; omega)
      · have hkk : k = tab.length := by omega
        subst hkk
        rw [List.take_length] at hP hT ⊢
        have y1 : wr.cell? (ad.add 1) = some x1 := hcw.cell HX.out.2 (by rw [block_of_add]; exact hnb _ HF.out.1.1)
        replace y1 : wr.cell? ⟨ad.block, ad.off + 1, none⟩ = some x1 := by
          have h9 := add_succ ad 0 1 (by omega)
          rw [hadz, Nat.zero_add] at h9
          rw [← h9]; exact y1
        obtain ⟨N, hN⟩ : ∃ N, N = (tabB tab).length := ⟨_, rfl⟩
        rw [← hN] at hlen y0 ⊢
        have hlt : ¬ N < N := Nat.lt_irrefl _
        have g3 : decide ((N : Int) < (N : Int)) = false := decide_eq_false (Int.lt_irrefl _)
        have HPz := hide hP
        have HCz := hide ((HC12.out.mono (S' := fun b => b = bs ∨ b = bf) fun _ _ h => h.elim).trans (HC3.out.mono (S' := fun b => b = bs ∨ b = bf) fun _ _ h => h.elim) fun _ _ h => h)
        clear hP hr hk hkl hN
        go_wp2_with fail
        go_ret2
        exact ⟨_, sf1, rfl, HPz.out, hT.out.safe hTn, HCz.out.trans hcw fun _ _ h => h⟩
end Go.Proofs.YtfgecgmgbngeaaaGreat

set_option maxRecDepth 100000
namespace Go.Proofs.YtfgecgmgbngeaaaGreat
open Go.RowKit Go.Maps
set_option linter.unusedVariables false
set_option linter.unusedSimpArgs false

/-- a pool just made -/
theorem poolNew {w : World} {T : Nat → Prop} {gd hand : Nat} {pre : ByteArray} {S : DSt} (h : DrvAt w (supP pre) T gd S) (hp : pre.size ≤ 500) {w4 : World}
    (hw : w4 = (((w.alloc (.map #[] 0)).alloc (.map #[] 0)).alloc (.map #[] 0)).alloc (.cells #[.pointer (some ⟨gd, 0, none⟩), .string pre, .int .i64 (hand : Int), .map (some w.heap.size), .map (some (w.heap.size + 1)), .map (some (w.heap.size + 2)), .int .i64 0, .int .i64 0, .int .i64 0, .int .i64 0] 59)) :
    PoolM w4 T (fun b => w.heap.size ≤ b ∧ b < w.heap.size + 4) Non gd (w.heap.size + 3) pre hand S [] [] [] w.heap.size (w.heap.size + 1) (w.heap.size + 2) 0 0 0 0 ∧ Chg Non w w4 ∧ w4.heap.size = w.heap.size + 4 := by
  have s1 : (w.alloc (.map #[] 0)).heap.size = w.heap.size + 1 := Array.size_push ..
  have s2 : ((w.alloc (.map #[] 0)).alloc (.map #[] 0)).heap.size = w.heap.size + 2 := by show (Array.push _ _).size = _; rw [Array.size_push, s1]
  have s3 : (((w.alloc (.map #[] 0)).alloc (.map #[] 0)).alloc (.map #[] 0)).heap.size = w.heap.size + 3 := by show (Array.push _ _).size = _; rw [Array.size_push, s2]
  have s4 : w4.heap.size = w.heap.size + 4 := by rw [hw]; show (Array.push _ _).size = _; rw [Array.size_push, s3]
  have c1 := (Chg.refl Non w).alloc (.map #[] 0)
  have c2 := (Chg.refl Non (w.alloc (.map #[] 0))).alloc (.map #[] 0)
  have c3 := (Chg.refl Non ((w.alloc (.map #[] 0)).alloc (.map #[] 0))).alloc (.map #[] 0)
  have c4 : Chg Non (((w.alloc (.map #[] 0)).alloc (.map #[] 0)).alloc (.map #[] 0)) w4 := by rw [hw]; exact (Chg.refl Non _).alloc _
  have m1 : (w.alloc (.map #[] 0)).ownsMap Tryz.prog 3 RI w.heap.size 0 (dat klI eZ []) := World.ownsMap_made w Tryz.prog 3 RI
  have m2 := World.ownsMap_made (w.alloc (.map #[] 0)) Tryz.prog 3 RI
  rw [s1] at m2
  have m3 := World.ownsMap_made ((w.alloc (.map #[] 0)).alloc (.map #[] 0)) Tryz.prog 3 heldR
  rw [s2] at m3
  have hb := Blk.new (((w.alloc (.map #[] 0)).alloc (.map #[] 0)).alloc (.map #[] 0)) 59 #[.pointer (some ⟨gd, 0, none⟩), .string pre, .int .i64 (hand : Int), .map (some w.heap.size), .map (some (w.heap.size + 1)), .map (some (w.heap.size + 2)), .int .i64 0, .int .i64 0, .int .i64 0, .int .i64 0]
  rw [s3, ← hw] at hb
  have hc := ((c1.trans0 c2).trans0 c3).trans0 c4
  have hTl := h.lt'
  refine ⟨⟨h.c0 hc, hb, ownsMap_chg m1 ((c2.trans0 c3).trans0 c4) (fun h => h), ownsMap_chg m2 (c3.trans0 c4) (fun h => h), ownsMap_chg m3 c4 (fun h => h), fun p hp => by simp at hp, ⟨by omega, by omega, by omega, by omega⟩, fun p hp => by simp at hp, fun p hp => by simp at hp, ⟨by omega, by omega, by omega⟩, fun b hb => hb.elim, fun b hb => by omega, fun b hb e => by have := hTl b e; omega, hp⟩, hc, s4⟩

set_option maxHeartbeats 8000000 in
theorem plOpen {w : World} {T : Nat → Prop} {gd hand : Nat} {pre : ByteArray} {S : DSt} {tab : Slots} (h : DrvAt w (supP pre) T gd S) (hd : S.dead = false) (hp : pre.size ≤ 500) (hh : 1 ≤ hand) (hh2 : hand ≤ 1000000) (ht : TabOk tab)
    (hm : (S.seen (nm pre) = none ∧ tab = []) ∨ (S.seen (nm pre) = some (metaB tab) ∧ ∀ p ∈ tab, 0 ≤ p.2 → (p.2.toNat + 1) * 512 ≤ ((S.seen (nf pre)).getD []).length)) (hbig : ((S.seen (nf pre)).getD []).length ≤ 67109376) :
    Calls Tryz.prog 6 #[.pointer (some ⟨gd, 0, none⟩), .string pre, .int .i64 (hand : Int)] w fun e w' => ∃ g nv TP bs bf ba sf, e = .returned (.tuple #[.pointer (some ⟨g, 0, none⟩), nv, .int .i64 0]) ∧ PoolM w' T TP Non gd g pre hand S tab sf [] bs bf ba 0 0 0 0 ∧ SafeM sf tab ∧ (∀ b, TP b → w.heap.size ≤ b ∧ b < w'.heap.size) ∧ Chg Non w w' := by
  obtain ⟨w4, hw4⟩ : ∃ w4, w4 = (((w.alloc (.map #[] 0)).alloc (.map #[] 0)).alloc (.map #[] 0)).alloc (.cells #[.pointer (some ⟨gd, 0, none⟩), .string pre, .int .i64 (hand : Int), .map (some w.heap.size), .map (some (w.heap.size + 1)), .map (some (w.heap.size + 2)), .int .i64 0, .int .i64 0, .int .i64 0, .int .i64 0] 59) := ⟨_, rfl⟩
  obtain ⟨hP, hc4, hs4⟩ := poolNew h hp hw4
  have hmeta := plMeta hP
  have hmk := @run_makeMap Tryz.prog
  have hmax : max (1 : Int) (hand : Int) = (hand : Int) := by omega
  have s1 : (w.alloc (.map #[] 0)).heap.size = w.heap.size + 1 := Array.size_push ..
  have s2 : ((w.alloc (.map #[] 0)).alloc (.map #[] 0)).heap.size = w.heap.size + 2 := by show (Array.push _ _).size = _; rw [Array.size_push, s1]
  have s3 : (((w.alloc (.map #[] 0)).alloc (.map #[] 0)).alloc (.map #[] 0)).heap.size = w.heap.size + 3 := by show (Array.push _ _).size = _; rw [Array.size_push, s2]
  have HP := hide hP
  have HM := hide hm
  have HD := hide hd
  have HT := hide ht
  have HC4 := hide hc4
  have HS4 := hide hs4
  have HW4 := hide hw4
  clear hP hm hd ht hc4 hs4 hw4 h
  go_enter Tryz.func6, Tryz.ntmps6
  go_upto_region 2 with fail
  rw [← HW4.out]
  clear hmk hmax s1 s2 s3
  obtain ⟨s0, hs0⟩ : ∃ s0, s0 = w.heap.size := ⟨_, rfl⟩
  rw [← hs0] at hmeta HP HS4 ⊢
  have HS0 := hide hs0
  have n4 := HC4.out.size
  have hs4' := HS4.out
  clear hs0 HW4
  have hml := metaB_len tab HT.out.n
  have hbm : ((S.seen (nmB pre).data.toList).getD []).length ≤ 1000000000 := by
    rcases HM.out with ⟨e, _⟩ | ⟨e, _⟩
    · rw [show S.seen (nmB pre).data.toList = none from e]; simp
    · rw [show S.seen (nmB pre).data.toList = some (metaB tab) from e, Option.getD_some]; omega
  have hrd := fun {wx : World} (hc : Chg Non w4 wx) => dgRead (HP.out.drv.c0 hc) HD.out (nmB pre) (by unfold nmB; rw [ByteArray.size_append, show (⟨#[109, 101, 116, 97]⟩ : ByteArray).size = 4 from rfl]; unfold maxLen; omega) hbm
  rcases HM.out with ⟨hm1, hm2⟩ | ⟨hm1, hm2⟩
  · have hm1' : S.seen (nmB pre).data.toList = none := hm1
    simp only [hm1'] at hrd
    have HM2 := hide hm2
    clear hm1 hm1' hm2
    go_wp2_with fail
    refine hmeta.mono ?_
    rintro e w5 ⟨rfl, hc5⟩
    have hrd5 := hrd hc5
    clear hmeta hrd hbm
    go_wp2_with fail
    refine hrd5.mono ?_
    rintro e w6 ⟨hc6, rfl⟩
    clear hrd5
    go_wp2_with fail
    go_ret3
    exact ⟨_, _, _, _, _, _, [], rfl, by rw [HM2.out]; exact (HP.out.c0 hc5).c0 hc6, by rw [HM2.out]; exact CntT.nil_.safe (by simp), fun b hb => by have h1 := HS0.out; have h2 := hc5.size; have h3 := hc6.size; omega, (HC4.out.trans0 hc5).trans0 hc6⟩
  · have hm1' : S.seen (nmB pre).data.toList = some (metaB tab) := hm1
    simp only [hm1'] at hrd
    have HM2 := hide hm2
    clear hm1 hm1' hm2
    go_wp2_with fail
    refine hmeta.mono ?_
    rintro e w5 ⟨rfl, hc5⟩
    have hrd5 := hrd hc5
    clear hmeta hrd hbm
    go_wp2_with fail
    refine hrd5.mono ?_
    rintro e w6 ⟨hc6, u, rfl, hu⟩
    have hld := plLoad ((HP.out.c0 hc5).c0 hc6) HD.out HT.out HM2.out hbig hu.rd
    have HC6 := hide (hc5.trans0 hc6)
    clear hrd5 hu hc5 hc6
    go_wp2_with fail
    refine hld.mono ?_
    rintro e w7 ⟨nv, sf, rfl, hP7, hsf, hc7⟩
    have HP7 := hide hP7
    clear hld hP7
    go_wp2_with fail
    go_ret3
    exact ⟨_, _, _, _, _, _, sf, rfl, HP7.out, hsf, fun b hb => by have h1 := HS0.out; have h2 := HC6.out.size; have h3 := hc7.size; omega, (HC4.out.trans0 HC6.out).trans hc7 fun k hk e => by have h1 := HS0.out; omega⟩
end Go.Proofs.YtfgecgmgbngeaaaGreat
