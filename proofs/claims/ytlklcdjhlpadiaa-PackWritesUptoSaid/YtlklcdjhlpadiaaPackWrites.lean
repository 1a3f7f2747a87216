/- PackWrites, where what it reads is of bulk at most 1048576: what a writer puts, in whatever order, a reader takes. -/
import Derived.Test.YtlklcdjhlpadiaaAwake01
import Derived.Test.YtlklcdjhlpadiaaWtrFlag
import Derived.Test.YtlklcdjhlpadiaaRdr
import Derived.Test.YtlklcdjhlpadiaaOpenIt
import Derived.Deep.RegionHeld3
namespace Go.Proofs.Ytlklcdjhlpadiaa.packWrites
open Go.ChangeShapes Go.WideShapes Go.ChangeAt Go.RowKit Go.Deep
open Go.ChangeMaps (open_string shut_string)
set_option linter.unusedVariables false

/-! ### the plain law -/
def itB (it : It) : List UInt8 := if it.kind = 0 then numB it.num else if it.kind = 1 then partB it.text else flagB it.flag
def itsB (l : List It) : List UInt8 := l.flatMap itB
theorem itsB_take (l : List It) (k : Nat) (h : k < l.length) : itsB (l.take (k + 1)) = itsB (l.take k) ++ itB l[k] := by
  rw [List.take_succ_eq_append_getElem h, itsB, List.flatMap_append]; simp [itsB]
theorem itsB_split (l : List It) (k : Nat) (h : k < l.length) : itsB l = itsB (l.take k) ++ (itB l[k] ++ itsB (l.drop (k + 1))) := by
  rw [← List.append_assoc, ← itsB_take l k h]
  unfold itsB
  rw [← List.flatMap_append, List.take_append_drop]
theorem itB_le (it : It) : (itB it).length ≤ it.text.length + 9 ∧ 0 < (itB it).length := by
  unfold itB
  split
  · have := numB_length it.num
    refine ⟨by omega, ?_⟩
    unfold numB; split <;> simp
  · split
    · have := numB_length it.text.length
      simp only [partB, List.length_append]
      refine ⟨by omega, ?_⟩
      have : 0 < (numB it.text.length).length := by unfold numB; split <;> simp
      omega
    · simp [flagB]
theorem itsB_le : ∀ (l : List It), (itsB l).length ≤ 9 * (l.map fun it => it.text.length + 1).sum
  | [] => by simp [itsB]
  | a :: l => by
    have h1 := (itB_le a).1
    have h2 := itsB_le l
    have e : itsB (a :: l) = itB a ++ itsB l := rfl
    rw [e]
    simp only [List.length_append, List.map_cons, List.sum_cons]; omega
theorem itsB_take_le (l : List It) (k : Nat) : (itsB (l.take k)).length ≤ (itsB l).length := by
  have h : itsB l = itsB (l.take k) ++ itsB (l.drop k) := by
    unfold itsB; rw [← List.flatMap_append, List.take_append_drop]
  rw [h, List.length_append]; omega
theorem take_sum_le (l : List It) (k : Nat) : ((l.take k).map fun it => it.text.length + 1).sum ≤ (l.map fun it => it.text.length + 1).sum := by
  have h : (l.map fun it => it.text.length + 1).sum = ((l.take k).map fun it => it.text.length + 1).sum + ((l.drop k).map fun it => it.text.length + 1).sum := by
    rw [← List.sum_append, ← List.map_append, List.take_append_drop]
  omega
theorem text_le : ∀ (l : List It), ∀ it ∈ l, it.text.length + 1 ≤ (l.map fun it => it.text.length + 1).sum
  | a :: l, it, h => by
    simp only [List.map_cons, List.sum_cons]
    rcases List.mem_cons.1 h with rfl | h
    · omega
    · have := text_le l it h; omega
theorem drop_at (l : List It) (k : Nat) (h : k < l.length) : (itsB l).drop (itsB (l.take k)).length = itB l[k] ++ itsB (l.drop (k + 1)) := by
  rw [itsB_split l k h, List.drop_left]
theorem num_at {l : List It} {k : Nat} (h : k < l.length) (hk : l[k].kind = 0) (hn : U64 l[k].num) : numR (itsB l) (itsB (l.take k)).length 0 = (l[k].num, (itsB (l.take (k + 1))).length, 0) := by
  have e : itB l[k] = numB l[k].num := by rw [itB, if_pos hk]
  rw [numR_ok (by rw [drop_at l k h, e, hd_numB hn]), itsB_take l k h, List.length_append, e]
theorem text_at {l : List It} {k : Nat} (h : k < l.length) (hk : l[k].kind = 1) (hn : U64 l[k].text.length) : textR (itsB l) (itsB (l.take k)).length 0 = (l[k].text, (itsB (l.take (k + 1))).length, 0) := by
  have e : itB l[k] = partB l[k].text := by rw [itB, if_neg (by omega), if_pos hk]
  have hd_ := drop_at l k h
  rw [e] at hd_
  have hnum := numR_ok (l := itsB l) (a := (itsB (l.take k)).length) (n := l[k].text.length) (u := (numB l[k].text.length).length) (by rw [hd_, hd_part hn])
  have hlen := congrArg List.length hd_
  rw [List.length_drop] at hlen
  simp only [partB, List.length_append] at hlen
  have hle := itsB_take_le l k
  rw [textR_ok hnum (by omega), itsB_take l k h, List.length_append, e]
  refine Prod.ext ?_ (Prod.ext ?_ rfl)
  · show ((itsB l).drop _).take _ = _
    rw [← List.drop_drop, hd_, partB, List.append_assoc, List.drop_left, List.take_left]
  · show _ + _ + _ = _ + (partB l[k].text).length
    simp only [partB, List.length_append]; omega
theorem flag_at {l : List It} {k : Nat} (h : k < l.length) (hk0 : l[k].kind ≠ 0) (hk1 : l[k].kind ≠ 1) : flagR (itsB l) (itsB (l.take k)).length 0 = (l[k].flag, (itsB (l.take (k + 1))).length, 0) := by
  have e : itB l[k] = flagB l[k].flag := by rw [itB, if_neg hk0, if_neg hk1]
  rw [flagR, if_neg (by simp), drop_at l k h, e, itsB_take l k h, List.length_append, e]
  cases l[k].flag <;> rfl

theorem Chg.at1 {W w w' : World} {S : Nat → Prop} (h : Chg Non W w) (hc : Chg S w w') (hg : ∀ k, S k → W.heap.size ≤ k) : Chg Non W w' :=
  h.trans hc fun k hk e => absurd hk (Nat.not_lt.2 (hg k e))

theorem cellg {w w' : World} {n j g : Nat} {u : Value} (h : w.cell? ⟨n, j, none⟩ = some u) (hc : Chg (fun k => k = g) w w') (hg : g < n) : w'.cell? ⟨n, j, none⟩ = some u := hc.cell h (fun e => by simp at e; omega)
theorem cellc0 {w w' : World} {p : Addr} {u : Value} (h : w.cell? p = some u) (hc : Chg Non w w') : w'.cell? p = some u := hc.cell h id
theorem rdBg {w w' : World} {N g : Nat} {v : Value} {l : List UInt8} (h : RdB w (fun k => k < N) v l) (hc : Chg (fun k => k = g) w w') (hg : N ≤ g) : RdB w' (fun k => k < N) v l := h.chg hc fun k hk e => by omega
theorem chgq {w w' : World} (h : ∃ k, w' = w.drewN k) : Chg Non w w' := (Chg.refl _ _).quiet h

set_option maxRecDepth 100000 in
set_option maxHeartbeats 2000000 in
theorem walk {W : World} {v0 : Value} {ll : List It} (h0 : RdIt W (fun k => k < W.heap.size) v0 ll) (hz : (ll.map fun it => it.text.length + 1).sum ≤ 1048576) :
    Calls Try.prog 9 #[v0] W fun e W' => e = .returned (.bool true) ∧ Chg Non W W' := by
  obtain ⟨A1, c1, rfl, hc1, hm1⟩ := h0.shape
  unfold maxLen at hm1
  go_enter Try.func9, Try.ntmps9
  go_wp2_with fail
  refine awake01.mono ?_
  rintro e w1 ⟨rfl, g1⟩
  have h1 := h0.c0 g1
  obtain ⟨m, n, hn, hms, hmr, hgt⟩ : ∃ (m : List It) (n : Nat), (m.length ≤ n ∧ n ≤ m.length ∧ m.length ≤ ll.length ∧ m.length ≤ 200) ∧ (m.map fun it => it.text.length + 1).sum ≤ 1048576 ∧ RdIt w1 (fun k => k < W.heap.size) (.slice A1 n c1) m ∧ ((n = 200 ∧ 200 < ll.length) ∨ (n = ll.length ∧ ¬ 200 < ll.length)) := by
    by_cases h4 : 200 < ll.length
    · exact ⟨ll.take 200, 200, ⟨by simp; omega, by simp; omega, by rw [List.length_take]; omega, by simp; omega⟩, Nat.le_trans (take_sum_le ll 200) hz, h1.front (by omega), .inl ⟨rfl, h4⟩⟩
    · exact ⟨ll, ll.length, ⟨Nat.le_refl _, Nat.le_refl _, Nat.le_refl _, by omega⟩, hz, h1, .inr ⟨rfl, h4⟩⟩
  clear h0 h1 hz
  have hbl := itsB_le m
  rcases hgt with ⟨rfl, h4⟩ | ⟨rfl, h4⟩
  case' inl => have hdec : decide ((200 : Int) < (ll.length : Int)) = true := decide_eq_true (by omega)
  case' inr => have hdec : decide ((200 : Int) < (ll.length : Int)) = false := decide_eq_false (by omega)
  all_goals
    go_wp2_with fail
    have hW0 := Wtr.new w1
    have hm0 := hmr.c0 ((Chg.refl Non w1).alloc (.cells #[.slice none 0 0] 61))
    have g2 := g1.alloc (.cells #[.slice none 0 0] 61)
    have hgW : W.heap.size ≤ w1.heap.size := g1.size
    generalize w1.alloc (.cells #[.slice none 0 0] 61) = w2 at hW0 hm0 g2 ⊢
    generalize w1.heap.size = g at hW0 hgW ⊢
    clear hmr g1
    go_loopw [19] (fun iv wr => ∃ (i : Nat) (v' : Value), i ≤ m.length ∧ iv = .int .i64 i ∧ Wtr wr g g v' (itsB (m.take i)) ∧ RdIt wr (fun k => k < W.heap.size) _ m ∧ Chg Non W wr) (fun iv _ => m.length - (intOf iv).toNat)
    case atStart => exact ⟨0, _, by omega, rfl, hW0, hm0, g2⟩
    case round =>
      clear hW0 hm0 g2
      obtain ⟨i, v', hi, rfl, hW, hm, hcw⟩ := hrel
      by_cases h5 : i < m.length
      · obtain ⟨ad, rfl, hadF, hk0, hk1, hu64, ⟨x, hk2, hx⟩, hk3⟩ := hm.at_ h5
        rw [add_succ ad (i * 4) 1 (by omega)] at hk1
        rw [add_succ ad (i * 4) 2 (by omega)] at hk2
        rw [add_succ ad (i * 4) 3 (by omega)] at hk3
        have htk := itsB_take m i h5
        have hle := itsB_take_le m (i + 1)
        rw [htk, List.length_append] at hle
        have hpos := (itB_le m[i]).2
        have htl := text_le m m[i] (List.getElem_mem h5)
        obtain ⟨it, hit⟩ : ∃ it, it = m[i] := ⟨_, rfl⟩
        rw [← hit] at hk0 hk1 hk3 hu64 hx htk hle hpos htl
        obtain ⟨kd, nm, tx, fl⟩ := it
        simp only at hk0 hk1 hk2 hk3 hu64 hx htl
        have htl2 : tx.length ≤ 1048576 := by omega
        obtain ⟨X, nx, cx, rfl⟩ : ∃ X nx cx, x = .slice X nx cx := by obtain ⟨X, cx, e, _⟩ := hx.shape; exact ⟨X, _, cx, e⟩
        obtain ⟨cur, hcur⟩ : ∃ cur, cur = itsB (m.take i) := ⟨_, rfl⟩
        rw [← hcur] at hW htk hle
        have HT := hide htk
        have HU := hide hu64
        have hcl : cur.length + (itB ⟨kd, nm, tx, fl⟩).length ≤ 9437184 := by omega
        have hkd : decide ((i : Int) < 200) = true := decide_eq_true (by omega)
        have hkd2 : decide ((i : Int) < (ll.length : Int)) = true := decide_eq_true (by omega)
        clear hcur htk hle hit hu64 htl
        have hW1 := hW.al (.cells #[.int .i64 kd, .int .u64 (nm : Int), .slice X nx cx, .bool fl] 66)
        have hx1 := hx.al (.cells #[.int .i64 kd, .int .u64 (nm : Int), .slice X nx cx, .bool fl] 66)
        have hm1 := hm.c0 ((Chg.refl Non wr).alloc (.cells #[.int .i64 kd, .int .u64 (nm : Int), .slice X nx cx, .bool fl] 66))
        have hcw1 := hcw.alloc (.cells #[.int .i64 kd, .int .u64 (nm : Int), .slice X nx cx, .bool fl] 66)
        have hblk := Blk.new wr 66 #[.int .i64 kd, .int .u64 (nm : Int), .slice X nx cx, .bool fl]
        have q0 := hblk.cell 0
        have q1 := hblk.cell 1
        have q2 := hblk.cell 2
        have q3 := hblk.cell 3
        simp at q0 q1 q2 q3
        have hgs : g < wr.heap.size := hW.blk.lt
        by_cases hk0' : kd = 0
        · subst hk0'
          have hu := RdU.lit (wr.alloc (.cells #[.int .i64 0, .int .u64 (nm : Int), .slice X nx cx, .bool fl] 66)) 29 (0, 0) #[.int .u64 (nm : Int)] [nm] 1 rfl rfl (by simp [maxLen]) (by intro y hy; simp at hy; subst hy; exact HU.out)
          rw [show (wr.alloc (.cells #[.int .i64 0, .int .u64 (nm : Int), .slice X nx cx, .bool fl] 66)).heap.size = wr.heap.size + 1 by simp] at hu
          have hib : itB ⟨0, nm, tx, fl⟩ = numB nm := by rw [itB, if_pos rfl]
          have hnum := wtrNum (hW1.al (.cells #[.int .u64 (nm : Int)] 29)) hu (by simp only [List.length_cons, List.length_nil]; omega)
          rw [show numsB [nm] = itB ⟨0, nm, tx, fl⟩ by rw [hib]; simp [numsB]] at hnum
          have hm2 := hm1.c0 ((Chg.refl Non _).alloc (.cells #[.int .u64 (nm : Int)] 29))
          have hcw2 := hcw1.alloc (.cells #[.int .u64 (nm : Int)] 29)
          have hwlt := (hW1.al (.cells #[.int .u64 (nm : Int)] 29)).lt
          clear hib hu
          go_wp2_with fail
          refine (wtrLen hW1).mono ?_
          rintro e wl ⟨rfl, hwl⟩
          subst hwl
          go_wp2_with fail
          refine hnum.mono ?_
          rintro e wz ⟨rfl, vz, hWz, cz, hGz⟩
          have hmz := hm2.chg cz fun k hk hb => by have := (hwlt k hb).1; omega
          have hcz := Chg.at1 hcw2 cz fun k hk => by have := (hwlt k hk).1; omega
          clear hnum hW hW1 hm hm1 hm2 hcw hcw1 hcw2 hwlt hblk q0 q1 q2 q3 cz hGz hx hx1
          have hnl : decide (((cur ++ itB ⟨0, nm, tx, fl⟩).length : Int) ≤ (cur.length : Int)) = false := decide_eq_false (by rw [List.length_append]; omega)
          rw [← HT.out] at hWz hnl
          obtain ⟨nx2, hnx2⟩ : ∃ nx2, nx2 = itsB (m.take (i + 1)) := ⟨_, rfl⟩
          have HN2 := hide hnx2
          have hnxl : nx2.length ≤ 9437184 := by rw [hnx2, HT.out, List.length_append]; omega
          have hnlN : ¬ (nx2.length ≤ cur.length) := by rw [hnx2, HT.out, List.length_append]; omega
          rw [← hnx2] at hWz hnl
          clear hnx2
          go_wp2_with fail
          refine (wtrLen hWz).mono ?_
          rintro e wl ⟨rfl, hwl⟩
          subst hwl
          go_wp2_with fail
          refine (wtrLen hWz).mono ?_
          rintro e wl ⟨rfl, hwl⟩
          subst hwl
          go_wp2_with fail
          refine (wtrBytes hWz (by omega)).mono ?_
          rintro e wb ⟨ub, rfl, hub, cb⟩
          obtain ⟨Ub, cub, rfl, _, _⟩ := hub.shape
          have hWb := hWz.c0 cb
          have hmb := hmz.c0 cb
          have hcb := hcz.trans0 cb
          rw [HN2.out] at hWb
          clear hWz hmz hcz hub cb
          go_wp2_with fail
          go_round
          case rel => exact ⟨i + 1, _, by omega, by go_num, hWb, hmb, hcb⟩
          case measure => simp [intOf]; omega
        · by_cases hk1' : kd = 1
          · subst hk1'
            have hib : itB ⟨1, nm, tx, fl⟩ = partB tx := by rw [itB, if_neg (show ¬ ((1 : Int) = 0) by decide), if_pos rfl]
            have hwlt := hW1.lt
            have hsz1 : wr.heap.size < (wr.alloc (.cells #[.int .i64 1, .int .u64 (nm : Int), .slice X nx cx, .bool fl] 66)).heap.size := by simp
            rw [hib] at hcl
            simp only [partB, List.length_append] at hcl
            go_wp2_with fail
            refine (wtrLen hW1).mono ?_
            rintro e wl ⟨rfl, hwl⟩
            subst hwl
            go_wp2_with fail
            refine (refCopy hx1 (by omega)).mono ?_
            rintro e w3 ⟨u3, rfl, hu3, c3⟩
            obtain ⟨U3, n3, c3_, rfl⟩ : ∃ A n c, u3 = .slice A n c := by obtain ⟨A, c, e, _⟩ := hu3.shape; exact ⟨A, _, c, e⟩
            have hW3 := (hW1.c0 c3).al (.cells #[.slice U3 n3 c3_] 22)
            have hm3 := (hm1.c0 c3).c0 ((Chg.refl Non _).alloc (.cells #[.slice U3 n3 c3_] 22))
            have hcw3 := (hcw1.trans0 c3).alloc (.cells #[.slice U3 n3 c3_] 22)
            have hrd := RdBB.one hu3.rd 22
            have hF3 : ∀ k, ((Value.slice U3 n3 c3_).ownBlock = some k ∨ k = w3.heap.size) → ¬ WB g v' k := fun k hk hb => by
              have h1 := (hwlt k hb).2
              rcases hk with hk | hk
              · have := (hu3.lt k hk).1; omega
              · have := c3.size; omega
            have htext := wtrText hW3 hrd hF3 (by simp only [flatB, List.flatMap_cons, List.flatMap_nil, List.append_nil, partB, List.length_append]; omega)
            rw [show flatB [tx] = itB ⟨1, nm, tx, fl⟩ by rw [hib]; simp [flatB]] at htext
            have hwlt3 := hW3.lt
            clear hib hu3 c3 hrd
            go_wp2_with fail
            refine htext.mono ?_
            rintro e wz ⟨rfl, vz, hWz, cz, hGz⟩
            have hmz := hm3.chg cz fun k hk hb => by have := (hwlt3 k hb).1; omega
            have hcz := Chg.at1 hcw3 cz fun k hk => by have := (hwlt3 k hk).1; omega
            have hcl : cur.length + (itB ⟨1, nm, tx, fl⟩).length ≤ 9437184 := by rw [show itB ⟨1, nm, tx, fl⟩ = partB tx by rw [itB, if_neg (show ¬ ((1 : Int) = 0) by decide), if_pos rfl]]; simp only [partB, List.length_append]; omega
            clear htext hW hW1 hW3 hm hm1 hm3 hcw hcw1 hcw3 hwlt hwlt3 hblk q0 q1 q2 q3 cz hGz hx hx1 hF3
            have hnl : decide (((cur ++ itB ⟨1, nm, tx, fl⟩).length : Int) ≤ (cur.length : Int)) = false := decide_eq_false (by rw [List.length_append]; omega)
            rw [← HT.out] at hWz hnl
            obtain ⟨nx2, hnx2⟩ : ∃ nx2, nx2 = itsB (m.take (i + 1)) := ⟨_, rfl⟩
            have HN2 := hide hnx2
            have hnxl : nx2.length ≤ 9437184 := by rw [hnx2, HT.out, List.length_append]; omega
            have hnlN : ¬ (nx2.length ≤ cur.length) := by rw [hnx2, HT.out, List.length_append]; omega
            rw [← hnx2] at hWz hnl
            clear hnx2
            go_wp2_with fail
            refine (wtrLen hWz).mono ?_
            rintro e wl ⟨rfl, hwl⟩
            subst hwl
            go_wp2_with fail
            refine (wtrLen hWz).mono ?_
            rintro e wl ⟨rfl, hwl⟩
            subst hwl
            go_wp2_with fail
            refine (wtrBytes hWz (by omega)).mono ?_
            rintro e wb ⟨ub, rfl, hub, cb⟩
            obtain ⟨Ub, cub, rfl, _, _⟩ := hub.shape
            have hWb := hWz.c0 cb
            have hmb := hmz.c0 cb
            have hcb := hcz.trans0 cb
            rw [HN2.out] at hWb
            clear hWz hmz hcz hub cb
            go_wp2_with fail
            go_round
            case rel => exact ⟨i + 1, _, by omega, by go_num, hWb, hmb, hcb⟩
            case measure => simp [intOf]; omega
          · have hib : itB ⟨kd, nm, tx, fl⟩ = flagB fl := by rw [itB, if_neg hk0', if_neg hk1']
            have n0 : (kd == 0) = false := beq_eq_false_iff_ne.2 hk0'
            have n1 : (kd == 1) = false := beq_eq_false_iff_ne.2 hk1'
            have hcell : ((wr.alloc (.cells #[.int .i64 kd, .int .u64 (nm : Int), .slice X nx cx, .bool fl] 66)).alloc (.cells #[.bool fl] 4)).cell? ⟨(wr.alloc (.cells #[.int .i64 kd, .int .u64 (nm : Int), .slice X nx cx, .bool fl] 66)).heap.size, 0, none⟩ = some (.bool fl) := (Blk.new (wr.alloc (.cells #[.int .i64 kd, .int .u64 (nm : Int), .slice X nx cx, .bool fl] 66)) 4 #[.bool fl]).cell 0
            rw [show (wr.alloc (.cells #[.int .i64 kd, .int .u64 (nm : Int), .slice X nx cx, .bool fl] 66)).heap.size = wr.heap.size + 1 by simp] at hcell
            have hnum := wtrFlag (hW1.al (.cells #[.bool fl] 4)) hcell (by omega)
            rw [← hib] at hnum
            have hm2 := hm1.c0 ((Chg.refl Non _).alloc (.cells #[.bool fl] 4))
            have hcw2 := hcw1.alloc (.cells #[.bool fl] 4)
            have hwlt := (hW1.al (.cells #[.bool fl] 4)).lt
            clear hib hcell hk0' hk1'
            go_wp2_with fail
            refine (wtrLen hW1).mono ?_
            rintro e wl ⟨rfl, hwl⟩
            subst hwl
            go_wp2_with fail
            refine hnum.mono ?_
            rintro e wz ⟨rfl, vz, hWz, cz⟩
            have hmz := hm2.chg cz fun k hk hb => by have := (hwlt k hb).1; omega
            have hcz := Chg.at1 hcw2 cz fun k hk => by have := (hwlt k hk).1; omega
            clear hnum hW hW1 hm hm1 hm2 hcw hcw1 hcw2 hwlt hblk q0 q1 q2 q3 cz hx hx1
            have hnl : decide (((cur ++ itB ⟨kd, nm, tx, fl⟩).length : Int) ≤ (cur.length : Int)) = false := decide_eq_false (by rw [List.length_append]; omega)
            rw [← HT.out] at hWz hnl
            obtain ⟨nx2, hnx2⟩ : ∃ nx2, nx2 = itsB (m.take (i + 1)) := ⟨_, rfl⟩
            have HN2 := hide hnx2
            have hnxl : nx2.length ≤ 9437184 := by rw [hnx2, HT.out, List.length_append]; omega
            have hnlN : ¬ (nx2.length ≤ cur.length) := by rw [hnx2, HT.out, List.length_append]; omega
            rw [← hnx2] at hWz hnl
            clear hnx2
            go_wp2_with fail
            refine (wtrLen hWz).mono ?_
            rintro e wl ⟨rfl, hwl⟩
            subst hwl
            go_wp2_with fail
            refine (wtrLen hWz).mono ?_
            rintro e wl ⟨rfl, hwl⟩
            subst hwl
            go_wp2_with fail
            refine (wtrBytes hWz (by omega)).mono ?_
            rintro e wb ⟨ub, rfl, hub, cb⟩
            obtain ⟨Ub, cub, rfl, _, _⟩ := hub.shape
            have hWb := hWz.c0 cb
            have hmb := hmz.c0 cb
            have hcb := hcz.trans0 cb
            rw [HN2.out] at hWb
            clear hWz hmz hcz hub cb
            go_wp2_with fail
            go_round
            case rel => exact ⟨i + 1, _, by omega, by go_num, hWb, hmb, hcb⟩
            case measure => simp [intOf]; omega
      · have hkd1 : 200 ≤ m.length → ¬ i < 200 := fun h => by omega
        have hkd2 : ll.length ≤ m.length → ¬ i < ll.length := fun h => by omega
        first
          | have hkd3 := hkd1 hn.2.1
          | have hkd3 := hkd2 hn.2.1
        try have hkn1 : ¬ i < 200 := by have := hn.2.1; omega
        try have hkn2 : ¬ i < ll.length := by have := hn.2.1; omega
        have htake := hide (show m.take i = m from List.take_of_length_le (by omega))
        rw [htake.out] at hW
        clear hkd1 hkd2
        go_wp2_with fail
        refine (wtrBytes hW (by omega)).mono ?_
        rintro e w3 ⟨ub, rfl, hub, c3⟩
        have hm3 := hm.c0 c3
        have hcw3 := hcw.trans0 c3
        clear hW hm hcw
        go_wp2_with fail
        refine (packRead hub.rd (by omega)).mono ?_
        rintro e w4 ⟨g2, rfl, hg2, hR0, c4⟩
        have hgW2 : W.heap.size ≤ g2 := Nat.le_trans hcw3.size hg2
        have hR4 : Rdr w4 (fun b => W.heap.size ≤ b) g2 (itsB m) 0 0 := by
          obtain ⟨x1, x2, x3, x4⟩ := hR0
          exact ⟨x1, x2, x3, x4.mono fun q hq => ⟨Nat.le_trans hcw3.size hq.1, hq.2⟩⟩
        have hm4 := hm3.c0 c4
        have hcw4 := hcw3.trans0 c4
        clear hub c3 hm3 hcw3 hR0 c4 hkd3
        go_wp2_with fail
        go_loopw [57] (fun iv wr => ∃ (i : Nat), i ≤ m.length ∧ iv = .int .i64 i ∧ Rdr wr (fun b => W.heap.size ≤ b) g2 (itsB m) (itsB (m.take i)).length 0 ∧ RdIt wr (fun k => k < W.heap.size) _ m ∧ Chg Non W wr) (fun iv _ => m.length - (intOf iv).toNat)
        case atStart => exact ⟨0, by omega, rfl, by simpa [itsB] using hR4, hm4, hcw4⟩
        case round =>
          clear hR4 hm4 hcw4
          obtain ⟨i, hi, rfl, hR, hm, hcw⟩ := hrel
          by_cases h5 : i < m.length
          · obtain ⟨ad, rfl, hadF, hk0, hk1, hu64, ⟨x, hk2, hx⟩, hk3⟩ := hm.at_ h5
            rw [add_succ ad (i * 4) 1 (by omega)] at hk1
            rw [add_succ ad (i * 4) 2 (by omega)] at hk2
            rw [add_succ ad (i * 4) 3 (by omega)] at hk3
            have htl := text_le m m[i] (List.getElem_mem h5)
            have HNUM := fun h => hide (num_at h5 h hu64)
            have HTEXT := fun h => hide (text_at h5 h (by unfold U64; omega))
            have HFLAG := fun h h' => hide (flag_at h5 h h')
            obtain ⟨it, hit⟩ : ∃ it, it = m[i] := ⟨_, rfl⟩
            rw [← hit] at hk0 hk1 hk3 hu64 hx htl HNUM HTEXT HFLAG
            obtain ⟨kd, nm, tx, fl⟩ := it
            simp only at hk0 hk1 hk3 hu64 hx htl HNUM HTEXT HFLAG
            have htl2 : tx.length ≤ 1048576 := by omega
            obtain ⟨X, nx, cx, rfl⟩ : ∃ X nx cx, x = .slice X nx cx := by obtain ⟨X, cx, e, _⟩ := hx.shape; exact ⟨X, _, cx, e⟩
            have hkd : decide ((i : Int) < 200) = true := decide_eq_true (by omega)
            have hkd2 : decide ((i : Int) < (ll.length : Int)) = true := decide_eq_true (by omega)
            clear hit hu64 htl
            have hx1 := hx.al (.cells #[.int .i64 kd, .int .u64 (nm : Int), .slice X nx cx, .bool fl] 66)
            have hm1 := hm.c0 ((Chg.refl Non wr).alloc (.cells #[.int .i64 kd, .int .u64 (nm : Int), .slice X nx cx, .bool fl] 66))
            have hcw1 := hcw.alloc (.cells #[.int .i64 kd, .int .u64 (nm : Int), .slice X nx cx, .bool fl] 66)
            have hR1 := hR.c0 ((Chg.refl Non wr).alloc (.cells #[.int .i64 kd, .int .u64 (nm : Int), .slice X nx cx, .bool fl] 66))
            have hgs : g2 < wr.heap.size := hR.lt
            have hblk := Blk.new wr 66 #[.int .i64 kd, .int .u64 (nm : Int), .slice X nx cx, .bool fl]
            have q0 := hblk.cell 0
            have q1 := hblk.cell 1
            have q2 := hblk.cell 2
            have q3 := hblk.cell 3
            simp at q0 q1 q2 q3
            by_cases hk0' : kd = 0
            · subst hk0'
              have HN := (HNUM rfl).out
              clear HNUM HTEXT HFLAG
              have qd : (wr.alloc (.cells #[.int .i64 0, .int .u64 (nm : Int), .slice X nx cx, .bool fl] 66)).drew.cell? ⟨wr.heap.size, 1, none⟩ = some (.int .u64 (nm : Int)) := (hblk.cell 1).trans rfl
              have hRd : Rdr (wr.alloc (.cells #[.int .i64 0, .int .u64 (nm : Int), .slice X nx cx, .bool fl] 66)).drew _ g2 (itsB m) (itsB (m.take i)).length 0 := hR1.c0 ((Chg.refl Non _).drew)
              have hcall := rdrNum hRd
              rw [HN] at hcall
              clear HN
              simp only at hcall
              go_wp2_with fail
              go_region_held3 (fun w' => w'.cell? ⟨wr.heap.size, 1, none⟩ = some (.int .u64 (nm : Int))) (first | exact qd | exact cellg qd hcy hgs) (first
                | (go_at_call 24; refine hcall.mono ?_; rintro e wy ⟨rfl, hRz, hcy⟩))
              have hmz := (hm1.c0 ((Chg.refl Non _).drew)).chg hcy fun k hk e => by omega
              have hcz := Chg.at1 hcw1.drew hcy fun k hk => by omega
              clear hcall hRd qd hR hR1 hm hm1 hcw hcw1 hblk q0 q1 q2 q3 hx hx1 hcy
              go_wp2_with fail
              go_round
              case rel => exact ⟨i + 1, by omega, by go_num, hRz, hmz, hcz⟩
              case measure => simp [intOf]; omega
            · by_cases hk1' : kd = 1
              · subst hk1'
                have HN := (HTEXT rfl).out
                clear HNUM HTEXT HFLAG
                have qd : (wr.alloc (.cells #[.int .i64 1, .int .u64 (nm : Int), .slice X nx cx, .bool fl] 66)).drew.cell? ⟨wr.heap.size, 2, none⟩ = some (.slice X nx cx) := (hblk.cell 2).trans rfl
                have hRd : Rdr (wr.alloc (.cells #[.int .i64 1, .int .u64 (nm : Int), .slice X nx cx, .bool fl] 66)).drew _ g2 (itsB m) (itsB (m.take i)).length 0 := hR1.c0 ((Chg.refl Non _).drew)
                have hcall := rdrText hRd (by omega)
                rw [HN] at hcall
                clear HN
                simp only at hcall
                have hxd := hx1.dr
                go_wp2_with fail
                go_region_held3 (fun w' => w'.cell? ⟨wr.heap.size, 2, none⟩ = some (.slice X nx cx)) (first | exact qd | exact cellg qd hcy hgs | exact cellc0 (cellg qd hcy hgs) hce) (first
                  | (go_at_call 25; refine hcall.mono ?_; rintro e wy ⟨ux, rfl, hux, hRy, hcy⟩; have hxy := rdBg hxd hcy hgW2)
                  | (go_at_call 16; refine (refEqual_true hux.rd hxy).mono ?_; rintro e we ⟨rfl, hqe⟩; have hce := chgq hqe))
                have hRz := hRy.c0 hce
                have hmz := ((hm1.c0 ((Chg.refl Non _).drew)).chg hcy fun k hk e => by omega).c0 hce
                have hcz := (Chg.at1 hcw1.drew hcy fun k hk => by omega).trans0 hce
                clear hcall hRd qd hR hR1 hm hm1 hcw hcw1 hblk q0 q1 q2 q3 hx hx1 hcy hxd hxy hux hRy hce hqe
                go_wp2_with fail
                go_round
                case rel => exact ⟨i + 1, by omega, by go_num, hRz, hmz, hcz⟩
                case measure => simp [intOf]; omega
              · have HN := (HFLAG hk0' hk1').out
                have n0 : (kd == 0) = false := beq_eq_false_iff_ne.2 hk0'
                have n1 : (kd == 1) = false := beq_eq_false_iff_ne.2 hk1'
                clear HNUM HTEXT HFLAG hk0' hk1'
                have qd : (wr.alloc (.cells #[.int .i64 kd, .int .u64 (nm : Int), .slice X nx cx, .bool fl] 66)).drew.cell? ⟨wr.heap.size, 3, none⟩ = some (.bool fl) := (hblk.cell 3).trans rfl
                have hRd : Rdr (wr.alloc (.cells #[.int .i64 kd, .int .u64 (nm : Int), .slice X nx cx, .bool fl] 66)).drew _ g2 (itsB m) (itsB (m.take i)).length 0 := hR1.c0 ((Chg.refl Non _).drew)
                have hcall := rdrFlag hRd
                rw [HN] at hcall
                clear HN
                simp only at hcall
                go_wp2_with fail
                go_region_held3 (fun w' => w'.cell? ⟨wr.heap.size, 3, none⟩ = some (.bool fl)) (first | exact qd | exact cellg qd hcy hgs) (first
                  | (go_at_call 26; refine hcall.mono ?_; rintro e wy ⟨rfl, hRz, hcy⟩))
                have hmz := (hm1.c0 ((Chg.refl Non _).drew)).chg hcy fun k hk e => by omega
                have hcz := Chg.at1 hcw1.drew hcy fun k hk => by omega
                clear hcall hRd qd hR hR1 hm hm1 hcw hcw1 hblk q0 q1 q2 q3 hx hx1 hcy
                go_wp2_with fail
                go_round
                case rel => exact ⟨i + 1, by omega, by go_num, hRz, hmz, hcz⟩
                case measure => simp [intOf]; omega
          · have hkd1 : 200 ≤ m.length → ¬ i < 200 := fun h => by omega
            have hkd2 : ll.length ≤ m.length → ¬ i < ll.length := fun h => by omega
            first
              | have hkd3 := hkd1 hn.2.1
              | have hkd3 := hkd2 hn.2.1
            try have hkn1 : ¬ i < 200 := by have := hn.2.1; omega
            try have hkn2 : ¬ i < ll.length := by have := hn.2.1; omega
            have htake := hide (show m.take i = m from List.take_of_length_le (by omega))
            rw [htake.out] at hR
            have hclose := rdrClose hR
            rw [closeR, if_neg (by simp)] at hclose
            have hleft := rdrLeft hR
            rw [Nat.sub_self] at hleft
            clear hkd1 hkd2 hm
            go_wp2_with fail
            refine (rdrErr hR).mono ?_
            rintro e wz ⟨rfl, hwz⟩
            subst hwz
            go_wp2_with fail
            refine hleft.mono ?_
            rintro e w9 ⟨rfl, hq9⟩
            have c9 := (Chg.refl Non _).quiet hq9
            have hR9 := hR.c0 c9
            have hclose9 := rdrClose hR9
            rw [closeR, if_neg (by simp)] at hclose9
            have hcw9 := hcw.trans0 c9
            clear hclose hleft hR hcw c9 hq9
            go_wp2_with fail
            refine hclose9.mono ?_
            rintro e w10 ⟨rfl, hq10⟩
            go_wp2_with fail
            go_ret
            exact ⟨rfl, hcw9.quiet hq10⟩

set_option maxRecDepth 100000 in
theorem contract (H : Type) (enc : TypeId × Value → H) (W : World) (base : Nat) (args : Array Value) (ds gs : List (DataW H)) (before : List MemPlace)
    (hval : ∀ (j : Nat) t v, Try.f9.params[j]? = some t → args[j]? = some v → Value.okWide Try.prog W .any base t v)
    (hW : DataW.Whole enc Try.prog Try.f9.params.toList Rows.packWritesSpec.vars false W args.toList ds gs before) (hk : Rows.uptoSmall H (ds ++ gs) = true) :
    Calls Try.prog 9 args W fun e W' => ∃ v, e = .returned v ∧ Rows.packWritesSpec.post enc Try.prog Try.f9 false true false false W args v W' := by
  have hW' := hW
  obtain ⟨p, q, hA0, hV, rfl, hfz, hnd⟩ := hW
  have hA : DataW.TrodAll enc Try.prog W 0 (fun _ => true) true Try.f9.params.toList args.toList ds p := hA0
  rw [Try.params9] at hA hval
  obtain ⟨v0, vs0, d0, ds0, p0, q0, hargs, rfl, rfl, h0, r0⟩ := trodAll_cons hA
  obtain ⟨rfl, rfl, rfl⟩ := trodAll_nil r0
  obtain rfl : args = #[v0] := by cases args; simp_all
  obtain ⟨rfl, rfl⟩ := trodVars_none hV
  have k0 := h0
  have lt0 : ∀ x ∈ p0, x.block < W.heap.size := by obtain ⟨m, hm⟩ := k0; exact DataW.trod_lt m _ _ _ hm
  obtain ⟨l0, w0, z0⟩ := openIt (hval 0 64 v0 rfl rfl) h0
  have hb := of_decide_eq_true hk
  simp only [List.append_nil, Rows.uptoBulkAll] at hb
  have z01 := z0.1
  refine (walk w0 (by omega)).mono fun e W' ⟨he, bel0⟩ => ?_
  have bel := bel0.below
  subst he
  exact ⟨_, rfl, _, _, _, [], _, [], hW', trodAll_mk1 (shut_bool Try.underlying4 _), (trodAll_cons_mk (Below.trod laidOut (by kernel_rfl) (of_decide_eq_true (by kernel_rfl)) k0 bel lt0) trodAll_mk0), rfl, bel.frame _, fun h => by cases h⟩

set_option maxRecDepth 100000 in
theorem lifted (os : Os) (started : os.Started) (H : Type) (enc : TypeId × Value → H) (F : Stop.Interp) :
    ReturnsInHanded {} Try.checked os 9 .any ((Rows.OpenSpec.upto Rows.packWritesSpec).pre6 enc Try.prog Try.f9 Rows.packWritesUptoRow.domain false) (((Rows.OpenSpec.upto Rows.packWritesSpec).at F).post enc Try.prog Try.f9 false true false false) := by
  refine returnsInHanded_of_cond (C := Try.checked) (s := Rows.OpenSpec.upto Rows.packWritesSpec) (k := Rows.uptoSmall) rfl own started (by kernel_rfl) Try.func9
    (OpenSpec.witness (enc := enc) (C := Try.checked) (s := Rows.OpenSpec.upto Rows.packWritesSpec) (k := Rows.uptoSmall) rfl false ⟨#[], #[.slice none 0 0], []⟩ 8 (by kernel_rfl) (by kernel_rfl) (by kernel_rfl)
      (x := ([.nil], [], [])) (by kernel_rfl) rfl (by kernel_rfl)) ?_
  intro W base args ds gs before hval hW _ hk _
  exact contract H enc W base args ds gs before hval hW hk

theorem over : Rows.packWritesUptoRow.holds Try.pinned (Rows.OpenSpec.upto Rows.packWritesSpec) :=
  OpenClaim.holds_of_cond 9 Try.f9 rfl rfl rfl rfl rfl rfl rfl ⟨rfl, rfl, rfl, rfl, rfl⟩ rfl rfl rfl rfl rfl (by kernel_rfl) Try.func9 (by kernel_rfl)
    (of_decide_eq_true (by kernel_rfl)) (by unfold Func.isWrapper; first | (rw [if_pos (by decide +kernel)]; kernel_rfl) | (rw [if_neg (by decide +kernel)]; exact ⟨rfl, rfl⟩))
    (fun os started H enc _ F => lifted os started H enc F)

theorem proved : Rows.PackWritesUptoSaid := over
end Go.Proofs.Ytlklcdjhlpadiaa.packWrites
