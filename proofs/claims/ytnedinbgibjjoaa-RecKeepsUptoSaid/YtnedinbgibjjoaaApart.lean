/- The walk of groyneref01.Apart. -/
import Derived.Test.YtnedinbgibjjoaaApM
import Derived.Test.YtnedinbgibjjoaaSpare
import Derived.StillTailTactics
namespace Go.Proofs.Ytnedinbgibjjoaa
open Go.RowKit

def midC (con : Nat → List UInt8) (i k j : Nat) : List UInt8 := if j < i then stL j (con j).length else if j = i then stL i k ++ (con j).drop k else con j
theorem midC_len (con : Nat → List UInt8) (i k : Nat) (hk : k ≤ (con i).length) : (midC con i k i).length = (con i).length := by
  rw [midC, if_neg (by omega), if_pos rfl, List.length_append, stL_len, List.length_drop]; omega
theorem midC_step (con : Nat → List UInt8) (i k : Nat) (hk : k < (con i).length) (j : Nat) : (if j = i then (midC con i k i).set k (stampB i k) else midC con i k j) = midC con i (k + 1) j := by
  by_cases hji : j = i
  · subst hji
    rw [if_pos rfl, midC, midC, if_neg (by omega), if_pos rfl, if_neg (by omega), if_pos rfl, stL_succ]
    rw [List.set_append_right _ _ (by rw [stL_len]; omega), stL_len, Nat.sub_self, List.drop_eq_getElem_cons hk, List.set_cons_zero, List.append_assoc]
    rfl
  · rw [if_neg hji, midC, midC]
    by_cases hlt : j < i
    · rw [if_pos hlt, if_pos hlt]
    · rw [if_neg hlt, if_neg hji, if_neg hlt, if_neg hji]
theorem midC_next (con : Nat → List UInt8) (i j : Nat) : midC con i (con i).length j = midC con (i + 1) 0 j := by
  rw [midC, midC]
  by_cases hlt : j < i
  · rw [if_pos hlt, if_pos (by omega)]
  · by_cases hji : j = i
    · subst hji
      rw [if_neg hlt, if_pos rfl, if_pos (by omega), List.drop_length, List.append_nil]
    · rw [if_neg hlt, if_neg hji, if_neg (by omega)]
      by_cases h2 : j = i + 1
      · rw [if_pos h2]; simp [stL]
      · rw [if_neg h2]
theorem midC_zero (con : Nat → List UInt8) (j : Nat) : con j = midC con 0 0 j := by
  rw [midC, if_neg (by omega)]
  by_cases h : j = 0
  · rw [if_pos h]; simp [stL]
  · rw [if_neg h]
theorem midC_end (con : Nat → List UInt8) (n j : Nat) (h : j < n) : midC con n 0 j = stL j (con j).length := by rw [midC, if_pos h]
theorem OwnB.slc {w : World} {base : Nat} {v : Value} {l : List UInt8} (h : OwnB w base v l) : ∃ A n c, v = .slice A n c := by
  obtain ⟨A, c, e, _⟩ := h.shape
  exact ⟨A, _, c, e⟩
theorem OwnB.form {w : World} {base : Nat} {v : Value} {l : List UInt8} {n : Nat} (h : OwnB w base v l) (hl : l.length = n) (hn : 0 < n) : ∃ g c, v = .slice (some ⟨g, 0, none⟩) n c ∧ base ≤ g ∧ g < w.heap.size := by
  subst hl
  exact World.ownsRow.form h hn
theorem run_lenn {w : World} {base n : Nat} {v : Value} {l : List UInt8} (h : OwnB w base v l) (hl : l.length = n) (w' : World) (ty : TypeId) : (Builtin.len_ #[28] ty #[v]).run Try.prog w' = .ok (.int .i64 (n : Int)) w' := by
  subst hl
  exact run_len8 h.rd w' ty

/-- what the third part's two appends hand on, one to the other -/
theorem apart3 {w w5 : World} {base H T i Li : Nat} {vs xs : List Value} {Ls : Nat → Nat} {lv x : Value} {GA : Option Addr} {GL gc : Nat} (t : TypeId)
    (hLo : LongsC w H vs Ls lv xs) (hx : vs[i]? = some x) (HVLT : Hid (∀ (j : Nat) (x : Value) (b : Nat), vs[j]? = some x → x.ownBlock = some b → base ≤ b ∧ b < H))
    (HSEP : Hid (∀ (j k : Nat) (x y : Value) (b : Nat), vs[j]? = some x → vs[k]? = some y → x.ownBlock = some b → y.ownBlock = some b → j = k))
    (HLT : Hid (∀ (b : Nat), lv.ownBlock = some b → H ≤ b ∧ b < T)) (hmod : xs.length % vs.length = i) (hLsi : Ls xs.length = Li + 33) (hHT : H ≤ T) (hTw : T < w.heap.size)
    (hG5 : OwnB w5 base (.slice GA GL gc) (stL i (Li + 33))) (hap5 : Ap i x w w5) (hat5 : (Value.slice GA GL gc).ownBlock = x.ownBlock ∨ (Value.slice GA GL gc).ownBlock = some w.heap.size) :
    LongsC (w5.alloc (.cells #[.slice GA GL gc] t)) H vs Ls lv xs ∧ OwnB (w5.alloc (.cells #[.slice GA GL gc] t)) 0 (.slice GA GL gc) (stL (xs.length % vs.length) (Ls xs.length)) ∧
      (∀ b, (Value.slice GA GL gc).ownBlock = some b → lv.ownBlock ≠ some b ∧ ((∃ y, vs[xs.length % vs.length]? = some y ∧ y.ownBlock = some b) ∨ H ≤ b)) ∧ H ≤ (w5.alloc (.cells #[.slice GA GL gc] t)).heap.size := by
  have hLo5 := hLo.ap hap5 (fun b hb => (HVLT.out i x b hx hb).2) fun j y b hy hyb hxb => HSEP.out j i y x b hy hx hyb hxb
  have hTw5 := Nat.lt_of_lt_of_le hTw hap5.chg.size
  have ca := (Chg.refl Non w5).alloc (.cells #[.slice GA GL gc] t)
  have hvb : ∀ b, (Value.slice GA GL gc).ownBlock = some b → x.ownBlock = some b ∨ T < b := fun b hb => by
    rcases hat5 with e | e
    · exact .inl (e ▸ hb)
    · rw [e] at hb; injection hb with hb; exact .inr (hb ▸ hTw)
  refine ⟨hLo5.c0 ca, ?_, fun b hb => ?_, by have := ca.size; omega⟩
  · rw [hLsi, hmod]
    exact (hG5.low (Nat.zero_le _)).chg ca fun _ _ h => h
  · rcases hvb b hb with h | h
    · exact ⟨fun e => by have := (HLT.out b e).1; have := (HVLT.out i x b hx h).2; omega, .inl ⟨x, by rw [hmod]; exact hx, h⟩⟩
    · exact ⟨fun e => by have := (HLT.out b e).2; omega, .inr (by omega)⟩

/-- the blocks of the lists -/
def VB (vs : List Value) : Nat → Prop := fun k => ∃ (j : Nat) (x : Value), vs[j]? = some x ∧ x.ownBlock = some k

set_option maxRecDepth 100000 in
set_option maxHeartbeats 4000000 in
theorem refApartC {w : World} {base : Nat} {v0 : Value} {vs : List Value} {con : Nat → List UInt8} (hR : RowsC w base v0 vs con) (hn : vs.length ≤ 1000) (hl : ∀ j, (con j).length ≤ 1000000000) (hbase : base ≤ w.heap.size) :
    Calls Try.prog 18 #[v0] w fun e w' => e = .returned (.bool true) ∧ Chg (VB vs) w w' := by
  obtain ⟨A, c, rfl, hcc, hcm⟩ := hR.shape
  unfold maxLen at hcm
  obtain ⟨n, hnv⟩ : ∃ n, n = vs.length := ⟨_, rfl⟩
  have hlen := hide hl
  have HNV := hide hnv
  rw [← hnv] at hn hcc hR ⊢
  clear hl hnv
  go_enter Try.func18, Try.ntmps18
  go_wp2_with fail
  -- stamped over
  go_loopw [4] (fun iv wr => ∃ (i : Nat), iv = .int .i64 (i : Int) ∧ i ≤ n ∧ RowsC wr base (.slice A n c) vs (midC con i 0) ∧ Chg (VB vs) w wr) (fun iv _ => n - (intOf iv).toNat)
  case atStart => exact ⟨0, rfl, Nat.zero_le _, (hR.con_eq fun j _ => midC_zero con j), Chg.refl _ _⟩
  case round =>
    clear hR
    obtain ⟨i, rfl, hi, hR, hcw⟩ := hrel
    by_cases h1 : i < n
    · have hki : (i : Int) < (n : Int) := by omega
      have hi0 : (0 : Int) ≤ (i : Int) := by omega
      obtain ⟨x, hx⟩ : ∃ x, vs[i]? = some x := ⟨_, List.getElem?_eq_getElem (by rw [← HNV.out]; exact h1)⟩
      obtain ⟨L, hL⟩ : ∃ L, L = (con i).length := ⟨_, rfl⟩
      have hLl : L ≤ 1000000000 := by rw [hL]; exact hlen.out i
      have HL := hide hL
      obtain ⟨g, c', he, hg1, hg2⟩ := hR.head (by rw [← HNV.out]; omega)
      injection he with he1 he2 he3
      subst he1
      clear he2 he3 hL
      go_wp2_with fail
      go_loopw [5] (fun kv wr2 => ∃ (k : Nat), kv = .int .i64 (k : Int) ∧ k ≤ L ∧ RowsC wr2 base (.slice (some ⟨g, 0, none⟩) n c) vs (midC con i k) ∧ Chg (VB vs) w wr2) (fun kv _ => L - (intOf kv).toNat)
      case atStart => exact ⟨0, rfl, Nat.zero_le _, hR, hcw⟩
      case round =>
        clear hR hcw
        obtain ⟨k, rfl, hk, hR, hcw⟩ := hrel
        have hcell : wr.cell? ⟨g, i, none⟩ = some x := by
          have h := hR
          rw [HNV.out] at h
          exact h.cell hx
        have hxo := hR.2.2 i x hx
        have hml := midC_len con i k (by rw [← HL.out]; exact hk)
        rw [← HL.out] at hml
        have hlx := run_lenn hxo hml
        by_cases h2 : k < L
        · have hkL : (k : Int) < (L : Int) := by omega
          have hk0 : (0 : Int) ≤ (k : Int) := by omega
          obtain ⟨B, cx, rfl, hB1, hB2⟩ := hxo.form hml (by omega)
          have hst := fun (w' : World) => refStamp (i := i) (k := k) (w := w') (by omega) (by omega)
          have hcl := hxo.cell (i := k) (by omega)
          obtain ⟨z, hz⟩ : ∃ z, wr.drew.cell? ⟨B, k, none⟩ = some z := ⟨_, hcl.1⟩
          have hzf : wr.drew.frozen? ⟨B, k, none⟩ = false := hcl.2
          have hR2 := (hR.c0 ((Chg.refl Non wr).drew)).store hx k (stampB i k)
          have hR3 := hR2.con_eq fun j _ => midC_step con i k (by rw [← HL.out]; exact h2) j
          have hcw3 := (hcw.drew).setCell (p := ⟨B, k, none⟩) (fun _ => ⟨i, _, hx, rfl⟩) (.int .u8 ((stampB i k).toNat : Int))
          clear hR hR2 hxo hml hcl hcw
          go_wp2_with fail
          go_still_tail 9, (by kernel_rfl)
          still_call (hst _)
          repeat still_step
          refine wpStill_nil ?_
          change wpList _ _ _ _ _ wr.drew
          generalize wr.drew = w2 at hz hzf hR3 hcw3 ⊢
          go_wp2_with fail
          go_round
          case rel => exact ⟨k + 1, by go_num, by omega, hR3, hcw3⟩
          case measure => simp [intOf]; omega
        · obtain rfl : k = L := by omega
          have hR3 := hR.con_eq (con' := midC con (i + 1) 0) fun j _ => by rw [HL.out]; exact midC_next con i j
          clear hR hxo hml
          go_wp2_with fail
          go_round
          case rel => exact ⟨i + 1, by go_num, by omega, hR3, hcw⟩
          case measure => simp [intOf]; omega
    · obtain rfl : n = i := by omega
      obtain ⟨len, hle⟩ : ∃ len : Nat → Nat, ∀ j, (con j).length = len j := ⟨fun j => (con j).length, fun _ => rfl⟩
      have hR0 := hR.con_eq (con' := fun j => stL j (len j)) fun j hj => by rw [← hle]; exact midC_end con _ j (by rw [HNV.out]; exact hj)
      have hlen2 := hide (fun j => by rw [← hle j]; exact hlen.out j : ∀ j, len j ≤ 1000000000)
      obtain ⟨Ls, hLs⟩ : ∃ Ls : Nat → Nat, ∀ i, Ls i = if i < n then len i + 9 else len (i - n) + 33 := ⟨fun i => if i < n then len i + 9 else len (i - n) + 33, fun _ => rfl⟩
      have HLS := hide hLs
      have hLb := hide (fun i => by rw [hLs i]; split <;> first | (have := hlen2.out i; omega) | (have := hlen2.out (i - n); omega) : ∀ i, Ls i ≤ 1000000033)
      obtain ⟨H, hH⟩ : ∃ H, H = wr.heap.size := ⟨_, rfl⟩
      have hvlt : ∀ (j : Nat) (x : Value) (b : Nat), vs[j]? = some x → x.ownBlock = some b → base ≤ b ∧ b < H := fun j x b hx hb => by rw [hH]; exact hR0.lt hx b hb
      have hv0lt : ∀ b, (Value.slice A n c).ownBlock = some b → b < H := fun b hb => by rw [hH]; exact (World.ownsRow.lt hR0.1 b hb).2
      have hwH : w.heap.size ≤ H := by rw [hH]; exact hcw.size
      have hbH : base ≤ H := by rw [hH]; exact Nat.le_trans hbase hcw.size
      have hsepv : ∀ (j k : Nat) (x y : Value) (b : Nat), vs[j]? = some x → vs[k]? = some y → x.ownBlock = some b → y.ownBlock = some b → j = k := fun j k x y b hx hy hb hb' => hR0.sep hx hy hb hb'
      have hsep0 : ∀ (j : Nat) (x : Value) (b : Nat), vs[j]? = some x → x.ownBlock = some b → (Value.slice A n c).ownBlock ≠ some b := fun j x b hx hb => hR0.2.1.2 j x b hx hb
      have HVLT := hide hvlt
      have HV0 := hide hv0lt
      have HSEP := hide hsepv
      have HSEP0 := hide hsep0
      have hHw : H ≤ wr.heap.size := Nat.le_of_eq hH
      clear hR hle hlen hLs hH hvlt hv0lt hsepv hsep0 hi h1
      go_wp2_with fail
      -- grown by nine each
      go_loopw [3, 6] (fun lv iv wr2 => ∃ (i : Nat) (xs : List Value), iv = .int .i64 (i : Int) ∧ i ≤ n ∧ xs.length = i ∧ RowsC wr2 base (.slice A n c) vs (fun j => stL j (len j)) ∧ LongsC wr2 H vs Ls lv xs ∧ Chg (VB vs) w wr2 ∧ H ≤ wr2.heap.size) (fun _ iv _ => n - (intOf iv).toNat)
      case atStart => exact ⟨0, [], rfl, Nat.zero_le _, rfl, hR0, LongsC.nil_ _ _ _ _, hcw, hHw⟩
      case round =>
        clear hR0 hcw hHw
        obtain ⟨i, xs, rfl, hi, hxs, hR, hLo, hcw, hHw⟩ := hrel
        by_cases h1 : i < n
        · have hki : (i : Int) < (n : Int) := by omega
          have hi0 : (0 : Int) ≤ (i : Int) := by omega
          obtain ⟨x, hx⟩ : ∃ x, vs[i]? = some x := ⟨_, List.getElem?_eq_getElem (by rw [← HNV.out]; exact h1)⟩
          obtain ⟨g, c', he, hg1, hg2⟩ := hR.head (by rw [← HNV.out]; omega)
          injection he with he1 he2 he3
          subst he1
          clear he2 he3
          have hcell : wr.cell? ⟨g, i, none⟩ = some x := by
            have h := hR
            rw [HNV.out] at h
            exact h.cell hx
          have hxo : OwnB wr base x (stL i (len i)) := hR.2.2 i x hx
          have hlx := run_lenn hxo (stL_len i (len i))
          obtain ⟨Z, hZ⟩ : ∃ Z, Z = wr.heap.size := ⟨_, rfl⟩
          have hHZ : H ≤ Z := by omega
          have hZw : Z ≤ wr.heap.size := by omega
          have HXL := hide (fun (j : Nat) (y : Value) (b : Nat) (hy : xs[j]? = some y) (hb : y.ownBlock = some b) => (show j < i ∧ b < Z ∧ ((∃ z, vs[j]? = some z ∧ z.ownBlock = some b) ∨ H ≤ b) by
            have hj := (List.getElem?_eq_some_iff.1 hy).1
            have h := (hLo.2 j y hy).2 b hb
            rw [← HNV.out, Nat.mod_eq_of_lt (by omega)] at h
            exact ⟨by omega, by rw [hZ]; exact hLo.ltx hy b hb, h.2⟩))
          have HLL := hide (fun (b : Nat) (hb : u3.ownBlock = some b) => (show H ≤ b ∧ b < Z by rw [hZ]; exact hLo.lt b hb))
          have hxo0 := hxo.low (b' := 0) (Nat.zero_le _)
          obtain ⟨Li, hLi⟩ : ∃ Li, Li = len i := ⟨_, rfl⟩
          have hLib : Li ≤ 1000000000 := by rw [hLi]; exact hlen2.out i
          have HLI := hide hLi
          rw [← hLi] at hlx hxo0
          clear hZ hLi hxo
          go_wp2_with fail
          go_loopw [7, 8] (fun gv kv wr3 => ∃ (k : Nat), kv = .int .i64 (k : Int) ∧ k ≤ 9 ∧ OwnB wr3 0 gv (stL i (Li + k)) ∧ Hid (∀ b, gv.ownBlock = some b → x.ownBlock = some b ∨ Z ≤ b) ∧ RowsC wr3 base (.slice (some ⟨g, 0, none⟩) n c) vs (fun j => stL j (len j)) ∧ LongsC wr3 H vs Ls u3 xs ∧ Chg (VB vs) w wr3 ∧ Z ≤ wr3.heap.size) (fun _ kv _ => 9 - (intOf kv).toNat)
          case atStart => exact ⟨0, rfl, Nat.zero_le _, hxo0, hide (fun b hb => .inl hb), hR, hLo, hcw, hZw⟩
          case round =>
            clear hR hLo hcw hcell hxo0 hZw
            obtain ⟨k, rfl, hk, hG, hGb, hR, hLo, hcw, hZw⟩ := hrel
            have hcell : wr.cell? ⟨g, i, none⟩ = some x := by
              have h := hR
              rw [HNV.out] at h
              exact h.cell hx
            by_cases h2 : k < 9
            · have hkd : decide ((k : Int) < 9) = true := decide_eq_true (by omega)
              have hwk : IntKind.i64.wrap ((Li : Int) + (k : Int)) = (((Li + k : Nat)) : Int) := by rw [IntWalk.i64_in _ (by omega)]; omega
              obtain ⟨m, hm⟩ : ∃ m, m = Li + k := ⟨_, rfl⟩
              rw [← hm] at hwk hG
              have hmb : m ≤ 2000000000 := by omega
              have hst := fun (w' : World) => refStamp (i := i) (k := m) (w := w') (by omega) (by omega)
              have hG2 := hG.al (.cells #[.int .u8 ((stampB i m).toNat : Int)] 5)
              have hlit := RdB.lit wr 5 (0, 0) #[.int .u8 ((stampB i m).toNat : Int)] (stT i m 1) 1 (by rw [stT_one]; rfl) (by rw [stT_len]) (by simp [maxLen])
              have hR2 := hR.c0 ((Chg.refl Non wr).alloc (.cells #[.int .u8 ((stampB i m).toNat : Int)] 5))
              have hLo2 := hLo.c0 ((Chg.refl Non wr).alloc (.cells #[.int .u8 ((stampB i m).toNat : Int)] 5))
              have hcw2 := hcw.alloc (.cells #[.int .u8 ((stampB i m).toNat : Int)] 5)
              have hZw2 : Z ≤ (wr.alloc (.cells #[.int .u8 ((stampB i m).toNat : Int)] 5)).heap.size := Nat.le_trans hZw ((Chg.refl Non wr).alloc _).size
              have hmlim : m + 1 ≤ 140737488355328 := by omega
              have HM := hide hm
              clear hG hR hLo hcw hm
              go_wp2_with fail
              refine (hst _).mono ?_
              rintro e w4 ⟨rfl, rfl⟩
              go_wp2_with (at_builtin; refine append_st rfl _ _ rfl hG2 rfl hlit rfl Nat.one_pos hmlim (Nat.zero_le _) ?_; intro v5 w5 hG5 hap5 hat5)
              have hb1 : ∀ b, u7.ownBlock = some b → (x.ownBlock = some b ∨ Z ≤ b) := hGb.out
              have hR5 := hR2.ap hap5 fun b hb => by
                rcases hb1 b hb with h | h
                · exact ⟨HSEP0.out i x b hx h, fun j y hy hyb => HSEP.out j i y x b hy hx hyb h⟩
                · exact ⟨fun e => by have := HV0.out b e; omega, fun j y hy hyb => by have := (HVLT.out j y b hy hyb).2; omega⟩
              have hLo5 := hLo2.chg hap5.chg fun b hb => by
                rcases hb1 b hb with h | h
                · have hbl := (HVLT.out i x b hx h).2
                  refine ⟨fun e => by have := (HLL.out b e).1; omega, fun j y hy hyb => ?_⟩
                  obtain ⟨h1', _, h3⟩ := HXL.out j y b hy hyb
                  rcases h3 with ⟨z, hz, hzb⟩ | h3
                  · have := HSEP.out j i z x b hz hx hzb h; omega
                  · omega
                · exact ⟨fun e => by have := (HLL.out b e).2; omega, fun j y hy hyb => by have := (HXL.out j y b hy hyb).2.1; omega⟩
              have hcw5 := hcw2.trans hap5.chg fun b hbw hb => by
                rcases hb1 b hb with h | h
                · exact ⟨i, x, hx, h⟩
                · omega
              have hGb5 : Hid (∀ b, v5.ownBlock = some b → x.ownBlock = some b ∨ Z ≤ b) := hide fun b hb => by
                rcases hat5 with e | e
                · exact hb1 b (e ▸ hb)
                · rw [e] at hb; injection hb with hb; exact .inr (hb ▸ hZw2)
              have hZw5 := Nat.le_trans hZw2 hap5.chg.size
              rw [HM.out, Nat.add_assoc] at hG5
              go_round
              case rel => exact ⟨k + 1, by go_num, by omega, hG5, hGb5, hR5, hLo5, hcw5, hZw5⟩
              case measure => simp [intOf]; omega
            · obtain rfl : k = 9 := by omega
              have hkd : decide (((9 : Nat) : Int) < 9) = false := rfl
              obtain ⟨GA, GL, gc, rfl⟩ : ∃ GA GL gc, u7 = .slice GA GL gc := by obtain ⟨A, c, e, _⟩ := hG.shape; exact ⟨A, _, c, e⟩
              have hG2 := hG.al (.cells #[.slice GA GL gc] 28)
              have hblk := Blk.new wr 28 #[.slice GA GL gc]
              have hR2 := hR.c0 ((Chg.refl Non wr).alloc (.cells #[.slice GA GL gc] 28))
              have hLo2 := hLo.c0 ((Chg.refl Non wr).alloc (.cells #[.slice GA GL gc] 28))
              have hcw2 := hcw.alloc (.cells #[.slice GA GL gc] 28)
              have hZw2 : Z ≤ (wr.alloc (.cells #[.slice GA GL gc] 28)).heap.size := Nat.le_trans hZw ((Chg.refl Non wr).alloc _).size
              have hmod : xs.length % vs.length = i := by rw [hxs, ← HNV.out]; exact Nat.mod_eq_of_lt h1
              have hLsi : Ls xs.length = Li + 9 := by rw [hxs, HLS.out, if_pos h1, HLI.out]
              rw [← hLsi, ← hmod] at hG2
              have hub : ∀ b, (Value.slice GA GL gc).ownBlock = some b → u3.ownBlock ≠ some b ∧ ((∃ y, vs[xs.length % vs.length]? = some y ∧ y.ownBlock = some b) ∨ H ≤ b) := fun b hb => by
                rcases hGb.out b hb with h | h
                · exact ⟨fun e => by have := (HLL.out b e).1; have := (HVLT.out i x b hx h).2; omega, .inl ⟨x, by rw [hmod]; exact hx, h⟩⟩
                · exact ⟨fun e => by have := (HLL.out b e).2; omega, .inr (by omega)⟩
              have hxl : xs.length + 1 ≤ 1000000000000 := by omega
              have hHw2 : H ≤ (wr.alloc (.cells #[.slice GA GL gc] 28)).heap.size := Nat.le_trans hHZ hZw2
              clear hG hR hLo hcw hmod hLsi
              go_wp2_with (at_builtin; refine append_long rfl _ _ rfl hLo2 rfl hG2 hub hblk rfl hxl hHw2 ?_; intro v5 w5 hLo5 hg5 hat5)
              have hR5 := hR2.chg (Chg.of_grown hg5) fun b hb => ⟨fun e => by have := HV0.out b e; have := (HLL.out b hb.symm).1; omega, fun j y hy hyb => by have := (HVLT.out j y b hy hyb).2; have := (HLL.out b hb.symm).1; omega⟩
              have hcw5 := hcw2.trans (Chg.of_grown hg5) fun b hbw hb => by have := (HLL.out b hb.symm).1; omega
              have hHw5 := Nat.le_trans hHw2 hg5.size
              go_round
              case rel => exact ⟨i + 1, _, by go_num, by omega, by rw [List.length_append, hxs]; rfl, hR5, hLo5, hcw5, hHw5⟩
              case measure => simp [intOf]; omega
        · obtain rfl : n = i := by omega
          clear h1 hi
          go_wp2_with fail
          -- and by a tail each
          go_loopw [3, 9] (fun lv iv wr2 => ∃ (i : Nat) (xs : List Value), iv = .int .i64 (i : Int) ∧ i ≤ n ∧ xs.length = n + i ∧ RowsC wr2 base (.slice A n c) vs (fun j => stL j (len j)) ∧ LongsC wr2 H vs Ls lv xs ∧ Chg (VB vs) w wr2 ∧ H ≤ wr2.heap.size) (fun _ iv _ => n - (intOf iv).toNat)
          case atStart => exact ⟨0, xs, rfl, Nat.zero_le _, hxs, hR, hLo, hcw, hHw⟩
          case round =>
            clear hR hLo hcw hHw hxs
            obtain ⟨i, xs, rfl, hi, hxs, hR, hLo, hcw, hHw⟩ := hrel
            by_cases h1 : i < n
            · have hki : (i : Int) < (n : Int) := by omega
              have hi0 : (0 : Int) ≤ (i : Int) := by omega
              obtain ⟨x, hx⟩ : ∃ x, vs[i]? = some x := ⟨_, List.getElem?_eq_getElem (by rw [← HNV.out]; exact h1)⟩
              obtain ⟨g, c', he, hg1, hg2⟩ := hR.head (by rw [← HNV.out]; omega)
              injection he with he1 he2 he3
              subst he1
              clear he2 he3
              have hxo : OwnB wr base x (stL i (len i)) := hR.2.2 i x hx
              have hlx := run_lenn hxo (stL_len i (len i))
              obtain ⟨T, hT⟩ : ∃ T, T = wr.heap.size := ⟨_, rfl⟩
              have hHT : H ≤ T := by omega
              have HXT := hide (fun (j : Nat) (y : Value) (b : Nat) (hy : xs[j]? = some y) (hb : y.ownBlock = some b) => (show b < T by rw [hT]; exact hLo.ltx hy b hb))
              have HLT := hide (fun (b : Nat) (hb : u3.ownBlock = some b) => (show H ≤ b ∧ b < T by rw [hT]; exact hLo.lt b hb))
              obtain ⟨Li, hLi⟩ : ∃ Li, Li = len i := ⟨_, rfl⟩
              have hLib : Li ≤ 1000000000 := by rw [hLi]; exact hlen2.out i
              have HLI := hide hLi
              rw [← hLi] at hlx
              have hmk := fun (w' : World) => run_mkall w' 33 (by omega)
              have hTo := own_mkall wr 33 (by omega)
              have hR2 := hR.c0 ((Chg.refl Non wr).alloc (.cells (madeCells #[.int .u8 0] 33) 5))
              have hLo2 := hLo.c0 ((Chg.refl Non wr).alloc (.cells (madeCells #[.int .u8 0] 33) 5))
              have hcw2 := hcw.alloc (.cells (madeCells #[.int .u8 0] 33) 5)
              have hTw2 : T < (wr.alloc (.cells (madeCells #[.int .u8 0] 33) 5)).heap.size := by rw [hT]; simp
              clear hLi hxo hR hLo hcw
              simp only [show ((33 : Nat) : Int) = 33 from rfl] at hmk
              go_wp2_with fail
              generalize wr.alloc (.cells (madeCells #[.int .u8 0] 33) 5) = w4 at hTo hR2 hLo2 hcw2 hTw2 ⊢
              rw [← hT] at hTo ⊢
              clear hT
              go_loopw [11] (fun kv wr3 => ∃ (k : Nat) (t : List UInt8), kv = .int .i64 (k : Int) ∧ k ≤ 33 ∧ OwnB wr3 T (.slice (some ⟨T, 0, none⟩) 33 33) t ∧ Hid (t.length = 33 ∧ t.take k = (stT i Li 33).take k) ∧ RowsC wr3 base (.slice (some ⟨g, 0, none⟩) n c) vs (fun j => stL j (len j)) ∧ LongsC wr3 H vs Ls u3 xs ∧ Chg (VB vs) w wr3 ∧ T < wr3.heap.size) (fun kv _ => 33 - (intOf kv).toNat)
              case atStart => exact ⟨0, _, rfl, Nat.zero_le _, hTo, hide ⟨by simp, by simp⟩, hR2, hLo2, hcw2, hTw2⟩
              case round =>
                clear hTo hR2 hLo2 hcw2 hTw2 hmk
                obtain ⟨k, t, rfl, hk, hTo, ht, hR, hLo, hcw, hTw⟩ := hrel
                have hcell : wr.cell? ⟨g, i, none⟩ = some x := by
                  have h := hR
                  rw [HNV.out] at h
                  exact h.cell hx
                by_cases h2 : k < 33
                · have hkd : decide ((k : Int) < 33) = true := decide_eq_true (by omega)
                  have hk0 : (0 : Int) ≤ (k : Int) := by omega
                  have hk33 : (k : Int) < 33 := by omega
                  have hwk : IntKind.i64.wrap ((Li : Int) + (k : Int)) = (((Li + k : Nat)) : Int) := by rw [IntWalk.i64_in _ (by omega)]; omega
                  obtain ⟨m, hm⟩ : ∃ m, m = Li + k := ⟨_, rfl⟩
                  rw [← hm] at hwk
                  have hmb : m ≤ 2000000000 := by omega
                  have hst := fun (w' : World) => refStamp (i := i) (k := m) (w := w') (by omega) (by omega)
                  have hcl := hTo.cell (i := k) (by rw [ht.out.1]; exact h2)
                  obtain ⟨z, hz⟩ : ∃ z, wr.cell? ⟨T, k, none⟩ = some z := ⟨_, hcl.1⟩
                  have hzf := hcl.2
                  have hc5 : Chg (fun x => x = T) wr (wr.setCell ⟨T, k, none⟩ (.int .u8 ((stampB i m).toNat : Int))) := (Chg.refl (fun x => x = T) wr).setCell (p := ⟨T, k, none⟩) (fun _ => rfl) _
                  have hTo5 := hTo.stored k (stampB i m)
                  have hR5 := hR.chg hc5 fun b hb => ⟨fun e => by have := HV0.out b e; omega, fun j y hy hyb => by have := (HVLT.out j y b hy hyb).2; omega⟩
                  have hLo5 := hLo.chg hc5 fun b hb => ⟨fun e => by have := (HLT.out b e).2; omega, fun j y hy hyb => by have := HXT.out j y b hy hyb; omega⟩
                  have hcw5 := hcw.setCell (p := ⟨T, k, none⟩) (fun hlt => by have hlt2 : T < w.heap.size := hlt; omega) (.int .u8 ((stampB i m).toNat : Int))
                  have hTw5 : T < (wr.setCell ⟨T, k, none⟩ (.int .u8 ((stampB i m).toNat : Int))).heap.size := Nat.lt_of_lt_of_le hTw hc5.size
                  have ht5 := hide (show (t.set k (stampB i m)).length = 33 ∧ (t.set k (stampB i m)).take (k + 1) = (stT i Li 33).take (k + 1) by
                    refine ⟨by rw [List.length_set]; exact ht.out.1, ?_⟩
                    have hg : (stT i Li 33)[k]'(by rw [stT_len]; exact h2) = stampB i m := by
                      have h := stT_get i Li 33 k h2
                      rw [List.getElem?_eq_getElem (by rw [stT_len]; exact h2)] at h
                      injection h with h
                      rw [h, hm]
                    rw [← hg]
                    exact take_set_succ (by rw [ht.out.1, stT_len]) (by rw [stT_len]; exact h2) ht.out.2)
                  clear hm hTo hR hLo hcw hcl hc5 ht
                  go_wp2_with fail
                  refine (hst _).mono ?_
                  rintro e w5 ⟨rfl, rfl⟩
                  go_wp2_with fail
                  go_round
                  case rel => exact ⟨k + 1, _, by go_num, by omega, hTo5, ht5, hR5, hLo5, hcw5, hTw5⟩
                  case measure => simp [intOf]; omega
                · obtain rfl : k = 33 := by omega
                  have hkd : decide (((33 : Nat) : Int) < 33) = false := rfl
                  have hte := ht.out.2
                  rw [List.take_of_length_le (by have := ht.out.1; omega), List.take_of_length_le (by rw [stT_len]; omega)] at hte
                  rw [hte] at hTo
                  have hxo : OwnB wr base x (stL i Li) := by rw [HLI.out]; exact hR.2.2 i x hx
                  have hLim : Li + 33 ≤ 140737488355328 := by omega
                  have hbw : base ≤ wr.heap.size := by omega
                  have h033 : 0 < 33 := by omega
                  have hmod : xs.length % vs.length = i := by rw [hxs, ← HNV.out, Nat.add_mod_left]; exact Nat.mod_eq_of_lt h1
                  have hLsi : Ls xs.length = Li + 33 := by rw [hxs, HLS.out, if_neg (by omega), Nat.add_sub_cancel_left, HLI.out]
                  have hxl : xs.length + 1 ≤ 1000000000000 := by omega
                  have HMOD := hide hmod
                  have HLSI := hide hLsi
                  clear hte ht hmod hLsi
                  go_wp2_with (first
                    | (at_builtin; refine append_st rfl _ _ rfl hxo rfl hTo.rd rfl h033 hLim hbw ?_; intro v5 w5 hG5 hap5 hat5; obtain ⟨GA, GL, gc, hv5⟩ := OwnB.slc hG5; subst hv5; obtain ⟨hLo6, hG6, hub, hHw6⟩ := apart3 28 hLo hx HVLT HSEP HLT HMOD.out HLSI.out hHT hTw hG5 hap5 hat5)
                    | (at_builtin; refine append_long rfl _ _ rfl hLo6 rfl hG6 hub (Blk.new _ _ _) rfl hxl hHw6 ?_; intro v7 w7 hLo7 hg7 hat7))
                  have hR5 := hR.ap hap5 fun b hb => ⟨HSEP0.out i x b hx hb, fun j y hy hyb => HSEP.out j i y x b hy hx hyb hb⟩
                  have hcw5 := hcw.trans hap5.chg fun b _ hb => ⟨i, x, hx, hb⟩
                  have hR6 := hR5.c0 ((Chg.refl Non w5).alloc (.cells #[.slice GA GL gc] 28))
                  have hcw6 := hcw5.alloc (.cells #[.slice GA GL gc] 28)
                  have hR7 := hR6.chg (Chg.of_grown hg7) fun b hb => ⟨fun e => by have := HV0.out b e; have := (HLT.out b hb.symm).1; omega, fun j y hy hyb => by have := (HVLT.out j y b hy hyb).2; have := (HLT.out b hb.symm).1; omega⟩
                  have hcw7 := hcw6.trans (Chg.of_grown hg7) fun b hbw hb => by have := (HLT.out b hb.symm).1; omega
                  have hHw7 := Nat.le_trans hHw6 hg7.size
                  go_round
                  case rel => exact ⟨i + 1, _, by go_num, by omega, by rw [List.length_append, hxs]; rfl, hR7, hLo7, hcw7, hHw7⟩
                  case measure => simp [intOf]; omega
            · obtain rfl : n = i := by omega
              clear h1 hi hR HV0 HSEP HSEP0 HVLT hlen2
              obtain ⟨A3, c3, rfl, hc3, hm3⟩ := hLo.shape
              unfold maxLen at hm3
              obtain ⟨M, hM⟩ : ∃ M, M = xs.length := ⟨_, rfl⟩
              have HM := hide hM
              rw [← hM] at hc3 hLo hxs ⊢
              have hM2 : M ≤ 2000 := by omega
              clear hM hHw
              generalize wr = wE at hLo hcw ⊢
              go_wp2_with fail
              -- all as they were stamped
              go_loopw [12] (fun iv wr4 => ∃ (i : Nat), iv = .int .i64 (i : Int) ∧ i ≤ M ∧ Quiet wE wr4) (fun iv _ => M - (intOf iv).toNat)
              case atStart => exact ⟨0, rfl, Nat.zero_le _, Quiet.refl _⟩
              case round =>
                obtain ⟨i, rfl, hi, hq⟩ := hrel
                by_cases h1 : i < M
                · have hki : (i : Int) < (M : Int) := by omega
                  have hi0 : (0 : Int) ≤ (i : Int) := by omega
                  obtain ⟨y, hy⟩ : ∃ y, xs[i]? = some y := ⟨_, List.getElem?_eq_getElem (by rw [← HM.out]; exact h1)⟩
                  obtain ⟨g3, c3', he, _, _⟩ := hLo.head (by rw [← HM.out]; omega)
                  injection he with he1 he2 he3
                  subst he1
                  clear he2 he3
                  obtain ⟨K, hK⟩ : ∃ K, K = Ls i := ⟨_, rfl⟩
                  have hyo := (hLo.2 i y hy).1
                  rw [← hK, ← HNV.out] at hyo
                  have hly := run_lenn hyo (stL_len _ K)
                  have hKb : K ≤ 2000000000 := by
                    have h := hLb.out i
                    omega
                  obtain ⟨r, hr⟩ : ∃ r, r = i % n := ⟨_, rfl⟩
                  rw [← hr] at hyo
                  have hrem : Int.tmod (i : Int) (n : Int) = (r : Int) := by rw [hr]; rfl
                  have hn0 : ((n : Int) == 0) = false := beq_eq_false_iff_ne.2 (by omega)
                  have hrb : r ≤ 2000 := by rw [hr]; have := Nat.mod_le i n; omega
                  have hcell : ∀ w', Quiet wE w' → w'.cell? ⟨g3, i, none⟩ = some y := fun w' h => by
                    have h2 := hLo
                    rw [HM.out] at h2
                    exact ((Chg.refl Non wE).quiet h).cell (h2.cell hy) id
                  have HCELL := hide hcell
                  clear hK hr hcell
                  have hc0 := HCELL.out _ hq
                  go_wp2_with fail
                  go_loopw [13] (fun kv wr5 => ∃ (k : Nat), kv = .int .i64 (k : Int) ∧ k ≤ K ∧ Quiet wE wr5) (fun kv _ => K - (intOf kv).toNat)
                  case atStart => exact ⟨0, rfl, Nat.zero_le _, hq⟩
                  case round =>
                    clear hq hc0
                    obtain ⟨k, rfl, hk, hq⟩ := hrel
                    have hc0 := HCELL.out _ hq
                    by_cases h2 : k < K
                    · have hkK : (k : Int) < (K : Int) := by omega
                      have hk0 : (0 : Int) ≤ (k : Int) := by omega
                      obtain ⟨B, cy, rfl, _, _⟩ := hyo.form (stL_len _ K) (by omega)
                      have hcl := (hyo.cell (i := k) (by rw [stL_len]; exact h2)).1
                      rw [stL_get] at hcl
                      have hcl2 := ((Chg.refl Non wE).quiet hq).cell hcl id
                      have hst := fun (w' : World) => (refStamp (i := r) (k := k) (w := w') (by omega) (by omega)).mono fun e w'' h => (⟨h.1, 0, h.2⟩ : e = .returned (.int .u8 ((stampB r k).toNat : Int)) ∧ ∃ q, w'' = w'.drewN q)
                      clear hcl
                      go_wp2_with fail
                      go_quiet ((go_at_call 33; exact Calls.quiet_of (hst _)))
                      go_wp2_with fail
                      go_roundw
                      case rel => exact ⟨k + 1, by go_num, by omega, hq.dn _⟩
                      case measure => simp [intOf]; omega
                    · obtain rfl : K = k := by omega
                      go_wp2_with fail
                      go_round
                      case rel => exact ⟨i + 1, by go_num, by omega, hq⟩
                      case measure => simp [intOf]; omega
                · go_wp2_with fail
                  go_ret
                  exact ⟨rfl, hcw.quiet hq⟩
/-- the same for lists of the call's own -/
theorem refApart {w : World} {base : Nat} {v0 : Value} {ll : List (List UInt8)} (h : OwnsBB w base v0 ll) (hn : ll.length ≤ 1000) (hl : ∀ l ∈ ll, l.length ≤ 1000000000) (hbase : base ≤ w.heap.size) :
    Calls Try.prog 18 #[v0] w fun e w' => e = .returned (.bool true) ∧ Chg (fun k => base ≤ k) w w' := by
  obtain ⟨vs, hv, hR⟩ := RowsC.of h
  refine (refApartC hR (by omega) (fun j => ?_) hbase).mono fun e w' h => ⟨h.1, h.2.mono fun k _ hk => ?_⟩
  · rcases Nat.lt_or_ge j ll.length with hj | hj
    · rw [List.getElem?_eq_getElem hj]
      exact hl _ (List.getElem_mem hj)
    · rw [List.getElem?_eq_none hj]
      exact Nat.zero_le _
  · obtain ⟨j, x, hx, hb⟩ := hk
    exact (hR.lt hx k hb).1
/-- the same for a literal: just the blocks of the lists named are written -/
theorem refApartL {w : World} {base n : Nat} {r : List (Value × List UInt8)} (h : OwnCh w base r) (hbase : base ≤ w.heap.size) (hn : n = r.length) (hm : n ≤ 1000) {cs : Array Value} (hcs : cs = (r.map (·.1)).toArray) (hl : ∀ l ∈ r, l.2.length ≤ 1000000000) :
    Calls Try.prog 18 #[.slice (some ⟨w.heap.size, 0, none⟩) n n] (w.alloc (.cells cs 28)) fun e w' => e = .returned (.bool true) ∧ Chg (fun k => ∃ p ∈ r, p.1.ownBlock = some k) (w.alloc (.cells cs 28)) w' := by
  obtain ⟨h1, h2⟩ := RowsC.lit h hbase hn (by simp only [maxLen]; omega) hcs
  have hlen : (r.map (·.1)).length ≤ 1000 := by rw [List.length_map]; omega
  refine (refApartC h1 hlen (fun j => ?_) (Nat.le_trans hbase ((Chg.refl Non w).alloc _).size)).mono fun e w' h => ⟨h.1, h.2.mono fun k _ hk => ?_⟩
  · rcases Nat.lt_or_ge j r.length with hj | hj
    · rw [List.getElem?_map, List.getElem?_eq_getElem hj]
      exact hl _ (List.getElem_mem hj)
    · rw [List.getElem?_map, List.getElem?_eq_none hj]
      exact Nat.zero_le _
  · obtain ⟨j, x, hx, hb⟩ := hk
    rw [List.getElem?_map] at hx
    obtain ⟨p, hp, rfl⟩ := Option.map_eq_some_iff.1 hx
    exact ⟨p, List.mem_of_getElem? hp, hb⟩
end Go.Proofs.Ytnedinbgibjjoaa
