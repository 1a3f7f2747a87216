/- The walks of groyneref03's at, Good, inverse and Check. -/
import Derived.Test.YtijnfjnkjojjnaaRefMul
import Derived.Test.YtijnfjnkjojjnaaRefA
import Derived.Test.YtijnfjnkjojjnaaPoly
import Derived.Test.YtijnfjnkjojjnaaSlc
import Derived.Test.YtijnfjnkjojjnaaCheck
import Derived.LoopN
import Derived.Deep.RegionLaw
import Derived.Deep.RegionHeld3
import Derived.StillTailTactics
namespace Go.Proofs.Ytijnfjnkjojjnaa
open Go.RowKit

set_option maxHeartbeats 400000 in
theorem refAt {v : Value} {l : List UInt8} {F : Nat → Prop} {w : World} {x : UInt8} (hr : RdB w F v l) :
    Calls Try.prog 38 #[v, .int .u8 (x.toNat : Int)] w fun e w' => e = .returned (.int .u8 ((evalB x l).toNat : Int)) ∧ ∃ k, w' = w.drewN k := by
  obtain ⟨A, c, rfl, hc, hm⟩ := hr.shape
  unfold maxLen at hm
  go_enter Try.func38, Try.ntmps38
  go_wp2
  go_loopw [5, 6] (fun vv iv wr => ∃ (k : Nat), k ≤ l.length ∧ iv = .int .i64 k ∧ vv = .int .u8 ((evalB x (l.take k)).toNat : Int) ∧ Quiet w wr) (fun _ iv _ => l.length - (intOf iv).toNat)
  case atStart => exact ⟨0, Nat.zero_le _, rfl, rfl, Quiet.refl _⟩
  case round =>
    obtain ⟨k, hk, rfl, rfl, hq⟩ := hrel
    by_cases h1 : k < l.length
    · obtain ⟨ad, rfl, _, hca⟩ := (hq.rdb hr).at_ h1
      have HS := hide (show evalB x (l.take (k + 1)) = mulB (evalB x (l.take k)) x ^^^ l[k] by rw [List.take_succ_eq_append_getElem h1, evalB_snoc])
      obtain ⟨y, hy⟩ : ∃ y, y = l[k] := ⟨_, rfl⟩
      obtain ⟨z, hz⟩ : ∃ z, z = evalB x (l.take k) := ⟨_, rfl⟩
      rw [← hy, ← hz] at HS
      rw [← hy] at hca
      rw [← hz]
      clear hy hz
      have hxv := xorV (mulB z x) y
      go_wp2
      go_quiet ((go_at_call 14; exact Calls.quiet_of (refMul.mono fun _ _ ⟨h1, h2⟩ => ⟨h1, 0, h2⟩)))
      go_wp2
      go_roundw
      case rel => exact ⟨k + 1, by omega, by go_num, by rw [HS.out, UInt8.toNat_xor], hq.dn _⟩
      case measure => simp [intOf]; omega
    · have HK := hide (show l.take k = l from List.take_of_length_le (by omega))
      go_wp2
      go_ret
      exact ⟨ret_int (by rw [HK.out]), hq⟩

/-- nought at the four places -/
def noughtB (l : List UInt8) : Bool := decide (evalB 1 l = 0) && decide (evalB 2 l = 0) && decide (evalB 4 l = 0) && decide (evalB 8 l = 0)
theorem noughtB_iff (l : List UInt8) : (decide (4 ≤ l.length) && noughtB l) = goodB l := by
  rw [Bool.eq_iff_iff, goodB_iff]
  simp [noughtB, Nought, and_assoc]
theorem beq_u8_zero (y : UInt8) : ((y.toNat : Int) == 0) = decide (y = 0) := by
  rw [Bool.eq_iff_iff, beq_iff_eq, decide_eq_true_iff]
  constructor
  · intro h; exact UInt8.toNat_inj.1 (show y.toNat = 0 by omega)
  · intro h; subst h; rfl
set_option maxHeartbeats 1000000 in
theorem refGood {v : Value} {l : List UInt8} {F : Nat → Prop} {w : World} (hr : RdB w F v l) :
    Calls Try.prog 20 #[v] w fun e w' => e = .returned (.bool (goodB l)) ∧ Quiet w w' := by
  obtain ⟨A, c, rfl, hc, hm⟩ := hr.shape
  unfold maxLen at hm
  rw [← noughtB_iff]
  have t1 := fun (w' : World) (h : Quiet w w') => refAt (x := 1) (h.rdb hr)
  have t2 := fun (w' : World) (h : Quiet w w') => refAt (x := 2) (h.rdb hr)
  have t4 := fun (w' : World) (h : Quiet w w') => refAt (x := 4) (h.rdb hr)
  have t8 := fun (w' : World) (h : Quiet w w') => refAt (x := 8) (h.rdb hr)
  unfold noughtB
  obtain ⟨e1, h1⟩ : ∃ e1, e1 = evalB 1 l := ⟨_, rfl⟩
  obtain ⟨e2, h2⟩ : ∃ e2, e2 = evalB 2 l := ⟨_, rfl⟩
  obtain ⟨e4, h4⟩ : ∃ e4, e4 = evalB 4 l := ⟨_, rfl⟩
  obtain ⟨e8, h8⟩ : ∃ e8, e8 = evalB 8 l := ⟨_, rfl⟩
  rw [← h1] at t1 ⊢; rw [← h2] at t2 ⊢; rw [← h4] at t4 ⊢; rw [← h8] at t8 ⊢
  clear h1 h2 h4 h8
  by_cases hl : 4 ≤ l.length
  · have HD : decide (4 ≤ l.length) = true := decide_eq_true hl
    rw [HD]
    clear HD
    go_enter Try.func20, Try.ntmps20
    go_wp2_with fail
    refine (t1 w (Quiet.refl w)).mono ?_
    rintro e w1 ⟨rfl, q1⟩
    have Q1 : Quiet w w1 := Quiet.trans (Quiet.refl w) q1
    by_cases z1 : e1 = 0
    · have b1 := (beq_u8_zero e1).trans (decide_eq_true z1)
      have Z1 := hide z1
      clear z1
      go_wp2_with fail
      refine (t2 w1 Q1).mono ?_
      rintro e w2 ⟨rfl, q2⟩
      have Q2 : Quiet w w2 := Quiet.trans Q1 q2
      by_cases z2 : e2 = 0
      · have b2 := (beq_u8_zero e2).trans (decide_eq_true z2)
        have Z2 := hide z2
        clear z2
        go_wp2_with fail
        refine (t4 w2 Q2).mono ?_
        rintro e w4 ⟨rfl, q4⟩
        have Q4 : Quiet w w4 := Quiet.trans Q2 q4
        by_cases z4 : e4 = 0
        · have b4 := (beq_u8_zero e4).trans (decide_eq_true z4)
          have Z4 := hide z4
          clear z4
          go_wp2_with fail
          refine (t8 w4 Q4).mono ?_
          rintro e w8 ⟨rfl, q8⟩
          have Q8 : Quiet w w8 := Quiet.trans Q4 q8
          by_cases z8 : e8 = 0
          · have b8 := (beq_u8_zero e8).trans (decide_eq_true z8)
            have Z8 := hide z8
            clear z8
            go_wp2_with fail
            go_ret
            exact ⟨ret_bool (by rw [decide_eq_true Z1.out, decide_eq_true Z2.out, decide_eq_true Z4.out, decide_eq_true Z8.out]; rfl), Q8⟩
          · have b8 := (beq_u8_zero e8).trans (decide_eq_false z8)
            have Z8 := hide z8
            clear z8
            go_wp2_with fail
            go_ret
            exact ⟨ret_bool (by rw [decide_eq_false Z8.out]; simp), Q8⟩
        · have b4 := (beq_u8_zero e4).trans (decide_eq_false z4)
          have Z4 := hide z4
          clear z4
          go_wp2_with fail
          go_ret
          exact ⟨ret_bool (by rw [decide_eq_false Z4.out]; simp), Q4⟩
      · have b2 := (beq_u8_zero e2).trans (decide_eq_false z2)
        have Z2 := hide z2
        clear z2
        go_wp2_with fail
        go_ret
        exact ⟨ret_bool (by rw [decide_eq_false Z2.out]; simp), Q2⟩
    · have b1 := (beq_u8_zero e1).trans (decide_eq_false z1)
      have Z1 := hide z1
      clear z1
      go_wp2_with fail
      go_ret
      exact ⟨ret_bool (by rw [decide_eq_false Z1.out]; simp), Q1⟩
  · have HD : decide (4 ≤ l.length) = false := decide_eq_false hl
    rw [HD]
    clear HD
    go_enter Try.func20, Try.ntmps20
    go_wp2_with fail
    go_ret
    exact ⟨ret_bool (by simp), Quiet.refl w⟩

set_option maxRecDepth 100000 in
/-- by trying -/
theorem refInverse {a c : UInt8} {w : World} (h : mulB a c = 1) (hc : 0 < c.toNat) (hn : ∀ j, 0 < j → j < c.toNat → mulB a (UInt8.ofNat j) ≠ 1) :
    Calls Try.prog 39 #[.int .u8 (a.toNat : Int)] w fun e w' => e = .returned (.int .u8 (c.toNat : Int)) ∧ w' = w := by
  have hcl := c.toNat_lt
  have HN := fun j h0 h1 => hide (hn j h0 h1)
  have HH := hide h
  clear hn h
  go_enter Try.func39, Try.ntmps39
  go_wp2_with fail
  go_loop [3] (fun iv => ∃ (x : UInt8), 0 < x.toNat ∧ x.toNat ≤ c.toNat ∧ iv = .int .i64 (x.toNat : Int)) (fun iv => c.toNat - (intOf iv).toNat)
  case atStart => exact ⟨1, by decide, hc, rfl⟩
  case round =>
    obtain ⟨x, h0, hj, rfl⟩ := hrel
    have hxl := x.toNat_lt
    have hw : IntKind.u8.wrap (x.toNat : Int) = (x.toNat : Int) := by rw [IntKind.wrap_u8]; omega
    by_cases h1 : x.toNat < c.toNat
    · have hb : (((mulB a x).toNat : Int) == 1) = false := by
        rw [beq_eq_false_iff_ne]
        intro e
        have := (HN x.toNat h0 h1).out
        rw [UInt8.ofNat_toNat] at this
        exact this (UInt8.toNat_inj.1 (show _ = 1 by omega))
      go_wp2_with fail
      refine refMul.mono ?_
      rintro e w1 ⟨rfl, rfl⟩
      go_wp2_with fail
      go_round
      case rel => exact ⟨x + 1, by rw [UInt8.toNat_add, show (1 : UInt8).toNat = 1 from rfl]; omega, by rw [UInt8.toNat_add, show (1 : UInt8).toNat = 1 from rfl]; omega, by rw [UInt8.toNat_add, show (1 : UInt8).toNat = 1 from rfl]; congr 1; omega⟩
      case measure => simp [intOf]; omega
    · obtain rfl : x = c := UInt8.toNat_inj.1 (by omega)
      have hb : (((mulB a x).toNat : Int) == 1) = true := by rw [HH.out]; rfl
      go_wp2_with fail
      refine refMul.mono ?_
      rintro e w1 ⟨rfl, rfl⟩
      go_wp2_with fail
      go_ret
      exact ⟨rfl, rfl⟩

/-! ### Check, by divided differences: what its loops do, on arrays of four bytes -/
abbrev F4 := Nat → UInt8
def arr4 (f : F4) : Array Value := #[bv (f 0), bv (f 1), bv (f 2), bv (f 3)]
def upd (f : F4) (i : Nat) (y : UInt8) : F4 := fun j => if j = i then y else f j
def xs4 : F4 := fun j => match j with | 0 => 1 | 1 => 2 | 2 => 4 | _ => 8
theorem arr4_get (f : F4) (i : Nat) (h : i < 4) : (arr4 f)[i]? = some (.int .u8 ((f i).toNat : Int)) := by
  match i, h with
  | 0, _ => rfl
  | 1, _ => rfl
  | 2, _ => rfl
  | 3, _ => rfl
theorem arr4_set (f : F4) (i : Nat) (h : i < 4) (y : UInt8) : (arr4 f).setIfInBounds i (bv y) = arr4 (upd f i y) := by
  match i, h with
  | 0, _ => rfl
  | 1, _ => rfl
  | 2, _ => rfl
  | 3, _ => rfl
def innerF (k : Nat) : Nat → F4 → F4
  | 0, d => d
  | n + 1, d => innerF k n (upd d (k + n) (mulB (d (k + n) ^^^ d (k + n - 1)) (invB (xs4 (k + n) ^^^ xs4 n))))
def outerF : Nat → F4 → F4
  | 0, d => d
  | m + 1, d => outerF m (innerF (3 - m) (m + 1) d)
def nextP (out : F4) (x : UInt8) (i : Nat) : F4 := fun j => if j < i then mulB (out j) x ^^^ (if j < 3 then out (j + 1) else 0) else 0
def polyF : Nat → F4 → F4 → F4
  | 0, out, _ => out
  | k + 1, out, d => polyF k (upd (nextP out (xs4 k) 4) 3 (nextP out (xs4 k) 4 3 ^^^ d k)) d
def quadF (f : F4) : Quad := (f 0, f 1, f 2, f 3)
theorem polyF_newton (E : F4) : quadF (polyF 3 (upd (fun _ => 0) 3 (outerF 3 E 3)) (outerF 3 E)) = newton (E 0) (E 1) (E 2) (E 3) := by
  simp [quadF, polyF, nextP, upd, outerF, innerF, newton, newton2, xs4]
theorem refInvXS (k n : Nat) (hk : 1 ≤ k) (hn : k + n ≤ 3) {w : World} :
    Calls Try.prog 39 #[.int .u8 ((xs4 (k + n) ^^^ xs4 n).toNat : Int)] w fun e w' => e = .returned (.int .u8 ((invB (xs4 (k + n) ^^^ xs4 n)).toNat : Int)) ∧ w' = w := by
  have h : (k = 1 ∧ n = 0) ∨ (k = 1 ∧ n = 1) ∨ (k = 1 ∧ n = 2) ∨ (k = 2 ∧ n = 0) ∨ (k = 2 ∧ n = 1) ∨ (k = 3 ∧ n = 0) := by omega
  rcases h with ⟨rfl, rfl⟩ | ⟨rfl, rfl⟩ | ⟨rfl, rfl⟩ | ⟨rfl, rfl⟩ | ⟨rfl, rfl⟩ | ⟨rfl, rfl⟩
  all_goals exact refInverse (by decide +kernel) (by decide +kernel) (fun j h0 h1 => (by decide +kernel : ∀ j, j < 256 → 0 < j → j < _ → mulB _ (UInt8.ofNat j) ≠ 1) j (Nat.lt_trans h1 (UInt8.toNat_lt _)) h0 h1)

def d1F (E : F4) (k : Nat) : F4 := fun j => if j < k then E j else 0
theorem d1F_set (E : F4) (k : Nat) (hk : k < 4) : arr4 (upd (d1F E k) k (E k)) = arr4 (d1F E (k + 1)) := by
  have : upd (d1F E k) k (E k) = d1F E (k + 1) := by
    funext j
    simp only [upd, d1F]
    by_cases h : j = k
    · subst h; simp
    · by_cases h2 : j < k
      · simp [h, h2, show j < k + 1 by omega]
      · simp [h, h2, show ¬ j < k + 1 by omega]
  rw [this]

theorem cell_al {w : World} {p : Addr} {u : Value} (h : w.cell? p = some u) (o : Obj) : (w.alloc o).cell? p = some u := ((Chg.refl Non w).alloc o).cell h id
theorem sz_al (w : World) (o : Obj) : w.heap.size ≤ (w.alloc o).heap.size := ((Chg.refl Non w).alloc o).size
theorem chkA {wr wc wx : World} {o : Obj} {u : Value} {l : List UInt8} (hcg : Chg Non (wr.alloc o).drew wc) (hu : OwnB wc (wr.alloc o).drew.heap.size u l) (hgr : wc.grownBy wx u.ownBlock) : Chg Non wr wx :=
  ((((Chg.refl Non wr).alloc o).drew).trans0 hcg).own hgr fun k hk => Nat.le_trans ((Chg.refl Non wr).alloc o).size (hu.lt k hk).1
theorem chkB {wr wc wx : World} {o : Obj} {u : Value} {l : List UInt8} (hcg : Chg Non wr.drew wc) (hu : OwnB wc wr.drew.heap.size u l) (hgr : (wc.alloc o).grownBy wx u.ownBlock) : Chg Non wr wx :=
  ((((Chg.refl Non wr).drew).trans0 hcg).alloc o).own hgr fun k hk => (hu.lt k hk).1
theorem cell4 {wr : World} {g k : Nat} {t : TypeId} {f : F4} (h : Blk wr g t (arr4 f)) (hk : k < 4) : wr.cell? ⟨g, k, none⟩ = some (.int .u8 ((f k).toNat : Int)) := by
  rw [h.cell, arr4_get f k hk]
theorem cell4c {wr wx : World} {g k : Nat} {t : TypeId} {f : F4} (h : Blk wr g t (arr4 f)) (hc : Chg Non wr wx) (hk : k < 4) : wx.cell? ⟨g, k, none⟩ = some (.int .u8 ((f k).toNat : Int)) := cell4 (h.c0 hc) hk
theorem froz4c {wr wx : World} {g : Nat} {t : TypeId} {f : F4} (h : Blk wr g t (arr4 f)) (hc : Chg Non wr wx) (k : Nat) : wx.frozen? ⟨g, k, none⟩ = false := (h.c0 hc).frozen k
theorem cellc {w w' : World} {p : Addr} {u : Value} (h : w.cell? p = some u) (hc : Chg Non w w') : w'.cell? p = some u := hc.cell h id
theorem Blk.put4 {w wx : World} {g i : Nat} {t : TypeId} {f : F4} (h : Blk w g t (arr4 f)) (hc : Chg Non w wx) (hi : i < 4) (y : UInt8) : Blk (wx.setCell ⟨g, i, none⟩ (.int .u8 (y.toNat : Int))) g t (arr4 (upd f i y)) := by
  have := (h.c0 hc).set_ i (bv y)
  rw [arr4_set f i hi] at this
  exact this
theorem Blk.dr {w : World} {g : Nat} {t : TypeId} {cs : Array Value} (h : Blk w g t cs) : Blk w.drew g t cs := h
theorem Blk.keep4 {w wx : World} {g g' i : Nat} {t : TypeId} {a : Array Value} (h : Blk w g t a) (hc : Chg Non w wx) (hne : g ≠ g') (u : Value) : Blk (wx.setCell ⟨g', i, none⟩ u) g t a := (h.c0 hc).far hne u
theorem Chg.put4 {W w wx : World} {g i : Nat} (h : Chg Non W w) (hc : Chg Non w wx) (hg : W.heap.size ≤ g) (u : Value) : Chg Non W (wx.setCell ⟨g, i, none⟩ u) :=
  (h.trans0 hc).setCell (p := ⟨g, i, none⟩) (fun hlt => absurd hlt (Nat.not_lt.2 hg)) u
theorem RdB.keep4 {w wx : World} {F : Nat → Prop} {v : Value} {l : List UInt8} {g i : Nat} (h : RdB w F v l) (hc : Chg Non w wx) (hF : ∀ k, F k → k ≠ g) (u : Value) : RdB (wx.setCell ⟨g, i, none⟩ u) F v l :=
  (h.c0 hc).chg (Chg.setCell (S := fun k => k = g) (Chg.refl _ wx) (p := ⟨g, i, none⟩) (fun _ => rfl) u) hF
theorem Blk.all4 {w : World} {g : Nat} {t : TypeId} {f : F4} (h : Blk w g t (arr4 f)) (a b c d : UInt8) :
    Blk ((((w.setCell ⟨g, 0, none⟩ (.int .u8 (a.toNat : Int))).setCell ⟨g, 1, none⟩ (.int .u8 (b.toNat : Int))).setCell ⟨g, 2, none⟩ (.int .u8 (c.toNat : Int))).setCell ⟨g, 3, none⟩ (.int .u8 (d.toNat : Int))) g t #[bv a, bv b, bv c, bv d] :=
  (((h.set_ 0 (bv a)).set_ 1 (bv b)).set_ 2 (bv c)).set_ 3 (bv d)
theorem Blk.far4 {w : World} {g g' : Nat} {t : TypeId} {x : Array Value} (h : Blk w g t x) (hne : g ≠ g') (a b c d : Value) :
    Blk ((((w.setCell ⟨g', 0, none⟩ a).setCell ⟨g', 1, none⟩ b).setCell ⟨g', 2, none⟩ c).setCell ⟨g', 3, none⟩ d) g t x :=
  (((h.far hne a).far hne b).far hne c).far hne d
theorem Chg.all4 {W w : World} {g : Nat} (h : Chg Non W w) (hg : W.heap.size ≤ g) (a b c d : Value) :
    Chg Non W ((((w.setCell ⟨g, 0, none⟩ a).setCell ⟨g, 1, none⟩ b).setCell ⟨g, 2, none⟩ c).setCell ⟨g, 3, none⟩ d) := by
  refine (((h.setCell (p := ⟨g, 0, none⟩) ?_ a).setCell (p := ⟨g, 1, none⟩) ?_ b).setCell (p := ⟨g, 2, none⟩) ?_ c).setCell (p := ⟨g, 3, none⟩) ?_ d
  all_goals exact fun hlt => absurd hlt (Nat.not_lt.2 hg)
theorem nextP_step1 (out : F4) (x : UInt8) (i : Nat) (hi : i < 3) : arr4 (upd (upd (nextP out x i) i (mulB (out i) x)) i (mulB (out i) x ^^^ out (i + 1))) = arr4 (nextP out x (i + 1)) := by
  match i, hi with
  | 0, _ => simp [arr4, upd, nextP]
  | 1, _ => simp [arr4, upd, nextP]
  | 2, _ => simp [arr4, upd, nextP]
theorem nextP_step2 (out : F4) (x : UInt8) : arr4 (upd (nextP out x 3) 3 (mulB (out 3) x)) = arr4 (nextP out x 4) := by simp [arr4, upd, nextP]
theorem upd_same (f : F4) (i : Nat) (y : UInt8) : upd f i y i = y := by simp [upd]
def z4 : F4 := fun _ => 0
def lit4 : Obj := .cells #[.int .u8 0, .int .u8 0, .int .u8 0, .int .u8 0] 5

set_option maxRecDepth 100000 in
set_option maxHeartbeats 2000000 in
theorem refCheck {v : Value} {l : List UInt8} {F : Nat → Prop} {w : World} (hr : RdB w F v l) (hl : l.length ≤ 1000000000000) :
    Calls Try.prog 19 #[v] w fun e w' => e = .returned (qv (chk l)) ∧ Chg Non w w' := by
  have hr0 := hr.lt
  clear hr
  go_enter Try.func19, Try.ntmps19
  go_wp2_with fail
  obtain ⟨E, hE⟩ : ∃ E : F4, E = fun j => evalB (xs4 j) (l ++ [0, 0, 0, 0]) := ⟨_, rfl⟩
  have HE := fun j => hide (congrFun hE j).symm
  clear hE
  have hba := ((Blk.new w 28 (arr4 z4)).al (.cells (arr4 xs4) 28)).al (.cells (arr4 z4) 28)
  have hbx := (Blk.new (w.alloc (.cells (arr4 z4) 28)) 28 (arr4 xs4)).al (.cells (arr4 z4) 28)
  have hbd := Blk.new ((w.alloc (.cells (arr4 z4) 28)).alloc (.cells (arr4 xs4) 28)) 28 (arr4 (d1F E 0))
  have hg3 := (((Chg.refl Non w).alloc (.cells (arr4 z4) 28)).alloc (.cells (arr4 xs4) 28)).alloc (.cells (arr4 z4) 28)
  rw [show (w.alloc (.cells (arr4 z4) 28)).heap.size = w.heap.size + 1 by simp] at hbx
  rw [show ((w.alloc (.cells (arr4 z4) 28)).alloc (.cells (arr4 xs4) 28)).heap.size = w.heap.size + 1 + 1 by simp] at hbd
  have hr3 := hr0.c0 hg3
  change Blk (((w.alloc (.cells #[.int .u8 0, .int .u8 0, .int .u8 0, .int .u8 0] 28)).alloc (.cells #[.int .u8 1, .int .u8 2, .int .u8 4, .int .u8 8] 28)).alloc (.cells #[.int .u8 0, .int .u8 0, .int .u8 0, .int .u8 0] 28)) _ _ _ at hba hbx hbd
  change Chg Non w (((w.alloc (.cells #[.int .u8 0, .int .u8 0, .int .u8 0, .int .u8 0] 28)).alloc (.cells #[.int .u8 1, .int .u8 2, .int .u8 4, .int .u8 8] 28)).alloc (.cells #[.int .u8 0, .int .u8 0, .int .u8 0, .int .u8 0] 28)) at hg3
  change RdB (((w.alloc (.cells #[.int .u8 0, .int .u8 0, .int .u8 0, .int .u8 0] 28)).alloc (.cells #[.int .u8 1, .int .u8 2, .int .u8 4, .int .u8 8] 28)).alloc (.cells #[.int .u8 0, .int .u8 0, .int .u8 0, .int .u8 0] 28)) _ _ _ at hr3
  generalize (((w.alloc (.cells #[.int .u8 0, .int .u8 0, .int .u8 0, .int .u8 0] 28)).alloc (.cells #[.int .u8 1, .int .u8 2, .int .u8 4, .int .u8 8] 28)).alloc (.cells #[.int .u8 0, .int .u8 0, .int .u8 0, .int .u8 0] 28)) = w3 at hba hbx hbd hg3 hr3 ⊢
  obtain ⟨ga, gx, gd, hga, hax, hxd, e1, e2, e3⟩ : ∃ ga gx gd, w.heap.size ≤ ga ∧ ga < gx ∧ gx < gd ∧ Hid (w.heap.size = ga) ∧ Hid (w.heap.size + 1 = gx) ∧ Hid (w.heap.size + 1 + 1 = gd) := ⟨w.heap.size, w.heap.size + 1, w.heap.size + 1 + 1, by omega, by omega, by omega, hide rfl, hide rfl, hide rfl⟩
  rw [e1.out] at hba
  rw [e2.out] at hbx
  rw [e3.out] at hbd
  rw [e3.out, e2.out, e1.out]
  clear e1 e2 e3 hr0
  go_loopw [5] (fun iv wr => ∃ (k : Nat), k ≤ 4 ∧ iv = .int .i64 k ∧ Blk wr gd 28 (arr4 (d1F E k)) ∧ Blk wr gx 28 (arr4 xs4) ∧ Blk wr ga 28 (arr4 z4) ∧ RdB wr (fun k => F k ∧ k < w.heap.size) v l ∧ Chg Non w wr) (fun iv _ => 4 - (intOf iv).toNat)
  case atStart => exact ⟨0, by omega, rfl, hbd, hbx, hba, hr3, hg3⟩
  case round =>
    clear hba hbx hbd hg3 hr3
    obtain ⟨k, hk, rfl, hd, hx, ha, hr, hcw⟩ := hrel
    by_cases h1 : k < 4
    · have hxk := cell4 hx h1
      have hx1 : (wr.alloc lit4).drew.cell? ⟨gx, k, none⟩ = some (.int .u8 ((xs4 k).toNat : Int)) := cell4c hx (((Chg.refl Non wr).alloc lit4).drew) h1
      have hx2 : wr.drew.cell? ⟨gx, k, none⟩ = some (.int .u8 ((xs4 k).toNat : Int)) := cell4c hx ((Chg.refl Non wr).drew) h1
      have hl1 : l.length ≤ 140737488355328 := by omega
      have hlen : l.length + ([0, 0, 0, 0] : List UInt8).length ≤ 140737488355328 := by simp; omega
      have hlA : RdB (wr.alloc lit4).drew (fun k => k = wr.heap.size) (.slice (some ⟨wr.heap.size, 0, none⟩) 4 4) [0, 0, 0, 0] := (RdB.lit wr 5 (0, 0) _ [0, 0, 0, 0] 4 rfl rfl (by simp [maxLen])).dr
      have hlB := fun (wc : World) => RdB.lit wc 5 (0, 0) #[.int .u8 0, .int .u8 0, .int .u8 0, .int .u8 0] [0, 0, 0, 0] 4 rfl rfl (by simp [maxLen])
      have hrA := (hr.al lit4).dr
      have hrB := hr.dr
      have H1 := hide h1
      simp only [lit4] at hx1 hlA hrA
      go_wp2_with fail
      go_region_law (first
        | (refine step_B rfl _ _ rfl hu rfl (RdB.c0 hlA hcg) rfl hlen hcg.size ?_; intro v' wx hown hgr hat; have gch := chkA hcg hu hgr; have kX := cell4c hx gch h1; have kD := cell4c hd gch h1; have fD := froz4c hd gch k)
        | (refine step_B rfl _ _ rfl (hu.al _) rfl (hlB _) rfl hlen (Nat.le_trans hcg.size (sz_al _ _)) ?_; intro v' wx hown hgr hat; have gch := chkB hcg hu hgr; have kX := cell4c hx gch h1; have kD := cell4c hd gch h1; have fD := froz4c hd gch k)
        | (go_simp; go_at_call 18; refine (refCopy hrA hl1).mono ?_; rintro e wc ⟨u, rfl, hu, hcg⟩; have kC := cellc hx1 hcg)
        | (go_simp; go_at_call 18; refine (refCopy hrB hl1).mono ?_; rintro e wc ⟨u, rfl, hu, hcg⟩; have kC := cellc hx2 hcg; have kC2 := cell_al kC (.cells #[.int .u8 0, .int .u8 0, .int .u8 0, .int .u8 0] 5))
        | (go_simp; go_at_call 38; refine (refAt (x := xs4 k) hown.rd).mono ?_; rintro e wa ⟨rfl, q, rfl⟩))
      all_goals
        have hgq := gch.drewN q
        rw [(HE k).out]
        have hd' := hd.put4 hgq h1 (E k)
        rw [d1F_set E k h1] at hd'
        have hx' := hx.keep4 (i := k) hgq (show gx ≠ gd by omega) (.int .u8 ((E k).toNat : Int))
        have ha' := ha.keep4 (i := k) hgq (show ga ≠ gd by omega) (.int .u8 ((E k).toNat : Int))
        have hr' := hr.keep4 (i := k) (g := gd) hgq (fun b hb => by have := hb.2; omega) (.int .u8 ((E k).toNat : Int))
        have hcw' := hcw.put4 (i := k) (g := gd) hgq (by omega) (.int .u8 ((E k).toNat : Int))
        clear hd hx ha hr hcw gch hgr hcg hown hat hu kX kD fD kC hxk hx1 hx2 hlA hlB hrA hrB
        generalize (wx.drewN q).setCell ⟨gd, k, none⟩ (.int .u8 ((E k).toNat : Int)) = wy at hd' hx' ha' hr' hcw' ⊢
        go_wp2_with fail
        go_round
        case rel => exact ⟨k + 1, by omega, by go_num, hd', hx', ha', hr', hcw'⟩
        case measure => simp [intOf]; omega
    · obtain rfl : k = 4 := by omega
      rw [show arr4 (d1F E 4) = arr4 E from rfl] at hd
      rw [show ((4 : Nat) : Int) = 4 from rfl]
      go_wp2_with fail
      go_loopw [6] (fun iv wr => ∃ (k m : Nat) (d : F4), 1 ≤ k ∧ k ≤ 4 ∧ Hid (k + m = 4) ∧ iv = .int .i64 k ∧ Hid (outerF m d = outerF 3 E) ∧ Blk wr gd 28 (arr4 d) ∧ Blk wr gx 28 (arr4 xs4) ∧ Blk wr ga 28 (arr4 z4) ∧ Chg Non w wr) (fun iv _ => 4 - (intOf iv).toNat)
      case atStart => exact ⟨1, 3, E, by omega, by omega, hide rfl, rfl, hide rfl, hd, hx, ha, hcw⟩
      case round =>
        clear hd hx ha hcw hr hk h1
        obtain ⟨k, m, d, hk1, hk4, hkm, rfl, hout, hd, hx, ha, hcw⟩ := hrel
        by_cases h1 : k < 4
        · obtain ⟨m, rfl⟩ : ∃ m', m = m' + 1 := ⟨m - 1, by have := hkm.out; omega⟩
          have hdk : decide ((k : Int) < 4) = true := decide_eq_true (by omega)
          go_wp2_with fail
          go_loopw [7] (fun jv wr => ∃ (i n : Nat) (d' : F4), i ≤ 3 ∧ k ≤ i + 1 ∧ Hid (i + 1 = k + n) ∧ jv = .int .i64 i ∧ Hid (innerF k n d' = innerF k (m + 1) d) ∧ Blk wr gd 28 (arr4 d') ∧ Blk wr gx 28 (arr4 xs4) ∧ Blk wr ga 28 (arr4 z4) ∧ Chg Non w wr) (fun jv _ => (intOf jv).toNat + 1 - k)
          case atStart => exact ⟨3, m + 1, d, by omega, by omega, hide (by have := hkm.out; omega), rfl, hide rfl, hd, hx, ha, hcw⟩
          case round =>
            clear hd hx ha hcw
            obtain ⟨i, n, d', hi3, hki, hin, rfl, hinn, hd, hx, ha, hcw⟩ := hrel
            by_cases h2 : k ≤ i
            · obtain ⟨n, rfl⟩ : ∃ n', n = n' + 1 := ⟨n - 1, by have := hin.out; omega⟩
              have hik := hide (show i = k + n by have := hin.out; omega)
              obtain ⟨p, hp⟩ : ∃ p : Nat, p = i - 1 := ⟨_, rfl⟩
              have ep : (i : Int) - 1 = (p : Int) := by omega
              have en : (i : Int) - (k : Int) = (n : Int) := by have := hik.out; omega
              have hinv := fun (w' : World) => refInvXS k n hk1 (by have := hik.out; omega) (w := w')
              have hstep := hide (show innerF k n (upd d' i (mulB (d' i ^^^ d' p) (invB (xs4 i ^^^ xs4 n)))) = innerF k (m + 1) d by
                rw [hp, hik.out, ← hinn.out, innerF])
              rw [← hik.out] at hinv
              have hxv1 := xorV (d' i) (d' p)
              have hxv2 := xorV (xs4 i) (xs4 n)
              have c1 := cell4 hd (k := i) (by omega)
              have c2 := cell4 hd (k := p) (by omega)
              have c3 := cell4 hx (k := i) (by omega)
              have c4 := cell4 hx (k := n) (by have := hik.out; omega)
              have f1 := hd.frozen i
              have hp3 : p < 4 := by omega
              have hn3 : n < 4 := by have := hik.out; omega
              have hi4 : i < 4 := by omega
              have hw1 : IntKind.i64.wrap ((i : Int) - 1) = (p : Int) := by rw [ep]; exact IntWalk.i64_in _ (by omega)
              have hw2 : IntKind.i64.wrap ((i : Int) - (k : Int)) = (n : Int) := by rw [en]; exact IntWalk.i64_in _ (by omega)
              have hpi : p ≠ i := by omega
              clear hp hin hinn ep en
              have b1 : (0 : Int) ≤ (i : Int) := by omega
              have b2 : (i : Int) < 4 := by omega
              have b3 : (0 : Int) ≤ (p : Int) := by omega
              have b4 : (p : Int) < 4 := by omega
              have b5 : (0 : Int) ≤ (n : Int) := by omega
              have b6 : (n : Int) < 4 := by omega
              obtain ⟨ux, hux⟩ : ∃ a, a = d' i := ⟨_, rfl⟩
              obtain ⟨uy, huy⟩ : ∃ a, a = d' p := ⟨_, rfl⟩
              obtain ⟨xa, hxa⟩ : ∃ a, a = xs4 i := ⟨_, rfl⟩
              obtain ⟨xb, hxb⟩ : ∃ a, a = xs4 n := ⟨_, rfl⟩
              rw [← hux, ← huy, ← hxa, ← hxb] at hstep
              rw [← hux, ← huy] at hxv1
              rw [← hxa, ← hxb] at hxv2 hinv
              rw [← hux] at c1
              rw [← huy] at c2
              rw [← hxa] at c3
              rw [← hxb] at c4
              obtain ⟨z, hz⟩ : ∃ z, z = invB (xa ^^^ xb) := ⟨_, rfl⟩
              rw [← hz] at hinv hstep
              have hmul := fun (w' : World) => refMul (a := ux ^^^ uy) (b := z) (w := w')
              obtain ⟨y, hy⟩ : ∃ y, y = mulB (ux ^^^ uy) z := ⟨_, rfl⟩
              rw [← hy] at hmul hstep
              simp only [UInt8.toNat_xor] at hmul hinv hxv1 hxv2
              clear hux huy hxa hxb hz hy
              go_wp2_with fail
              go_still_tail 21, (by kernel_rfl)
              still_call (hinv _)
              repeat still_step
              still_call (hmul _)
              repeat still_step
              refine wpStill_nil ?_
              have hd0 := hd.dr
              have hx0 := hx.dr
              have ha0 := ha.dr
              have hcw0 := hcw.drew
              change wpList _ _ _ _ _ wr.drew
              generalize wr.drew = w2 at hd0 hx0 ha0 hcw0 ⊢
              have hw3 : IntKind.i64.wrap ((i : Int) - 1) = (i : Int) - 1 := IntWalk.i64_in _ (by omega)
              clear hd hx ha hcw hinv hmul hxv1 hxv2 c1 c2 c3 c4 f1 hw1 hw2 b3 b4 b5 b6
              have c1 := cell4 hd0 hi4
              have f1 := hd0.frozen i
              have hd' := hd0.put4 (Chg.refl Non w2) hi4 y
              have hx' := hx0.keep4 (i := i) (Chg.refl Non w2) (show gx ≠ gd by omega) (.int .u8 (y.toNat : Int))
              have ha' := ha0.keep4 (i := i) (Chg.refl Non w2) (show ga ≠ gd by omega) (.int .u8 (y.toNat : Int))
              have hcw' := hcw0.put4 (i := i) (g := gd) (Chg.refl Non w2) (by omega) (.int .u8 (y.toNat : Int))
              all_goals
                generalize hwy : w2.setCell ⟨gd, i, none⟩ (.int .u8 (y.toNat : Int)) = wy at hd' hx' ha' hcw'
                have hi1 : 1 ≤ i := by omega
                have hik2 := hide (show i - 1 + 1 = k + n by have := hik.out; omega)
                go_wp2_with fail
                have hend : ∃ (i1 n1 : Nat) (d1 : F4), i1 ≤ 3 ∧ k ≤ i1 + 1 ∧ Hid (i1 + 1 = k + n1) ∧ Value.int .i64 ((i : Int) - 1) = Value.int .i64 (i1 : Int) ∧ Hid (innerF k n1 d1 = innerF k (m + 1) d) ∧ Blk wy gd 28 (arr4 d1) ∧ Blk wy gx 28 (arr4 xs4) ∧ Blk wy ga 28 (arr4 z4) ∧ Chg Non w wy :=
                  ⟨i - 1, n, _, by omega, by omega, hik2, by congr 1; omega, hstep, hd', hx', ha', hcw'⟩
                go_round
                case rel => first | exact hend | ((repeat apply Exists.intro); exact ⟨hend, rfl⟩)
                case measure => simp [intOf]; omega
            · have hn0 : n = 0 := by have := hin.out; omega
              subst hn0
              have hnext := hide (show outerF m d' = outerF 3 E by
                rw [← hout.out, outerF, show 3 - m = k by have := hkm.out; omega, ← hinn.out]; rfl)
              go_wp2_with fail
              go_round
              case rel => exact ⟨k + 1, m, d', by omega, by omega, hide (by have := hkm.out; omega), by go_num, hnext, hd, hx, ha, hcw⟩
              case measure => simp [intOf]; omega
        · obtain rfl : k = 4 := by omega
          obtain rfl : m = 0 := by have := hkm.out; omega
          have hD : d = outerF 3 E := hout.out
          have HD := hide hD
          clear hD hout hkm h1 hk1 hk4
          rw [show ((4 : Nat) : Int) = 4 from rfl]
          have c3 := cell4 hd (k := 3) (by omega)
          go_wp2_with fail
          have hgd := hd.lt
          have hbo := Blk.new wr 28 (arr4 (upd z4 3 (d 3)))
          have hd4 := hd.al (.cells (arr4 (upd z4 3 (d 3))) 28)
          have hx4 := hx.al (.cells (arr4 (upd z4 3 (d 3))) 28)
          have ha4 := ha.al (.cells (arr4 (upd z4 3 (d 3))) 28)
          have hcw4 := hcw.alloc (.cells (arr4 (upd z4 3 (d 3))) 28)
          change Blk (wr.alloc (.cells #[.int .u8 0, .int .u8 0, .int .u8 0, .int .u8 ((d 3).toNat : Int)] 28)) _ _ _ at hbo hd4 hx4 ha4
          change Chg Non w (wr.alloc (.cells #[.int .u8 0, .int .u8 0, .int .u8 0, .int .u8 ((d 3).toNat : Int)] 28)) at hcw4
          generalize wr.alloc (.cells #[.int .u8 0, .int .u8 0, .int .u8 0, .int .u8 ((d 3).toNat : Int)] 28) = w4 at hbo hd4 hx4 ha4 hcw4 ⊢
          generalize wr.heap.size = go at hgd hbo ⊢
          clear hd hx ha hcw c3
          go_loopw [9] (fun iv wq => ∃ (k : Nat) (out : F4), k ≤ 3 ∧ iv = .int .i64 ((k : Int) - 1) ∧ Hid (polyF k out d = polyF 3 (upd z4 3 (d 3)) d) ∧ Blk wq go 28 (arr4 out) ∧ Blk wq gd 28 (arr4 d) ∧ Blk wq gx 28 (arr4 xs4) ∧ Blk wq ga 28 (arr4 z4) ∧ Chg Non w wq) (fun iv _ => ((intOf iv) + 1).toNat)
          case atStart => exact ⟨3, _, by omega, rfl, hide rfl, hbo, hd4, hx4, ha4, hcw4⟩
          case round =>
            clear hbo hd4 hx4 ha4 hcw4
            obtain ⟨k, out, hk3, rfl, hpol, ho, hd, hx, ha, hcw⟩ := hrel
            by_cases h1 : 0 < k
            · obtain ⟨k, rfl⟩ : ∃ k', k = k' + 1 := ⟨k - 1, by omega⟩
              rw [show (((k + 1 : Nat) : Int) - 1) = (k : Int) by omega]
              have hdk : decide ((0 : Int) ≤ (k : Int)) = true := decide_eq_true (by omega)
              have hk4 : k < 4 := by omega
              have hgo := ho.lt
              go_wp2_with fail
              have hn := Blk.new wr 28 (arr4 (nextP out (xs4 k) 0))
              have ho4 := ho.al (.cells (arr4 z4) 28)
              have hd4 := hd.al (.cells (arr4 z4) 28)
              have hx4 := hx.al (.cells (arr4 z4) 28)
              have ha4 := ha.al (.cells (arr4 z4) 28)
              have hcw4 := hcw.alloc (.cells (arr4 z4) 28)
              change Blk (wr.alloc (.cells #[.int .u8 0, .int .u8 0, .int .u8 0, .int .u8 0] 28)) _ _ _ at hn ho4 hd4 hx4 ha4
              change Chg Non w (wr.alloc (.cells #[.int .u8 0, .int .u8 0, .int .u8 0, .int .u8 0] 28)) at hcw4
              generalize wr.alloc (.cells #[.int .u8 0, .int .u8 0, .int .u8 0, .int .u8 0] 28) = w4 at hn ho4 hd4 hx4 ha4 hcw4 ⊢
              generalize wr.heap.size = gn at hgo hn ⊢
              clear ho hd hx ha hcw
              go_loopw [11] (fun jv wi => ∃ (i : Nat), i ≤ 4 ∧ jv = .int .i64 i ∧ Blk wi gn 28 (arr4 (nextP out (xs4 k) i)) ∧ Blk wi go 28 (arr4 out) ∧ Blk wi gd 28 (arr4 d) ∧ Blk wi gx 28 (arr4 xs4) ∧ Blk wi ga 28 (arr4 z4) ∧ Chg Non w wi) (fun jv _ => 4 - (intOf jv).toNat)
              case atStart => exact ⟨0, by omega, rfl, hn, ho4, hd4, hx4, ha4, hcw4⟩
              case round =>
                clear hn ho4 hd4 hx4 ha4 hcw4
                obtain ⟨i, hi, rfl, hn, ho, hd, hx, ha, hcw⟩ := hrel
                by_cases h2 : i < 4
                · have hgn := hn.lt
                  have b1 : (0 : Int) ≤ (i : Int) := by omega
                  have b2 : (i : Int) < 4 := by omega
                  have b3 : (0 : Int) ≤ (k : Int) := by omega
                  have b4 : (k : Int) < 4 := by omega
                  have c1 := cell4 ho h2
                  have c2 := cell4 hx hk4
                  have c3 := cell4 hn h2
                  have f3 := hn.frozen i
                  have hmul := fun (w' : World) => refMul (a := out i) (b := xs4 k) (w := w')
                  obtain ⟨xv, hxv⟩ : ∃ xv, xv = xs4 k := ⟨_, rfl⟩
                  obtain ⟨uo, huo⟩ : ∃ uo, uo = out i := ⟨_, rfl⟩
                  rw [← hxv] at c2 hmul hn c3
                  rw [← huo] at c1 hmul
                  obtain ⟨y, hy⟩ : ∃ y, y = mulB uo xv := ⟨_, rfl⟩
                  rw [← hy] at hmul
                  have HXV := hide hxv
                  have HUO := hide huo
                  have HY := hide hy
                  clear hxv huo hy
                  have hS : wr.drew.cell? ⟨go, i, none⟩ = some (.int .u8 (uo.toNat : Int)) ∧ wr.drew.cell? ⟨gx, k, none⟩ = some (.int .u8 (xv.toNat : Int)) := ⟨c1, c2⟩
                  have hS2 : (wr.setCell ⟨gn, i, none⟩ (.int .u8 (y.toNat : Int))).drew.cell? ⟨go, i, none⟩ = some (.int .u8 (uo.toNat : Int)) ∧ (wr.setCell ⟨gn, i, none⟩ (.int .u8 (y.toNat : Int))).drew.cell? ⟨gx, k, none⟩ = some (.int .u8 (xv.toNat : Int)) :=
                    ⟨(show (wr.setCell ⟨gn, i, none⟩ (.int .u8 (y.toNat : Int))).cell? _ = _ from World.cell?_setCell_other _ _ _ _ (by intro e; injection e with e; omega)).trans c1, (show (wr.setCell ⟨gn, i, none⟩ (.int .u8 (y.toNat : Int))).cell? _ = _ from World.cell?_setCell_other _ _ _ _ (by intro e; injection e with e; omega)).trans c2⟩
                  go_wp2_with fail
                  go_region_held3 (fun w' => w'.cell? ⟨go, i, none⟩ = some (.int .u8 (uo.toNat : Int)) ∧ w'.cell? ⟨gx, k, none⟩ = some (.int .u8 (xv.toNat : Int))) (first | exact hS | exact hS2) (first
                    | (go_at_call 14; refine (hmul _).mono ?_; rintro e wb ⟨rfl, rfl⟩))
                  have hn' := (hn.put4 (Chg.refl Non wr) h2 y).dr
                  have ho' := (ho.keep4 (i := i) (Chg.refl Non wr) (show go ≠ gn by omega) (.int .u8 (y.toNat : Int))).dr
                  have hd' := (hd.keep4 (i := i) (Chg.refl Non wr) (show gd ≠ gn by omega) (.int .u8 (y.toNat : Int))).dr
                  have hx' := (hx.keep4 (i := i) (Chg.refl Non wr) (show gx ≠ gn by omega) (.int .u8 (y.toNat : Int))).dr
                  have ha' := (ha.keep4 (i := i) (Chg.refl Non wr) (show ga ≠ gn by omega) (.int .u8 (y.toNat : Int))).dr
                  have hcw' := (hcw.put4 (i := i) (g := gn) (Chg.refl Non wr) (by omega) (.int .u8 (y.toNat : Int))).drew
                  clear hn ho hd hx ha hcw hmul c1 c2 c3 f3 hS hS2 b3 b4
                  generalize (wr.setCell ⟨gn, i, none⟩ (.int .u8 (y.toNat : Int))).drew = wy at hn' ho' hd' hx' ha' hcw' ⊢
                  by_cases h3 : i < 3
                  · obtain ⟨j, hj⟩ : ∃ j : Nat, j = i + 1 := ⟨_, rfl⟩
                    have hwj : IntKind.i64.wrap ((i : Int) + 1) = (j : Int) := by rw [hj, IntWalk.i64_in _ (by omega)]; rfl
                    have b3 : (0 : Int) ≤ (j : Int) := by omega
                    have b4 : (j : Int) < 4 := by omega
                    have c1 := cell4 ho' (k := j) (by omega)
                    have c3 := cell4 hn' h2
                    rw [upd_same] at c3
                    have f3 := hn'.frozen i
                    have hxv1 := xorV y (out j)
                    obtain ⟨v1, hv1⟩ : ∃ v1, v1 = out j := ⟨_, rfl⟩
                    rw [← hv1] at c1 hxv1
                    have hn2 := (hn'.put4 (Chg.refl Non wy) h2 (y ^^^ v1)).dr
                    rw [hv1, hj, HY.out, HUO.out, nextP_step1 out xv i h3, ← HUO.out, ← HY.out, ← hj, ← hv1, HXV.out] at hn2
                    have ho2 := (ho'.keep4 (i := i) (Chg.refl Non wy) (show go ≠ gn by omega) (.int .u8 ((y ^^^ v1).toNat : Int))).dr
                    have hd2 := (hd'.keep4 (i := i) (Chg.refl Non wy) (show gd ≠ gn by omega) (.int .u8 ((y ^^^ v1).toNat : Int))).dr
                    have hx2 := (hx'.keep4 (i := i) (Chg.refl Non wy) (show gx ≠ gn by omega) (.int .u8 ((y ^^^ v1).toNat : Int))).dr
                    have ha2 := (ha'.keep4 (i := i) (Chg.refl Non wy) (show ga ≠ gn by omega) (.int .u8 ((y ^^^ v1).toNat : Int))).dr
                    have hcw2 := (hcw'.put4 (i := i) (g := gn) (Chg.refl Non wy) (by omega) (.int .u8 ((y ^^^ v1).toNat : Int))).drew
                    simp only [UInt8.toNat_xor] at hxv1 hn2 ho2 hd2 hx2 ha2 hcw2
                    have HJ := hide hj
                    clear hj hv1 hn' ho' hd' hx' ha' hcw'
                    go_wp2_with fail
                    go_region
                    generalize (wy.setCell ⟨gn, i, none⟩ (.int .u8 ((y.toNat ^^^ v1.toNat : Nat) : Int))).drew = wz at hn2 ho2 hd2 hx2 ha2 hcw2 ⊢
                    have hend : ∃ (i1 : Nat), i1 ≤ 4 ∧ Value.int .i64 ((i : Int) + 1) = Value.int .i64 (i1 : Int) ∧ Blk wz gn 28 (arr4 (nextP out (xs4 k) i1)) ∧ Blk wz go 28 (arr4 out) ∧ Blk wz gd 28 (arr4 d) ∧ Blk wz gx 28 (arr4 xs4) ∧ Blk wz ga 28 (arr4 z4) ∧ Chg Non w wz :=
                      ⟨j, by have := HJ.out; omega, by rw [HJ.out]; go_num, hn2, ho2, hd2, hx2, ha2, hcw2⟩
                    have hwi : IntKind.i64.wrap ((i : Int) + 1) = (i : Int) + 1 := IntWalk.i64_in _ (by omega)
                    clear hwj c1 c3 f3 hxv1
                    go_wp2_with fail
                    go_round
                    case rel => first | exact hend | ((repeat apply Exists.intro); exact ⟨hend, rfl⟩)
                    case measure => simp [intOf]; omega
                  · obtain rfl : i = 3 := by omega
                    rw [HY.out, HUO.out, nextP_step2 out xv, HXV.out] at hn'
                    have hend : ∃ (i1 : Nat), i1 ≤ 4 ∧ Value.int .i64 4 = Value.int .i64 (i1 : Int) ∧ Blk wy gn 28 (arr4 (nextP out (xs4 k) i1)) ∧ Blk wy go 28 (arr4 out) ∧ Blk wy gd 28 (arr4 d) ∧ Blk wy gx 28 (arr4 xs4) ∧ Blk wy ga 28 (arr4 z4) ∧ Chg Non w wy :=
                      ⟨4, by omega, rfl, hn', ho', hd', hx', ha', hcw'⟩
                    rw [show ((3 : Nat) : Int) = 3 from rfl]
                    go_wp2_with fail
                    go_round
                    case rel => first | exact hend | ((repeat apply Exists.intro); exact ⟨hend, rfl⟩)
                    case measure => simp [intOf]
                · obtain rfl : i = 4 := by omega
                  rw [show ((4 : Nat) : Int) = 4 from rfl]
                  have hgn := hn.lt
                  have b3 : (0 : Int) ≤ (k : Int) := by omega
                  have b4 : (k : Int) < 4 := by omega
                  have c1 := cell4 hd hk4
                  have c3 := cell4 hn (k := 3) (by omega)
                  have f3 := hn.frozen 3
                  have hxv1 := xorV (nextP out (xs4 k) 4 3) (d k)
                  have hpol2 : polyF k (upd (nextP out (xs4 k) 4) 3 (nextP out (xs4 k) 4 3 ^^^ d k)) d = polyF 3 (upd z4 3 (d 3)) d := hpol.out
                  obtain ⟨f, hf⟩ : ∃ f, f = nextP out (xs4 k) 4 := ⟨_, rfl⟩
                  rw [← hf] at hn c3 hxv1 hpol2
                  obtain ⟨n3, hn3⟩ : ∃ n3, n3 = f 3 := ⟨_, rfl⟩
                  obtain ⟨dk, hdk⟩ : ∃ dk, dk = d k := ⟨_, rfl⟩
                  rw [← hn3] at c3 hxv1 hpol2
                  rw [← hdk] at c1 hxv1 hpol2
                  have HP2 := hide hpol2
                  clear hpol2 hf hn3 hdk
                  have hn2 := (hn.put4 (Chg.refl Non wr) (i := 3) (by omega) (n3 ^^^ dk)).dr
                  have ho2 := (ho.keep4 (i := 3) (Chg.refl Non wr) (show go ≠ gn by omega) (.int .u8 ((n3 ^^^ dk).toNat : Int))).dr
                  have hd2 := (hd.keep4 (i := 3) (Chg.refl Non wr) (show gd ≠ gn by omega) (.int .u8 ((n3 ^^^ dk).toNat : Int))).dr
                  have hx2 := (hx.keep4 (i := 3) (Chg.refl Non wr) (show gx ≠ gn by omega) (.int .u8 ((n3 ^^^ dk).toNat : Int))).dr
                  have ha2 := (ha.keep4 (i := 3) (Chg.refl Non wr) (show ga ≠ gn by omega) (.int .u8 ((n3 ^^^ dk).toNat : Int))).dr
                  have hcw2 := (hcw.put4 (i := 3) (g := gn) (Chg.refl Non wr) (by omega) (.int .u8 ((n3 ^^^ dk).toNat : Int))).drew
                  obtain ⟨f2, hf2⟩ : ∃ f2, f2 = upd f 3 (n3 ^^^ dk) := ⟨_, rfl⟩
                  rw [← hf2] at hn2 HP2
                  simp only [UInt8.toNat_xor] at hxv1 hn2 ho2 hd2 hx2 ha2 hcw2
                  clear hf2 hn ho hd hx ha hcw
                  go_wp2_with fail
                  go_region
                  generalize (wr.setCell ⟨gn, 3, none⟩ (.int .u8 ((n3.toNat ^^^ dk.toNat : Nat) : Int))).drew = wz at hn2 ho2 hd2 hx2 ha2 hcw2 ⊢
                  clear c1 c3 f3 hxv1
                  have k0 := cell4 hn2 (k := 0) (by omega)
                  have k1 := cell4 hn2 (k := 1) (by omega)
                  have k2 := cell4 hn2 (k := 2) (by omega)
                  have k3 := cell4 hn2 (k := 3) (by omega)
                  have j0 := cell4 ho2 (k := 0) (by omega)
                  have j1 := cell4 ho2 (k := 1) (by omega)
                  have j2 := cell4 ho2 (k := 2) (by omega)
                  have j3 := cell4 ho2 (k := 3) (by omega)
                  have f0 := ho2.frozen 0
                  have f1 := ho2.frozen 1
                  have f2_ := ho2.frozen 2
                  have f3 := ho2.frozen 3
                  have ho3 : Blk _ go 28 (arr4 f2) := ho2.all4 (f2 0) (f2 1) (f2 2) (f2 3)
                  have hd3 := hd2.far4 (g' := go) (by omega) (.int .u8 ((f2 0).toNat : Int)) (.int .u8 ((f2 1).toNat : Int)) (.int .u8 ((f2 2).toNat : Int)) (.int .u8 ((f2 3).toNat : Int))
                  have hx3 := hx2.far4 (g' := go) (by omega) (.int .u8 ((f2 0).toNat : Int)) (.int .u8 ((f2 1).toNat : Int)) (.int .u8 ((f2 2).toNat : Int)) (.int .u8 ((f2 3).toNat : Int))
                  have ha3 := ha2.far4 (g' := go) (by omega) (.int .u8 ((f2 0).toNat : Int)) (.int .u8 ((f2 1).toNat : Int)) (.int .u8 ((f2 2).toNat : Int)) (.int .u8 ((f2 3).toNat : Int))
                  have hcw3 := hcw2.all4 (g := go) (by omega) (.int .u8 ((f2 0).toNat : Int)) (.int .u8 ((f2 1).toNat : Int)) (.int .u8 ((f2 2).toNat : Int)) (.int .u8 ((f2 3).toNat : Int))
                  have hend : ∃ (k1 : Nat) (out1 : F4), k1 ≤ 3 ∧ Value.int .i64 ((k : Int) - 1) = Value.int .i64 ((k1 : Int) - 1) ∧ Hid (polyF k1 out1 d = polyF 3 (upd z4 3 (d 3)) d) ∧ Blk _ go 28 (arr4 out1) ∧ Blk _ gd 28 (arr4 d) ∧ Blk _ gx 28 (arr4 xs4) ∧ Blk _ ga 28 (arr4 z4) ∧ Chg Non w _ := ⟨k, f2, by omega, rfl, HP2, ho3, hd3, hx3, ha3, hcw3⟩
                  clear ho3 hd3 hx3 ha3 hcw3 ho2 hd2 hx2 ha2 hcw2 hn2
                  have hwk : IntKind.i64.wrap ((k : Int) - 1) = (k : Int) - 1 := IntWalk.i64_in _ (by omega)
                  go_wp2_with fail
                  go_round
                  case rel => first | exact hend | ((repeat apply Exists.intro); exact ⟨hend, rfl⟩)
                  case measure => simp [intOf]
            · obtain rfl : k = 0 := by omega
              have hq : qv (quadF out) = qv (chk l) := by
                have h2 : out = polyF 3 (upd z4 3 (d 3)) d := hpol.out
                rw [h2, HD.out]
                have h3 := polyF_newton E
                have e0 := (HE 0).out; have e1 := (HE 1).out; have e2 := (HE 2).out; have e3 := (HE 3).out
                simp only [xs4] at e0 e1 e2 e3
                rw [← e0, ← e1, ← e2, ← e3, newton_chk] at h3
                rw [← h3]; rfl
              have HQ := hide hq
              clear hq hpol
              have k0 := cell4 ho (k := 0) (by omega)
              have k1 := cell4 ho (k := 1) (by omega)
              have k2 := cell4 ho (k := 2) (by omega)
              have k3 := cell4 ho (k := 3) (by omega)
              have j0 := cell4 ha (k := 0) (by omega)
              have j1 := cell4 ha (k := 1) (by omega)
              have j2 := cell4 ha (k := 2) (by omega)
              have j3 := cell4 ha (k := 3) (by omega)
              have f0 := ha.frozen 0
              have f1 := ha.frozen 1
              have f2 := ha.frozen 2
              have f3 := ha.frozen 3
              have ha3 := ha.all4 (out 0) (out 1) (out 2) (out 3)
              have hcw3 := hcw.all4 (g := ga) (by omega) (.int .u8 ((out 0).toNat : Int)) (.int .u8 ((out 1).toNat : Int)) (.int .u8 ((out 2).toNat : Int)) (.int .u8 ((out 3).toNat : Int))
              clear ha ho hd hx hcw
              go_wp2_with fail
              generalize (((wr.setCell ⟨ga, 0, none⟩ (.int .u8 ((out 0).toNat : Int))).setCell ⟨ga, 1, none⟩ (.int .u8 ((out 1).toNat : Int))).setCell ⟨ga, 2, none⟩ (.int .u8 ((out 2).toNat : Int))).setCell ⟨ga, 3, none⟩ (.int .u8 ((out 3).toNat : Int)) = wz at ha3 hcw3 ⊢
              clear k0 k1 k2 k3 j0 j1 j2 j3 f0 f1 f2 f3
              have k0 := ha3.cell 0
              have k1 := ha3.cell 1
              have k2 := ha3.cell 2
              have k3 := ha3.cell 3
              simp at k0 k1 k2 k3
              refine bodyPost_ret (v := qv (quadF out)) (by simp [results, Try.results19, go_sem, k0, k1, k2, k3, qv, bv, quadF]) rfl ⟨?_, hcw3⟩
              rw [HQ.out]
end Go.Proofs.Ytijnfjnkjojjnaa
