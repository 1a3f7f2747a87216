/- The field of 256 elements that parity reckons in: plain mathematics, no program in sight. -/
import Derived.Lib.Bytealg
namespace Go.Proofs.Ytjagiahfndcbhaa

/-! ### over numbers -/
def sel (c : Bool) (a : Nat) : Nat := bif c then a else 0
theorem sel_xor (c d : Bool) (a : Nat) : sel (c ^^ d) a = sel c a ^^^ sel d a := by cases c <;> cases d <;> simp [sel]
theorem sel_xor' (c : Bool) (a b : Nat) : sel c (a ^^^ b) = sel c a ^^^ sel c b := by cases c <;> simp [sel]

/-- times 2 -/
def xtN (a : Nat) : Nat := (a <<< 1) ^^^ sel (a.testBit 7) 285
theorem xtN_xor (a b : Nat) : xtN (a ^^^ b) = xtN a ^^^ xtN b := by
  unfold xtN
  rw [Nat.shiftLeft_xor_distrib, Nat.testBit_xor, sel_xor]
  ac_rfl
def gmN : Nat → Nat → Nat → Nat
  | 0, _, _ => 0
  | f + 1, a, b => sel (b.testBit 0) a ^^^ gmN f (xtN a) (b / 2)
theorem gmN_xor_right (f : Nat) : ∀ a b c, gmN f a (b ^^^ c) = gmN f a b ^^^ gmN f a c := by
  induction f with
  | zero => intro a b c; simp [gmN]
  | succ f ih => intro a b c; simp only [gmN, Nat.testBit_xor, sel_xor, Nat.xor_div_two, ih]; ac_rfl
theorem gmN_xor_left (f : Nat) : ∀ a b c, gmN f (a ^^^ b) c = gmN f a c ^^^ gmN f b c := by
  induction f with
  | zero => intro a b c; simp [gmN]
  | succ f ih => intro a b c; simp only [gmN, sel_xor', xtN_xor, ih]; ac_rfl
def gm (a b : Nat) : Nat := gmN 8 a b

/-- sums go over into sums -/
def Adds (F : Nat → Nat) : Prop := ∀ x y, F (x ^^^ y) = F x ^^^ F y
theorem Adds.zero {F : Nat → Nat} (h : Adds F) : F 0 = 0 := by
  have := h 0 0
  rw [Nat.xor_self, Nat.xor_self] at this
  exact this
theorem Adds.comp {F G : Nat → Nat} (hF : Adds F) (hG : Adds G) : Adds fun x => F (G x) := fun x y => by
  show F (G (x ^^^ y)) = _
  rw [hG, hF]
theorem Adds.xor {F G : Nat → Nat} (hF : Adds F) (hG : Adds G) : Adds fun x => F x ^^^ G x := fun x y => by
  show F (x ^^^ y) ^^^ G (x ^^^ y) = (F x ^^^ G x) ^^^ (F y ^^^ G y)
  rw [hG, hF]; ac_rfl
theorem basis {F G : Nat → Nat} (hF : Adds F) (hG : Adds G) (k : Nat) (h : ∀ i, i < k → F (2 ^ i) = G (2 ^ i)) : ∀ n, n < 2 ^ k → F n = G n := by
  induction k with
  | zero => intro n hn; have : n = 0 := by simp at hn; omega
            subst this; rw [hF.zero, hG.zero]
  | succ k ih =>
    have ih := ih fun i hi => h i (by omega)
    intro n hn
    by_cases hb : n.testBit k = true
    · have hlt : n ^^^ 2 ^ k < 2 ^ k := by
        refine Nat.lt_pow_two_of_testBit _ fun i hi => ?_
        rw [Nat.testBit_xor, Nat.testBit_two_pow]
        rcases Nat.lt_or_ge k i with h1 | h1
        · have h2 : n.testBit i = false := Nat.testBit_lt_two_pow (Nat.lt_of_lt_of_le hn (Nat.pow_le_pow_right (by omega) h1))
          rw [h2]; simp; omega
        · have h2 : k = i := by omega
          subst h2; simp [hb]
      have e : n = (n ^^^ 2 ^ k) ^^^ 2 ^ k := by rw [Nat.xor_assoc, Nat.xor_self, Nat.xor_zero]
      rw [e, hF, hG, ih _ hlt, h k (by omega)]
    · refine ih n (Nat.lt_pow_two_of_testBit _ fun i hi => ?_)
      rcases Nat.lt_or_ge k i with h1 | h1
      · exact Nat.testBit_lt_two_pow (Nat.lt_of_lt_of_le hn (Nat.pow_le_pow_right (by omega) h1))
      · have h2 : k = i := by omega
        subst h2; simpa using hb
theorem gm_right (a : Nat) : Adds (gm a) := gmN_xor_right 8 a
theorem gm_left (b : Nat) : Adds fun a => gm a b := fun x y => gmN_xor_left 8 x y b

theorem xtN_lt (a : Nat) (h : a < 256) : xtN a < 256 := by
  unfold xtN
  refine Nat.lt_pow_two_of_testBit (n := 8) _ fun i hi => ?_
  rw [Nat.testBit_xor]
  have hl : a <<< 1 < 2 ^ 9 := by rw [Nat.shiftLeft_eq]; omega
  rcases Nat.lt_or_ge 8 i with h1 | h1
  · have e1 : (a <<< 1).testBit i = false := Nat.testBit_lt_two_pow (Nat.lt_of_lt_of_le hl (Nat.pow_le_pow_right (by omega) (by omega)))
    have e2 : (sel (a.testBit 7) 285).testBit i = false := by
      cases a.testBit 7
      · simp [sel]
      · exact Nat.testBit_lt_two_pow (Nat.lt_of_lt_of_le (by decide : sel true 285 < 2 ^ 9) (Nat.pow_le_pow_right (by omega) (by omega)))
    rw [e1, e2]; rfl
  · have h2 : i = 8 := by omega
    subst h2
    rw [Nat.testBit_shiftLeft]
    simp only [decide_eq_true (show 1 ≤ 8 by omega), Bool.true_and, show 8 - 1 = 7 from rfl]
    cases a.testBit 7 <;> decide
theorem gmN_lt (f : Nat) : ∀ a b, a < 256 → gmN f a b < 256 := by
  induction f with
  | zero => intro a b _; simp [gmN]
  | succ f ih =>
    intro a b h
    refine Nat.xor_lt_two_pow (n := 8) ?_ (ih _ _ (xtN_lt a h))
    cases b.testBit 0
    · simp [sel]
    · exact h
theorem gm_lt {a : Nat} (b : Nat) (h : a < 256) : gm a b < 256 := gmN_lt 8 a b h

theorem gm_comm {a b : Nat} (ha : a < 256) (hb : b < 256) : gm a b = gm b a := by
  refine basis (F := gm a) (G := fun b => gm b a) (gm_right a) (gm_left a) 8 (fun i hi => ?_) b hb
  refine basis (F := fun a => gm a (2 ^ i)) (G := fun a => gm (2 ^ i) a) (gm_left _) (gm_right _) 8 (fun j hj => ?_) a ha
  revert i j
  decide
theorem gm_assoc {a b c : Nat} (ha : a < 256) (hb : b < 256) (hc : c < 256) : gm (gm a b) c = gm a (gm b c) := by
  refine basis (F := fun c => gm (gm a b) c) (G := fun c => gm a (gm b c)) (gm_right _) ((gm_right a).comp (gm_right b)) 8 (fun i hi => ?_) c hc
  refine basis (F := fun b => gm (gm a b) (2 ^ i)) (G := fun b => gm a (gm b (2 ^ i))) ((gm_left (2 ^ i)).comp (gm_right a)) ((gm_right a).comp (gm_left (2 ^ i))) 8 (fun j hj => ?_) b hb
  refine basis (F := fun a => gm (gm a (2 ^ j)) (2 ^ i)) (G := fun a => gm a (gm (2 ^ j) (2 ^ i))) ((gm_left (2 ^ i)).comp (gm_left (2 ^ j))) (gm_left _) 8 (fun k hk => ?_) a ha
  revert i j k
  decide
theorem gm_one (a : Nat) : gm a 1 = a := by
  have h : ∀ (f a : Nat), gmN f a 0 = 0 := by
    intro f
    induction f with
    | zero => intro a; rfl
    | succ f ih => intro a; simp [gmN, sel, ih]
  show sel (Nat.testBit 1 0) a ^^^ gmN 7 (xtN a) (1 / 2) = a
  rw [show 1 / 2 = 0 from rfl, h, Nat.xor_zero]
  rfl

theorem gmN_zero (f : Nat) : ∀ a, gmN f a 0 = 0 := by
  induction f with
  | zero => intro a; rfl
  | succ f ih => intro a; simp [gmN, sel, ih]
theorem xtN_big {a : Nat} (h : a < 256) (hb : 255 < 2 * a) : xtN a = (2 * a) ^^^ 285 := by
  have ht : a.testBit 7 = true := by rw [Nat.testBit_eq_decide_div_mod_eq]; simp; omega
  unfold xtN
  rw [ht, Nat.shiftLeft_eq, Nat.mul_comm]; rfl
theorem xtN_small {a : Nat} (hb : 2 * a ≤ 255) : xtN a = 2 * a := by
  have ht : a.testBit 7 = false := by rw [Nat.testBit_eq_decide_div_mod_eq]; simp; omega
  unfold xtN
  rw [ht, Nat.shiftLeft_eq, Nat.mul_comm]; simp [sel]

theorem gm_step {f y p x n : Nat} (hy : y < 2 ^ f) (h0 : 0 < y) (h : p ^^^ gmN f x y = n) :
    ∃ f', f = f' + 1 ∧ y / 2 < 2 ^ f' ∧ (p ^^^ sel (y.testBit 0) x) ^^^ gmN f' (xtN x) (y / 2) = n := by
  cases f with
  | zero => simp at hy; omega
  | succ f =>
    refine ⟨f, rfl, by rw [Nat.pow_succ] at hy; omega, ?_⟩
    rw [← h]
    show _ = p ^^^ (sel (y.testBit 0) x ^^^ gmN f (xtN x) (y / 2))
    rw [Nat.xor_assoc]
theorem sel_odd {y : Nat} (x : Nat) (h : y % 2 = 1) : sel (y.testBit 0) x = x := by rw [Nat.testBit_zero, decide_eq_true h]; rfl
theorem sel_even {y : Nat} (x : Nat) (h : ¬ y % 2 = 1) : sel (y.testBit 0) x = 0 := by rw [Nat.testBit_zero, decide_eq_false h]; rfl

/-! the other way: all products first, then reduced -/
def rmA (a b : Nat) : Nat → Nat
  | 0 => 0
  | i + 1 => rmA a b i ^^^ sel (b.testBit i) (a <<< i)
def rmB : Nat → Nat → Nat
  | 0, p => p
  | j + 1, p => rmB j (p ^^^ sel (p.testBit (j + 8)) (285 <<< j))
theorem rmA_right (a : Nat) (i : Nat) : Adds fun b => rmA a b i := by
  induction i with
  | zero => intro x y; simp [rmA]
  | succ i ih =>
    intro x y
    show rmA a (x ^^^ y) i ^^^ sel ((x ^^^ y).testBit i) (a <<< i) = (rmA a x i ^^^ sel (x.testBit i) (a <<< i)) ^^^ (rmA a y i ^^^ sel (y.testBit i) (a <<< i))
    have := ih x y
    simp only at this
    rw [this, Nat.testBit_xor, sel_xor]
    ac_rfl
theorem rmA_left (b : Nat) (i : Nat) : Adds fun a => rmA a b i := by
  induction i with
  | zero => intro x y; simp [rmA]
  | succ i ih =>
    intro x y
    show rmA (x ^^^ y) b i ^^^ sel (b.testBit i) ((x ^^^ y) <<< i) = (rmA x b i ^^^ sel (b.testBit i) (x <<< i)) ^^^ (rmA y b i ^^^ sel (b.testBit i) (y <<< i))
    have := ih x y
    simp only at this
    rw [this, Nat.shiftLeft_xor_distrib, sel_xor']
    ac_rfl
theorem rmB_xor (j : Nat) : Adds (rmB j) := by
  induction j with
  | zero => intro x y; rfl
  | succ j ih =>
    intro x y
    show rmB j ((x ^^^ y) ^^^ sel ((x ^^^ y).testBit (j + 8)) (285 <<< j)) = rmB j (x ^^^ sel (x.testBit (j + 8)) (285 <<< j)) ^^^ rmB j (y ^^^ sel (y.testBit (j + 8)) (285 <<< j))
    rw [← ih, Nat.testBit_xor, sel_xor]
    congr 1
    ac_rfl
theorem rm_gm {a b : Nat} (ha : a < 256) (hb : b < 256) : rmB 7 (rmA a b 8) = gm a b := by
  refine basis (F := fun b => rmB 7 (rmA a b 8)) (G := gm a) ((rmB_xor 7).comp (rmA_right a 8)) (gm_right a) 8 (fun i hi => ?_) b hb
  refine basis (F := fun a => rmB 7 (rmA a (2 ^ i) 8)) (G := fun a => gm a (2 ^ i)) ((rmB_xor 7).comp (rmA_left _ 8)) (gm_left _) 8 (fun j hj => ?_) a ha
  revert i j
  decide

/-! ### over bytes -/
def mulB (a b : UInt8) : UInt8 := UInt8.ofNat (gm a.toNat b.toNat)
theorem toNat_mulB (a b : UInt8) : (mulB a b).toNat = gm a.toNat b.toNat := by
  unfold mulB
  rw [UInt8.toNat_ofNat']
  exact Nat.mod_eq_of_lt (gm_lt _ a.toNat_lt)
theorem byte_eq {a b : UInt8} (h : a.toNat = b.toNat) : a = b := UInt8.toNat_inj.1 h
theorem mulB_comm (a b : UInt8) : mulB a b = mulB b a := byte_eq (by rw [toNat_mulB, toNat_mulB]; exact gm_comm a.toNat_lt b.toNat_lt)
theorem mulB_assoc (a b c : UInt8) : mulB (mulB a b) c = mulB a (mulB b c) := byte_eq (by simp only [toNat_mulB]; exact gm_assoc a.toNat_lt b.toNat_lt c.toNat_lt)
theorem mulB_xor (a b c : UInt8) : mulB a (b ^^^ c) = mulB a b ^^^ mulB a c := byte_eq (by simp only [toNat_mulB, UInt8.toNat_xor]; exact gm_right _ _ _)
theorem xor_mulB (a b c : UInt8) : mulB (a ^^^ b) c = mulB a c ^^^ mulB b c := byte_eq (by simp only [toNat_mulB, UInt8.toNat_xor]; exact gm_left _ _ _)
theorem mulB_one (a : UInt8) : mulB a 1 = a := byte_eq (by rw [toNat_mulB]; exact gm_one _)
theorem one_mulB (a : UInt8) : mulB 1 a = a := by rw [mulB_comm, mulB_one]
theorem mulB_zero (a : UInt8) : mulB a 0 = 0 := byte_eq (by rw [toNat_mulB]; exact (gm_right _).zero)
theorem zero_mulB (a : UInt8) : mulB 0 a = 0 := by rw [mulB_comm, mulB_zero]

/-- what is 1 divided by it: its 254th power -/
def invB (a : UInt8) : UInt8 :=
  let a2 := mulB a a
  let a3 := mulB a2 a
  let a6 := mulB a3 a3
  let a12 := mulB a6 a6
  let a15 := mulB a12 a3
  let a30 := mulB a15 a15
  let a60 := mulB a30 a30
  let a120 := mulB a60 a60
  let a126 := mulB a120 a6
  let a127 := mulB a126 a
  mulB a127 a127
theorem forall_byte {p : UInt8 → Prop} (h : ∀ n : Fin 256, p (UInt8.ofNat n.val)) : ∀ a, p a := fun a => by
  have := h ⟨a.toNat, a.toNat_lt⟩
  simpa using this
set_option maxRecDepth 100000 in
theorem mul_inv : ∀ a : UInt8, a ≠ 0 → mulB a (invB a) = 1 := forall_byte (by decide +kernel)
theorem mulB_eq_zero {a b : UInt8} : mulB a b = 0 ↔ a = 0 ∨ b = 0 := by
  constructor
  · intro h
    by_cases ha : a = 0
    · exact .inl ha
    · right
      have h1 : mulB (invB a) (mulB a b) = b := by rw [← mulB_assoc, mulB_comm (invB a), mul_inv a ha, one_mulB]
      rw [h, mulB_zero] at h1
      exact h1.symm
  · rintro (rfl | rfl)
    · exact zero_mulB _
    · exact mulB_zero _
theorem xor_eq_zero {a b : UInt8} : a ^^^ b = 0 ↔ a = b := by
  constructor
  · intro h
    have : (a ^^^ b) ^^^ b = a := by rw [UInt8.xor_assoc, UInt8.xor_self, UInt8.xor_zero]
    rw [h, UInt8.zero_xor] at this
    exact this.symm
  · rintro rfl; exact UInt8.xor_self
theorem mulB_cancel {a b c : UInt8} (ha : a ≠ 0) (h : mulB a b = mulB a c) : b = c := by
  have h0 : mulB a (b ^^^ c) = 0 := by rw [mulB_xor, h, UInt8.xor_self]
  rcases mulB_eq_zero.1 h0 with h1 | h1
  · exact absurd h1 ha
  · exact xor_eq_zero.1 h1
end Go.Proofs.Ytjagiahfndcbhaa
