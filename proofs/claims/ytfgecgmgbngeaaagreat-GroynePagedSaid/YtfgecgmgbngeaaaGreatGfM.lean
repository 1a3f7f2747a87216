/- The field of 256 elements that parity reckons in: plain mathematics, no program in sight. -/
import Derived.Lib.Bytealg
set_option linter.unusedVariables false
set_option linter.unusedSimpArgs false
set_option maxRecDepth 100000
namespace Go.Proofs.YtfgecgmgbngeaaaGreat

/-! ### over numbers -/
def sel (c : Bool) (a : Nat) : Nat := bif c then a else 0
theorem sel_xor (c d : Bool) (a : Nat) : sel (c ^^ d) a = sel c a ^^^ sel d a := by cases c <;> cases d <;> simp [sel]
theorem sel_xor' (c : Bool) (a b : Nat) : sel c (a ^^^ b) = sel c a ^^^ sel c b := by cases c <;> simp [sel]

/-- times 2 -/
def xtN (a : Nat) : Nat := (a <<< 1) ^^^ sel (a.testBit 7) 285
theorem xtN_xor (a b : Nat) : xtN (a ^^^ b) = xtN a ^^^ xtN b := by
  unfold xtN
  rw [Nat.shiftLeft_xor_distrib, Nat.testBit_xor, sel_xor]
  ac_rfl
def gmN : Nat → Nat → Nat → Nat
  | 0, _, _ => 0
  | f + 1, a, b => sel (b.testBit 0) a ^^^ gmN f (xtN a) (b / 2)
theorem gmN_xor_right (f : Nat) : ∀ a b c, gmN f a (b ^^^ c) = gmN f a b ^^^ gmN f a c := by
  induction f with
  | zero => intro a b c; simp [gmN]
  | succ f ih => intro a b c; simp only [gmN, Nat.testBit_xor, sel_xor, Nat.xor_div_two, ih]; ac_rfl
theorem gmN_xor_left (f : Nat) : ∀ a b c, gmN f (a ^^^ b) c = gmN f a c ^^^ gmN f b c := by
  induction f with
  | zero => intro a b c; simp [gmN]
  | succ f ih => intro a b c; simp only [gmN, sel_xor', xtN_xor, ih]; ac_rfl
def gm (a b : Nat) : Nat := gmN 8 a b

/-- sums go over into sums -/
def Adds (F : Nat → Nat) : Prop := ∀ x y, F (x ^^^ y) = F x ^^^ F y
theorem Adds.zero {F : Nat → Nat} (h : Adds F) : F 0 = 0 := by
  have := h 0 0
  rw [Nat.xor_self, Nat.xor_self] at this
  exact this
theorem Adds.comp {F G : Nat → Nat} (hF : Adds F) (hG : Adds G) : Adds fun x => F (G x) := fun x y => by
  show F (G (x ^^^ y)) = _
  rw [hG, hF]
theorem Adds.xor {F G : Nat → Nat} (hF : Adds F) (hG : Adds G) : Adds fun x => F x ^^^ G x := fun x y => by
  show F (x ^^^ y) ^^^ G (x ^^^ y) = (F x ^^^ G x) ^^^ (F y ^^^ G y)
  rw [hG, hF]; ac_rfl
theorem basis {F G : Nat → Nat} (hF : Adds F) (hG : Adds G) (k : Nat) (h : ∀ i, i < k → F (2 ^ i) = G (2 ^ i)) : ∀ n, n < 2 ^ k → F n = G n := by
  induction k with
  | zero => intro n hn; have : n = 0 := by simp at hn; omega
            subst this; rw [hF.zero, hG.zero]
  | succ k ih =>
    have ih := ih fun i hi => h i (by omega)
    intro n hn
    by_cases hb : n.testBit k = true
    · have hlt : n ^^^ 2 ^ k < 2 ^ k := by
        refine Nat.lt_pow_two_of_testBit _ fun i hi => ?_
        rw [Nat.testBit_xor, Nat.testBit_two_pow]
        rcases Nat.lt_or_ge k i with h1 | h1
        · have h2 : n.testBit i = false := Nat.testBit_lt_two_pow (Nat.lt_of_lt_of_le hn (Nat.pow_le_pow_right (by omega) h1))
          rw [h2]; simp; omega
        · have h2 : k = i := by omega
          subst h2; simp [hb]
      have e : n = (n ^^^ 2 ^ k) ^^^ 2 ^ k := by rw [Nat.xor_assoc, Nat.xor_self, Nat.xor_zero]
      rw [e, hF, hG, ih _ hlt, h k (by omega)]
    · refine ih n (Nat.lt_pow_two_of_testBit _ fun i hi => ?_)
      rcases Nat.lt_or_ge k i with h1 | h1
      · exact Nat.testBit_lt_two_pow (Nat.lt_of_lt_of_le hn (Nat.pow_le_pow_right (by omega) h1))
      · have h2 : k = i := by omega
        subst h2; simpa using hb
theorem gm_right (a : Nat) : Adds (gm a) := gmN_xor_right 8 a
theorem gm_left (b : Nat) : Adds fun a => gm a b := fun x y => gmN_xor_left 8 x y b

theorem xtN_lt (a : Nat) (h : a < 256) : xtN a < 256 := by
  unfold xtN
  refine Nat.lt_pow_two_of_testBit (n := 8) _ fun i hi => ?_
  rw [Nat.testBit_xor]
  have hl : a <<< 1 < 2 ^ 9 := by rw [Nat.shiftLeft_eq]; omega
  rcases Nat.lt_or_ge 8 i with h1 | h1
  · have e1 : (a <<< 1).testBit i = false := Nat.testBit_lt_two_pow (Nat.lt_of_lt_of_le hl (Nat.pow_le_pow_right (by omega) (by omega)))
    have e2 : (sel (a.testBit 7) 285).testBit i = false := by
      cases a.testBit 7
      · simp [sel]
      · exact Nat.testBit_lt_two_pow (Nat.lt_of_lt_of_le (by decide : sel true 285 < 2 ^ 9) (Nat.pow_le_pow_right (by omega) (by omega)))
    rw [e1, e2]; rfl
  · have h2 : i = 8 := by omega
    subst h2
    rw [Nat.testBit_shiftLeft]
    simp only [decide_eq_true (show 1 ≤ 8 by omega), Bool.true_and, show 8 - 1 = 7 from rfl]
    cases a.testBit 7 <;> decide
theorem gmN_lt (f : Nat) : ∀ a b, a < 256 → gmN f a b < 256 := by
  induction f with
  | zero => intro a b _; simp [gmN]
  | succ f ih =>
    intro a b h
    refine Nat.xor_lt_two_pow (n := 8) ?_ (ih _ _ (xtN_lt a h))
    cases b.testBit 0
    · simp [sel]
    · exact h
theorem gm_lt {a : Nat} (b : Nat) (h : a < 256) : gm a b < 256 := gmN_lt 8 a b h

theorem gm_comm {a b : Nat} (ha : a < 256) (hb : b < 256) : gm a b = gm b a := by
  refine basis (F := gm a) (G := fun b => gm b a) (gm_right a) (gm_left a) 8 (fun i hi => ?_) b hb
  refine basis (F := fun a => gm a (2 ^ i)) (G := fun a => gm (2 ^ i) a) (gm_left _) (gm_right _) 8 (fun j hj => ?_) a ha
  revert i j
  decide
theorem gm_assoc {a b c : Nat} (ha : a < 256) (hb : b < 256) (hc : c < 256) : gm (gm a b) c = gm a (gm b c) := by
  refine basis (F := fun c => gm (gm a b) c) (G := fun c => gm a (gm b c)) (gm_right _) ((gm_right a).comp (gm_right b)) 8 (fun i hi => ?_) c hc
  refine basis (F := fun b => gm (gm a b) (2 ^ i)) (G := fun b => gm a (gm b (2 ^ i))) ((gm_left (2 ^ i)).comp (gm_right a)) ((gm_right a).comp (gm_left (2 ^ i))) 8 (fun j hj => ?_) b hb
  refine basis (F := fun a => gm (gm a (2 ^ j)) (2 ^ i)) (G := fun a => gm a (gm (2 ^ j) (2 ^ i))) ((gm_left (2 ^ i)).comp (gm_left (2 ^ j))) (gm_left _) 8 (fun k hk => ?_) a ha
  revert i j k
  decide
theorem gm_one (a : Nat) : gm a 1 = a := by
  have h : ∀ (f a : Nat), gmN f a 0 = 0 := by
    intro f
    induction f with
    | zero => intro a; rfl
    | succ f ih => intro a; simp [gmN, sel, ih]
  show sel (Nat.testBit 1 0) a ^^^ gmN 7 (xtN a) (1 / 2) = a
  rw [show 1 / 2 = 0 from rfl, h, Nat.xor_zero]
  rfl

theorem gmN_zero (f : Nat) : ∀ a, gmN f a 0 = 0 := by
  induction f with
  | zero => intro a; rfl
  | succ f ih => intro a; simp [gmN, sel, ih]
theorem xtN_big {a : Nat} (h : a < 256) (hb : 255 < 2 * a) : xtN a = (2 * a) ^^^ 285 := by
  have ht : a.testBit 7 = true := by rw [Nat.testBit_eq_decide_div_mod_eq]; simp; omega
  unfold xtN
  rw [ht, Nat.shiftLeft_eq, Nat.mul_comm]; rfl
theorem xtN_small {a : Nat} (hb : 2 * a ≤ 255) : xtN a = 2 * a := by
  have ht : a.testBit 7 = false := by rw [Nat.testBit_eq_decide_div_mod_eq]; simp; omega
  unfold xtN
  rw [ht, Nat.shiftLeft_eq, Nat.mul_comm]; simp [sel]

theorem gm_step {f y p x n : Nat} (hy : y < 2 ^ f) (h0 : 0 < y) (h : p ^^^ gmN f x y = n) :
    ∃ f', f = f' + 1 ∧ y / 2 < 2 ^ f' ∧ (p ^^^ sel (y.testBit 0) x) ^^^ gmN f' (xtN x) (y / 2) = n := by
  cases f with
  | zero => simp at hy; omega
  | succ f =>
    refine ⟨f, rfl, by rw [Nat.pow_succ] at hy; omega, ?_⟩
    rw [← h]
    show _ = p ^^^ (sel (y.testBit 0) x ^^^ gmN f (xtN x) (y / 2))
    rw [Nat.xor_assoc]
theorem sel_odd {y : Nat} (x : Nat) (h : y % 2 = 1) : sel (y.testBit 0) x = x := by rw [Nat.testBit_zero, decide_eq_true h]; rfl
theorem sel_even {y : Nat} (x : Nat) (h : ¬ y % 2 = 1) : sel (y.testBit 0) x = 0 := by rw [Nat.testBit_zero, decide_eq_false h]; rfl

/-! the other way: all products first, then reduced -/
def rmA (a b : Nat) : Nat → Nat
  | 0 => 0
  | i + 1 => rmA a b i ^^^ sel (b.testBit i) (a <<< i)
def rmB : Nat → Nat → Nat
  | 0, p => p
  | j + 1, p => rmB j (p ^^^ sel (p.testBit (j + 8)) (285 <<< j))
theorem rmA_right (a : Nat) (i : Nat) : Adds fun b => rmA a b i := by
  induction i with
  | zero => intro x y; simp [rmA]
  | succ i ih =>
    intro x y
    show rmA a (x ^^^ y) i ^^^ sel ((x ^^^ y).testBit i) (a <<< i) = (rmA a x i ^^^ sel (x.testBit i) (a <<< i)) ^^^ (rmA a y i ^^^ sel (y.testBit i) (a <<< i))
    have := ih x y
    simp only at this
    rw [this, Nat.testBit_xor, sel_xor]
    ac_rfl
theorem rmA_left (b : Nat) (i : Nat) : Adds fun a => rmA a b i := by
  induction i with
  | zero => intro x y; simp [rmA]
  | succ i ih =>
    intro x y
    show rmA (x ^^^ y) b i ^^^ sel (b.testBit i) ((x ^^^ y) <<< i) = (rmA x b i ^^^ sel (b.testBit i) (x <<< i)) ^^^ (rmA y b i ^^^ sel (b.testBit i) (y <<< i))
    have := ih x y
    simp only at this
    rw [this, Nat.shiftLeft_xor_distrib, sel_xor']
    ac_rfl
theorem rmB_xor (j : Nat) : Adds (rmB j) := by
  induction j with
  | zero => intro x y; rfl
  | succ j ih =>
    intro x y
    show rmB j ((x ^^^ y) ^^^ sel ((x ^^^ y).testBit (j + 8)) (285 <<< j)) = rmB j (x ^^^ sel (x.testBit (j + 8)) (285 <<< j)) ^^^ rmB j (y ^^^ sel (y.testBit (j + 8)) (285 <<< j))
    rw [← ih, Nat.testBit_xor, sel_xor]
    congr 1
    ac_rfl
theorem rm_gm {a b : Nat} (ha : a < 256) (hb : b < 256) : rmB 7 (rmA a b 8) = gm a b := by
  refine basis (F := fun b => rmB 7 (rmA a b 8)) (G := gm a) ((rmB_xor 7).comp (rmA_right a 8)) (gm_right a) 8 (fun i hi => ?_) b hb
  refine basis (F := fun a => rmB 7 (rmA a (2 ^ i) 8)) (G := fun a => gm a (2 ^ i)) ((rmB_xor 7).comp (rmA_left _ 8)) (gm_left _) 8 (fun j hj => ?_) a ha
  revert i j
  decide

/-! ### over bytes -/
def mulB (a b : UInt8) : UInt8 := UInt8.ofNat (gm a.toNat b.toNat)
theorem toNat_mulB (a b : UInt8) : (mulB a b).toNat = gm a.toNat b.toNat := by
  unfold mulB
  rw [UInt8.toNat_ofNat']
  exact Nat.mod_eq_of_lt (gm_lt _ a.toNat_lt)
theorem byte_eq {a b : UInt8} (h : a.toNat = b.toNat) : a = b := UInt8.toNat_inj.1 h
theorem mulB_comm (a b : UInt8) : mulB a b = mulB b a := byte_eq (by rw [toNat_mulB, toNat_mulB]; exact gm_comm a.toNat_lt b.toNat_lt)
theorem mulB_assoc (a b c : UInt8) : mulB (mulB a b) c = mulB a (mulB b c) := byte_eq (by simp only [toNat_mulB]; exact gm_assoc a.toNat_lt b.toNat_lt c.toNat_lt)
theorem mulB_xor (a b c : UInt8) : mulB a (b ^^^ c) = mulB a b ^^^ mulB a c := byte_eq (by simp only [toNat_mulB, UInt8.toNat_xor]; exact gm_right _ _ _)
theorem xor_mulB (a b c : UInt8) : mulB (a ^^^ b) c = mulB a c ^^^ mulB b c := byte_eq (by simp only [toNat_mulB, UInt8.toNat_xor]; exact gm_left _ _ _)
theorem mulB_one (a : UInt8) : mulB a 1 = a := byte_eq (by rw [toNat_mulB]; exact gm_one _)
theorem one_mulB (a : UInt8) : mulB 1 a = a := by rw [mulB_comm, mulB_one]
theorem mulB_zero (a : UInt8) : mulB a 0 = 0 := byte_eq (by rw [toNat_mulB]; exact (gm_right _).zero)
theorem zero_mulB (a : UInt8) : mulB 0 a = 0 := by rw [mulB_comm, mulB_zero]

/-- what is 1 divided by it: its 254th power -/
def invB (a : UInt8) : UInt8 :=
  let a2 := mulB a a
  let a3 := mulB a2 a
  let a6 := mulB a3 a3
  let a12 := mulB a6 a6
  let a15 := mulB a12 a3
  let a30 := mulB a15 a15
  let a60 := mulB a30 a30
  let a120 := mulB a60 a60
  let a126 := mulB a120 a6
  let a127 := mulB a126 a
  mulB a127 a127
theorem forall_byte {p : UInt8 → Prop} (h : ∀ n : Fin 256, p (UInt8.ofNat n.val)) : ∀ a, p a := fun a => by
  have := h ⟨a.toNat, a.toNat_lt⟩
  simpa using this
set_option maxRecDepth 100000 in
theorem mul_inv : ∀ a : UInt8, a ≠ 0 → mulB a (invB a) = 1 := forall_byte (by decide +kernel)
theorem mulB_eq_zero {a b : UInt8} : mulB a b = 0 ↔ a = 0 ∨ b = 0 := by
  constructor
  · intro h
    by_cases ha : a = 0
    · exact .inl ha
    · right
      have h1 : mulB (invB a) (mulB a b) = b := by rw [← mulB_assoc, mulB_comm (invB a), mul_inv a ha, one_mulB]
      rw [h, mulB_zero] at h1
      exact h1.symm
  · rintro (rfl | rfl)
    · exact zero_mulB _
    · exact mulB_zero _
theorem xor_eq_zero {a b : UInt8} : a ^^^ b = 0 ↔ a = b := by
  constructor
  · intro h
    have : (a ^^^ b) ^^^ b = a := by rw [UInt8.xor_assoc, UInt8.xor_self, UInt8.xor_zero]
    rw [h, UInt8.zero_xor] at this
    exact this.symm
  · rintro rfl; exact UInt8.xor_self
theorem mulB_cancel {a b c : UInt8} (ha : a ≠ 0) (h : mulB a b = mulB a c) : b = c := by
  have h0 : mulB a (b ^^^ c) = 0 := by rw [mulB_xor, h, UInt8.xor_self]
  rcases mulB_eq_zero.1 h0 with h1 | h1
  · exact absurd h1 ha
  · exact xor_eq_zero.1 h1
end Go.Proofs.YtfgecgmgbngeaaaGreat

set_option maxRecDepth 100000
namespace Go.Proofs.YtfgecgmgbngeaaaGreat

/-! ### four bytes in a word -/
abbrev Quad := UInt8 × UInt8 × UInt8 × UInt8
def word (q : Quad) : Nat := (q.1.toNat <<< 24) ^^^ (q.2.1.toNat <<< 16) ^^^ (q.2.2.1.toNat <<< 8) ^^^ q.2.2.2.toNat
def qxor (p q : Quad) : Quad := (p.1 ^^^ q.1, p.2.1 ^^^ q.2.1, p.2.2.1 ^^^ q.2.2.1, p.2.2.2 ^^^ q.2.2.2)
theorem word_xor (p q : Quad) : word (qxor p q) = word p ^^^ word q := by
  show ((p.1 ^^^ q.1).toNat <<< 24) ^^^ ((p.2.1 ^^^ q.2.1).toNat <<< 16) ^^^ ((p.2.2.1 ^^^ q.2.2.1).toNat <<< 8) ^^^ (p.2.2.2 ^^^ q.2.2.2).toNat =
    ((p.1.toNat <<< 24) ^^^ (p.2.1.toNat <<< 16) ^^^ (p.2.2.1.toNat <<< 8) ^^^ p.2.2.2.toNat) ^^^ ((q.1.toNat <<< 24) ^^^ (q.2.1.toNat <<< 16) ^^^ (q.2.2.1.toNat <<< 8) ^^^ q.2.2.2.toNat)
  rw [UInt8.toNat_xor, UInt8.toNat_xor, UInt8.toNat_xor, UInt8.toNat_xor, Nat.shiftLeft_xor_distrib, Nat.shiftLeft_xor_distrib, Nat.shiftLeft_xor_distrib]
  generalize p.1.toNat <<< 24 = a
  generalize p.2.1.toNat <<< 16 = b
  generalize p.2.2.1.toNat <<< 8 = c
  generalize q.1.toNat <<< 24 = d
  generalize q.2.1.toNat <<< 16 = e
  generalize q.2.2.1.toNat <<< 8 = f
  ac_rfl
theorem shl_lt32 {a k : Nat} (ha : a < 256) (hk : k ≤ 24) : a <<< k < 2 ^ 32 := by
  rw [Nat.shiftLeft_eq]
  have h : (2 : Nat) ^ k ≤ 2 ^ 24 := Nat.pow_le_pow_right (by omega) hk
  calc a * 2 ^ k ≤ a * 2 ^ 24 := Nat.mul_le_mul_left _ h
    _ < 2 ^ 32 := by omega
theorem word_lt (q : Quad) : word q < 4294967296 := by
  have h1 := q.1.toNat_lt; have h2 := q.2.1.toNat_lt; have h3 := q.2.2.1.toNat_lt; have h4 := q.2.2.2.toNat_lt
  exact Nat.xor_lt_two_pow (n := 32) (Nat.xor_lt_two_pow (n := 32) (Nat.xor_lt_two_pow (n := 32) (shl_lt32 h1 (by omega)) (shl_lt32 h2 (by omega))) (shl_lt32 h3 (by omega))) (by omega)
theorem shr_small {a k : Nat} (ha : a < 256) (hk : 8 ≤ k) : a >>> k = 0 := by
  rw [Nat.shiftRight_eq_div_pow]
  exact Nat.div_eq_of_lt (Nat.lt_of_lt_of_le ha (Nat.pow_le_pow_right (n := 2) (by omega) hk))
theorem shl_shr {a i j : Nat} : (a <<< i) >>> (i + j) = a >>> j := by
  rw [Nat.shiftRight_add, Nat.shiftLeft_shiftRight]
theorem word_hi (q : Quad) : word q >>> 24 = q.1.toNat := by
  have h2 := q.2.1.toNat_lt; have h3 := q.2.2.1.toNat_lt; have h4 := q.2.2.2.toNat_lt
  unfold word
  rw [Nat.shiftRight_xor_distrib, Nat.shiftRight_xor_distrib, Nat.shiftRight_xor_distrib, Nat.shiftLeft_shiftRight,
    show (24 : Nat) = 16 + 8 from rfl, shl_shr, show (16 : Nat) + 8 = 8 + 16 from rfl, shl_shr, shr_small h2 (by omega), shr_small h3 (by omega), shr_small h4 (by omega)]
  simp
theorem word_b1 (q : Quad) : word q >>> 16 % 256 = q.2.1.toNat := by
  have h1 := q.1.toNat_lt; have h2 := q.2.1.toNat_lt; have h3 := q.2.2.1.toNat_lt; have h4 := q.2.2.2.toNat_lt
  unfold word
  rw [Nat.shiftRight_xor_distrib, Nat.shiftRight_xor_distrib, Nat.shiftRight_xor_distrib, Nat.shiftLeft_shiftRight,
    show (16 : Nat) = 8 + 8 from rfl, shl_shr, shr_small h3 (by omega), shr_small h4 (by omega),
    show q.1.toNat <<< 24 = (q.1.toNat <<< 8) <<< 16 from by rw [← Nat.shiftLeft_add], show (8 : Nat) + 8 = 16 from rfl, Nat.shiftLeft_shiftRight,
    show (256 : Nat) = 2 ^ 8 from rfl, Nat.xor_mod_two_pow, Nat.xor_mod_two_pow, Nat.xor_mod_two_pow, Nat.shiftLeft_eq]
  simp
theorem word_b2 (q : Quad) : word q >>> 8 % 256 = q.2.2.1.toNat := by
  have h1 := q.1.toNat_lt; have h2 := q.2.1.toNat_lt; have h3 := q.2.2.1.toNat_lt; have h4 := q.2.2.2.toNat_lt
  unfold word
  rw [Nat.shiftRight_xor_distrib, Nat.shiftRight_xor_distrib, Nat.shiftRight_xor_distrib, Nat.shiftLeft_shiftRight, shr_small h4 (by omega),
    show q.1.toNat <<< 24 = (q.1.toNat <<< 16) <<< 8 from by rw [← Nat.shiftLeft_add], Nat.shiftLeft_shiftRight,
    show q.2.1.toNat <<< 16 = (q.2.1.toNat <<< 8) <<< 8 from by rw [← Nat.shiftLeft_add], Nat.shiftLeft_shiftRight,
    show (256 : Nat) = 2 ^ 8 from rfl, Nat.xor_mod_two_pow, Nat.xor_mod_two_pow, Nat.xor_mod_two_pow, Nat.shiftLeft_eq, Nat.shiftLeft_eq]
  have e : q.1.toNat * 2 ^ 16 % 2 ^ 8 = 0 := by omega
  rw [e]
  simp
theorem word_lo (q : Quad) : word q % 256 = q.2.2.2.toNat := by
  have h1 := q.1.toNat_lt; have h2 := q.2.1.toNat_lt; have h3 := q.2.2.1.toNat_lt; have h4 := q.2.2.2.toNat_lt
  unfold word
  rw [show (256 : Nat) = 2 ^ 8 from rfl, Nat.xor_mod_two_pow, Nat.xor_mod_two_pow, Nat.xor_mod_two_pow, Nat.shiftLeft_eq, Nat.shiftLeft_eq, Nat.shiftLeft_eq]
  have e1 : ∀ a : Nat, a * 2 ^ 24 % 2 ^ 8 = 0 := fun a => by rw [show (2 : Nat) ^ 24 = 2 ^ 16 * 2 ^ 8 from rfl, ← Nat.mul_assoc, Nat.mul_mod_left]
  have e2 : ∀ a : Nat, a * 2 ^ 16 % 2 ^ 8 = 0 := fun a => by rw [show (2 : Nat) ^ 16 = 2 ^ 8 * 2 ^ 8 from rfl, ← Nat.mul_assoc, Nat.mul_mod_left]
  rw [e1, e2, Nat.mul_mod_left]
  simp
theorem word_shl (q : Quad) : word q * 256 % 4294967296 = word (q.2.1, q.2.2.1, q.2.2.2, 0) := by
  have h2 := q.2.1.toNat_lt; have h3 := q.2.2.1.toNat_lt; have h4 := q.2.2.2.toNat_lt
  rw [show word q * 256 = word q <<< 8 from by rw [Nat.shiftLeft_eq], show (4294967296 : Nat) = 2 ^ 32 from rfl]
  unfold word
  rw [Nat.shiftLeft_xor_distrib, Nat.shiftLeft_xor_distrib, Nat.shiftLeft_xor_distrib, ← Nat.shiftLeft_add, ← Nat.shiftLeft_add, ← Nat.shiftLeft_add,
    Nat.xor_mod_two_pow, Nat.xor_mod_two_pow, Nat.xor_mod_two_pow]
  rw [Nat.mod_eq_of_lt (shl_lt32 h2 (by omega)), Nat.mod_eq_of_lt (shl_lt32 h3 (by omega)), Nat.mod_eq_of_lt (shl_lt32 h4 (by omega))]
  have e : q.1.toNat <<< (24 + 8) % 2 ^ 32 = 0 := by rw [Nat.shiftLeft_eq]; simp
  rw [e]
  simp

/-! ### the generator, times each bit -/
def gens : List Nat := [0x0f367840, 0x1e6cf080, 0x3cd8fd1d, 0x78ade73a, 0xf047d374, 0xfd8ebbe8, 0xe7016bcd, 0xd302d687]
/-- f more bits, the first of them number i -/
def gwF : Nat → Nat → Nat → Nat
  | 0, _, _ => 0
  | f + 1, i, n => sel (n.testBit 0) (gens.getD i 0) ^^^ gwF f (i + 1) (n / 2)
theorem gwF_adds (f : Nat) : ∀ i, Adds (gwF f i) := by
  induction f with
  | zero => intro i x y; simp [gwF]
  | succ f ih => intro i x y; simp only [gwF, Nat.testBit_xor, sel_xor, Nat.xor_div_two, ih (i + 1) (x / 2) (y / 2)]; ac_rfl
theorem gwF_zero (f i : Nat) : gwF f i 0 = 0 := (gwF_adds f i).zero
def genq (f : UInt8) : Quad := (mulB 0x0f f, mulB 0x36 f, mulB 0x78 f, mulB 0x40 f)
theorem gwF_word (f : UInt8) : gwF 8 0 f.toNat = word (genq f) := by
  show _ = ((mulB 0x0f f).toNat <<< 24) ^^^ ((mulB 0x36 f).toNat <<< 16) ^^^ ((mulB 0x78 f).toNat <<< 8) ^^^ (mulB 0x40 f).toNat
  rw [toNat_mulB, toNat_mulB, toNat_mulB, toNat_mulB]
  refine basis (F := gwF 8 0) (G := fun n => ((gm 15 n) <<< 24) ^^^ ((gm 54 n) <<< 16) ^^^ ((gm 120 n) <<< 8) ^^^ gm 64 n) (gwF_adds 8 0) ?_ 8 ?_ f.toNat f.toNat_lt
  · intro x y
    show ((gm 15 (x ^^^ y)) <<< 24) ^^^ ((gm 54 (x ^^^ y)) <<< 16) ^^^ ((gm 120 (x ^^^ y)) <<< 8) ^^^ gm 64 (x ^^^ y) =
      (((gm 15 x) <<< 24) ^^^ ((gm 54 x) <<< 16) ^^^ ((gm 120 x) <<< 8) ^^^ gm 64 x) ^^^ (((gm 15 y) <<< 24) ^^^ ((gm 54 y) <<< 16) ^^^ ((gm 120 y) <<< 8) ^^^ gm 64 y)
    rw [gm_right 15 x y, gm_right 54 x y, gm_right 120 x y, gm_right 64 x y, Nat.shiftLeft_xor_distrib, Nat.shiftLeft_xor_distrib, Nat.shiftLeft_xor_distrib]
    generalize gm 15 x <<< 24 = a
    generalize gm 54 x <<< 16 = b
    generalize gm 120 x <<< 8 = c
    generalize gm 15 y <<< 24 = d
    generalize gm 54 y <<< 16 = e
    generalize gm 120 y <<< 8 = g
    ac_rfl
  · decide

/-- one byte more -/
def cstep (q : Quad) (c : UInt8) : Quad := qxor (q.2.1, q.2.2.1, q.2.2.2, 0) (genq (c ^^^ q.1))
def chk (l : List UInt8) : Quad := l.foldl cstep (0, 0, 0, 0)
theorem chk_append (l m : List UInt8) : chk (l ++ m) = m.foldl cstep (chk l) := by simp [chk]
theorem chk_snoc (l : List UInt8) (c : UInt8) : chk (l ++ [c]) = cstep (chk l) c := by simp [chk]
theorem word_cstep (q : Quad) (c : UInt8) : word (cstep q c) = (word q * 256 % 4294967296) ^^^ gwF 8 0 (c.toNat ^^^ (word q >>> 24)) := by
  rw [cstep, word_xor, word_shl, word_hi, ← gwF_word, UInt8.toNat_xor]
end Go.Proofs.YtfgecgmgbngeaaaGreat

set_option maxRecDepth 100000
namespace Go.Proofs.YtfgecgmgbngeaaaGreat

theorem xor_ac (a b c d : UInt8) : (a ^^^ b) ^^^ (c ^^^ d) = (a ^^^ c) ^^^ (b ^^^ d) := by ac_rfl
theorem xor_self3 (a b : UInt8) : a ^^^ (a ^^^ b) = b := by rw [← UInt8.xor_assoc, UInt8.xor_self, UInt8.zero_xor]

/-! ### the value at a place -/
def evalA (x v : UInt8) (l : List UInt8) : UInt8 := l.foldl (fun v b => mulB v x ^^^ b) v
def evalB (x : UInt8) (l : List UInt8) : UInt8 := evalA x 0 l
def pw (x : UInt8) : Nat → UInt8
  | 0 => 1
  | k + 1 => mulB (pw x k) x
theorem evalA_cons (x v b : UInt8) (l : List UInt8) : evalA x v (b :: l) = evalA x (mulB v x ^^^ b) l := rfl
theorem evalA_eq (x : UInt8) (l : List UInt8) : ∀ v, evalA x v l = mulB v (pw x l.length) ^^^ evalB x l := by
  induction l with
  | nil => intro v; simp [evalA, evalB, pw, mulB_one]
  | cons b l ih =>
    intro v
    have h1 : evalB x (b :: l) = evalA x b l := by show evalA x (mulB 0 x ^^^ b) l = _; rw [zero_mulB, UInt8.zero_xor]
    rw [evalA_cons, h1, ih, ih b, xor_mulB, List.length_cons, pw, mulB_assoc v x, mulB_comm x, UInt8.xor_assoc]
theorem evalB_cons (x b : UInt8) (l : List UInt8) : evalB x (b :: l) = mulB b (pw x l.length) ^^^ evalB x l := by
  show evalA x (mulB 0 x ^^^ b) l = _
  rw [zero_mulB, UInt8.zero_xor, evalA_eq]
theorem evalB_append (x : UInt8) (l m : List UInt8) : evalB x (l ++ m) = mulB (evalB x l) (pw x m.length) ^^^ evalB x m := by
  unfold evalB
  rw [show evalA x 0 (l ++ m) = evalA x (evalA x 0 l) m from by simp [evalA], evalA_eq]
  rfl
theorem evalB_snoc (x : UInt8) (l : List UInt8) (b : UInt8) : evalB x (l ++ [b]) = mulB (evalB x l) x ^^^ b := by simp [evalB, evalA]
def xorL (l m : List UInt8) : List UInt8 := List.zipWith (· ^^^ ·) l m
theorem evalB_xorL (x : UInt8) : ∀ l m : List UInt8, l.length = m.length → evalB x (xorL l m) = evalB x l ^^^ evalB x m
  | [], [], _ => by simp [xorL, evalB, evalA]
  | a :: l, b :: m, h => by
    have h' : l.length = m.length := by simpa using h
    have hl : (xorL l m).length = l.length := by simp [xorL, h']
    show evalB x ((a ^^^ b) :: xorL l m) = _
    rw [evalB_cons, evalB_cons, evalB_cons, evalB_xorL x l m h', hl, xor_mulB, h']
    ac_rfl

/-! ### four bytes -/
def ql (q : Quad) : List UInt8 := [q.1, q.2.1, q.2.2.1, q.2.2.2]
def evalQ (x : UInt8) (q : Quad) : UInt8 := evalB x (ql q)
theorem evalQ_eq (x : UInt8) (q : Quad) : evalQ x q = mulB (mulB (mulB q.1 x ^^^ q.2.1) x ^^^ q.2.2.1) x ^^^ q.2.2.2 := by
  simp [evalQ, ql, evalB, evalA, zero_mulB]
theorem evalQ_xor (x : UInt8) (p q : Quad) : evalQ x (qxor p q) = evalQ x p ^^^ evalQ x q := evalB_xorL x (ql p) (ql q) rfl

/-- the generator is nought there -/
def Root (x : UInt8) : Prop := evalQ x (0x0f, 0x36, 0x78, 0x40) = pw x 4
theorem roots : Root 1 ∧ Root 2 ∧ Root 4 ∧ Root 8 := by unfold Root; decide +kernel
theorem evalQ_gen {x : UInt8} (hx : Root x) (f : UInt8) : evalQ x (genq f) = mulB f (pw x 4) := by
  have h : evalQ x (genq f) = mulB (evalQ x (0x0f, 0x36, 0x78, 0x40)) f := by
    simp only [evalQ_eq, genq, xor_mulB, mulB_assoc, mulB_comm f]
  rw [h, hx, mulB_comm]
theorem evalQ_shift (x : UInt8) (q : Quad) : evalQ x (q.2.1, q.2.2.1, q.2.2.2, 0) = mulB (evalQ x q) x ^^^ mulB q.1 (pw x 4) := by
  have h : ql q = [q.1] ++ [q.2.1, q.2.2.1, q.2.2.2] := rfl
  have h2 : ql (q.2.1, q.2.2.1, q.2.2.2, 0) = [q.2.1, q.2.2.1, q.2.2.2] ++ [0] := rfl
  unfold evalQ
  rw [h, h2, evalB_append x [q.1], evalB_snoc, UInt8.xor_zero, xor_mulB, mulB_assoc]
  rw [show evalB x [q.1] = q.1 by simp [evalB, evalA, zero_mulB]]
  rw [show mulB (pw x [q.2.1, q.2.2.1, q.2.2.2].length) x = pw x 4 from rfl]
  rw [UInt8.xor_comm (mulB q.1 (pw x 4)), UInt8.xor_assoc, UInt8.xor_self, UInt8.xor_zero]
theorem evalQ_cstep {x : UInt8} (hx : Root x) (q : Quad) (c : UInt8) : evalQ x (cstep q c) = mulB (evalQ x q) x ^^^ mulB c (pw x 4) := by
  rw [cstep, evalQ_xor, evalQ_shift, evalQ_gen hx, xor_mulB, UInt8.xor_comm (mulB c _), UInt8.xor_assoc, ← UInt8.xor_assoc (mulB q.1 _), UInt8.xor_self, UInt8.zero_xor]
/-- the check bytes are, at each place, what the bytes times x^4 are -/
theorem evalQ_foldl {x : UInt8} (hx : Root x) (l : List UInt8) : ∀ q, evalQ x (l.foldl cstep q) = mulB (evalQ x q) (pw x l.length) ^^^ mulB (evalB x l) (pw x 4) := by
  induction l with
  | nil => intro q; simp [pw, mulB_one, evalB, evalA, zero_mulB]
  | cons c l ih =>
    intro q
    rw [List.foldl_cons, ih, evalQ_cstep hx, evalB_cons, List.length_cons]
    generalize pw x 4 = y
    rw [show pw x (l.length + 1) = mulB (pw x l.length) x from rfl]
    generalize pw x l.length = z
    rw [xor_mulB, xor_mulB, mulB_assoc (evalQ x q), mulB_comm x, mulB_assoc c, mulB_assoc c, mulB_comm y, UInt8.xor_assoc]
theorem evalQ_chk {x : UInt8} (hx : Root x) (l : List UInt8) : evalQ x (chk l) = mulB (evalB x l) (pw x 4) := by
  rw [chk, evalQ_foldl hx]
  have : evalQ x (0, 0, 0, 0) = 0 := by simp [evalQ_eq, zero_mulB]
  rw [this, zero_mulB, UInt8.zero_xor]

/-! ### from the four values back to the four bytes: divided differences -/
/-- times (x - 4), then (x - 2), then (x - 1) -/
def newton2 (d0 d1 d2 d3 : UInt8) : Quad :=
  let o : Quad := (0, 0, 0, d3)
  let o : Quad := (mulB o.1 4 ^^^ o.2.1, mulB o.2.1 4 ^^^ o.2.2.1, mulB o.2.2.1 4 ^^^ o.2.2.2, mulB o.2.2.2 4 ^^^ d2)
  let o : Quad := (mulB o.1 2 ^^^ o.2.1, mulB o.2.1 2 ^^^ o.2.2.1, mulB o.2.2.1 2 ^^^ o.2.2.2, mulB o.2.2.2 2 ^^^ d1)
  (mulB o.1 1 ^^^ o.2.1, mulB o.2.1 1 ^^^ o.2.2.1, mulB o.2.2.1 1 ^^^ o.2.2.2, mulB o.2.2.2 1 ^^^ d0)
theorem newton2_eq (a b c d : UInt8) : newton2 a b c d = (d, mulB d 1 ^^^ (mulB d 2 ^^^ (mulB d 4 ^^^ c)), mulB (mulB d 2 ^^^ (mulB d 4 ^^^ c)) 1 ^^^ (mulB (mulB d 4 ^^^ c) 2 ^^^ b), mulB (mulB (mulB d 4 ^^^ c) 2 ^^^ b) 1 ^^^ a) := by
  simp only [newton2, zero_mulB, UInt8.zero_xor]
theorem newton2_xor (a b c d e f g h : UInt8) : newton2 (a ^^^ e) (b ^^^ f) (c ^^^ g) (d ^^^ h) = qxor (newton2 a b c d) (newton2 e f g h) := by
  simp only [newton2_eq, qxor, xor_mulB, Prod.mk.injEq, true_and]
  generalize mulB d 1 = x1; generalize mulB d 2 = x2; generalize mulB d 4 = x4
  generalize mulB h 1 = y1; generalize mulB h 2 = y2; generalize mulB h 4 = y4
  generalize mulB x4 2 = x42; generalize mulB y4 2 = y42
  generalize mulB c 2 = c2; generalize mulB g 2 = g2
  generalize mulB x2 1 = x21; generalize mulB y2 1 = y21; generalize mulB x4 1 = x41; generalize mulB y4 1 = y41
  generalize mulB c 1 = c1; generalize mulB g 1 = g1
  generalize mulB x42 1 = x421; generalize mulB y42 1 = y421; generalize mulB c2 1 = c21; generalize mulB g2 1 = g21
  generalize mulB b 1 = b1; generalize mulB f 1 = f1
  refine ⟨?_, ?_, ?_⟩ <;> ac_rfl
def newton (e0 e1 e2 e3 : UInt8) : Quad :=
  let a3 := mulB (e3 ^^^ e2) (invB (8 ^^^ 4))
  let a2 := mulB (e2 ^^^ e1) (invB (4 ^^^ 2))
  let a1 := mulB (e1 ^^^ e0) (invB (2 ^^^ 1))
  let b3 := mulB (a3 ^^^ a2) (invB (8 ^^^ 2))
  let b2 := mulB (a2 ^^^ a1) (invB (4 ^^^ 1))
  let c3 := mulB (b3 ^^^ b2) (invB (8 ^^^ 1))
  newton2 e0 a1 b2 c3
theorem nl1 (a b e f c : UInt8) : mulB ((a ^^^ e) ^^^ (b ^^^ f)) c = mulB (a ^^^ b) c ^^^ mulB (e ^^^ f) c := by rw [xor_ac, xor_mulB]
theorem newton_xor (a b c d e f g h : UInt8) : newton (a ^^^ e) (b ^^^ f) (c ^^^ g) (d ^^^ h) = qxor (newton a b c d) (newton e f g h) := by
  simp only [newton]
  rw [← newton2_xor]
  simp only [nl1]
def evals (q : Quad) : Quad := newton (evalQ 1 q) (evalQ 2 q) (evalQ 4 q) (evalQ 8 q)
theorem evals_xor (p q : Quad) : evals (qxor p q) = qxor (evals p) (evals q) := by
  unfold evals
  rw [evalQ_xor, evalQ_xor, evalQ_xor, evalQ_xor, newton_xor]
set_option maxRecDepth 100000 in
theorem evals_1 : ∀ a, evals (a, 0, 0, 0) = (a, 0, 0, 0) := forall_byte (by decide +kernel)
set_option maxRecDepth 100000 in
theorem evals_2 : ∀ a, evals (0, a, 0, 0) = (0, a, 0, 0) := forall_byte (by decide +kernel)
set_option maxRecDepth 100000 in
theorem evals_3 : ∀ a, evals (0, 0, a, 0) = (0, 0, a, 0) := forall_byte (by decide +kernel)
set_option maxRecDepth 100000 in
theorem evals_4 : ∀ a, evals (0, 0, 0, a) = (0, 0, 0, a) := forall_byte (by decide +kernel)
theorem evals_eq (q : Quad) : evals q = q := by
  obtain ⟨a, b, c, d⟩ := q
  have h : ((a, b, c, d) : Quad) = qxor (qxor (a, 0, 0, 0) (0, b, 0, 0)) (qxor (0, 0, c, 0) (0, 0, 0, d)) := by simp [qxor]
  rw [h, evals_xor, evals_xor, evals_xor, evals_1, evals_2, evals_3, evals_4]
/-- the check bytes, found by solving for them -/
theorem newton_chk (l : List UInt8) : newton (evalB 1 (l ++ [0, 0, 0, 0])) (evalB 2 (l ++ [0, 0, 0, 0])) (evalB 4 (l ++ [0, 0, 0, 0])) (evalB 8 (l ++ [0, 0, 0, 0])) = chk l := by
  have h : ∀ x, Root x → evalB x (l ++ [0, 0, 0, 0]) = evalQ x (chk l) := fun x hx => by
    rw [evalB_append, evalQ_chk hx]
    have : evalB x [0, 0, 0, 0] = 0 := by simp [evalB, evalA, zero_mulB]
    rw [this, UInt8.xor_zero]; rfl
  obtain ⟨r1, r2, r4, r8⟩ := roots
  rw [h 1 r1, h 2 r2, h 4 r4, h 8 r8]
  exact evals_eq (chk l)

/-! ### good cells -/
/-- nought at the four places -/
def Nought (l : List UInt8) : Prop := evalB 1 l = 0 ∧ evalB 2 l = 0 ∧ evalB 4 l = 0 ∧ evalB 8 l = 0
theorem nought_iff (d : List UInt8) (t : Quad) : Nought (d ++ ql t) ↔ chk d = t := by
  have h : ∀ x, Root x → evalB x (d ++ ql t) = evalQ x (qxor (chk d) t) := fun x hx => by
    rw [evalB_append, evalQ_xor, evalQ_chk hx]; rfl
  obtain ⟨r1, r2, r4, r8⟩ := roots
  unfold Nought
  rw [h 1 r1, h 2 r2, h 4 r4, h 8 r8]
  constructor
  · rintro ⟨h1, h2, h4, h8⟩
    have := evals_eq (qxor (chk d) t)
    rw [evals, h1, h2, h4, h8, show newton 0 0 0 0 = (0, 0, 0, 0) by decide +kernel] at this
    generalize chk d = s at this
    obtain ⟨a, b, c, e⟩ := s
    obtain ⟨a', b', c', e'⟩ := t
    simp only [qxor, Prod.mk.injEq] at this
    obtain ⟨i1, i2, i3, i4⟩ := this
    rw [xor_eq_zero.1 i1.symm, xor_eq_zero.1 i2.symm, xor_eq_zero.1 i3.symm, xor_eq_zero.1 i4.symm]
  · rintro rfl
    have : qxor (chk d) (chk d) = (0, 0, 0, 0) := by simp [qxor]
    rw [this]
    simp [evalQ_eq, zero_mulB]

/-! ### few changes are told -/
theorem pw_mul (x y : UInt8) (k : Nat) : pw (mulB x y) k = mulB (pw x k) (pw y k) := by
  induction k with
  | zero => simp [pw, mulB_one]
  | succ k ih => simp only [pw, ih]; rw [mulB_assoc, mulB_assoc, ← mulB_assoc (pw y k), mulB_comm (pw y k), mulB_assoc x]
theorem pw_one (k : Nat) : pw 1 k = 1 := by
  induction k with
  | zero => rfl
  | succ k ih => rw [pw, ih, mulB_one]
theorem pw_pw (x : UInt8) (j k : Nat) : pw (pw x j) k = pw (pw x k) j := by
  induction j with
  | zero => rw [show pw x 0 = 1 from rfl, pw_one]; rfl
  | succ j ih => rw [show pw x (j + 1) = mulB (pw x j) x from rfl, pw_mul, ih]; rfl
theorem pw_add (x : UInt8) (i j : Nat) : pw x (i + j) = mulB (pw x i) (pw x j) := by
  induction j with
  | zero => simp [pw, mulB_one]
  | succ j ih => rw [show i + (j + 1) = (i + j) + 1 from rfl, pw, ih, pw, mulB_assoc]

def vsum (t : List (UInt8 × UInt8)) (j : Nat) : UInt8 := t.foldr (fun p v => mulB p.1 (pw p.2 j) ^^^ v) 0
theorem vsum_cons (p : UInt8 × UInt8) (t : List (UInt8 × UInt8)) (j : Nat) : vsum (p :: t) j = mulB p.1 (pw p.2 j) ^^^ vsum t j := rfl
theorem vsum_map (x0 : UInt8) (j : Nat) : ∀ t : List (UInt8 × UInt8), vsum (t.map fun p => (mulB p.1 (p.2 ^^^ x0), p.2)) j = vsum t (j + 1) ^^^ mulB x0 (vsum t j)
  | [] => by simp [vsum, mulB_zero]
  | p :: t => by
    rw [List.map_cons, vsum_cons, vsum_cons, vsum_cons, vsum_map x0 j t, mulB_xor]
    simp only [pw]
    rw [mulB_xor, xor_mulB, mulB_assoc p.1 p.2, mulB_comm p.2 (pw p.2 j), mulB_assoc p.1 x0, ← mulB_assoc x0 p.1, mulB_comm x0 p.1, mulB_assoc p.1 x0]
    ac_rfl
theorem vander : ∀ (n : Nat) (t : List (UInt8 × UInt8)), t.length = n → (t.map (·.2)).Nodup → (∀ j, j < n → vsum t j = 0) → ∀ p ∈ t, p.1 = 0
  | 0, t, h, _, _ => by rw [List.eq_nil_of_length_eq_zero h]; intro p hp; cases hp
  | n + 1, [], h, _, _ => by simp at h
  | n + 1, (b0, x0) :: t, h, hd, hz => by
    have hl : t.length = n := by simpa using h
    rw [List.map_cons, List.nodup_cons] at hd
    have ih := vander n (t.map fun p => (mulB p.1 (p.2 ^^^ x0), p.2)) (by simpa using hl) (by simpa [Function.comp_def] using hd.2) fun j hj => by
      rw [vsum_map]
      have h1 := hz (j + 1) (by omega)
      have h0 := hz j (by omega)
      rw [vsum_cons] at h1 h0
      have e1 : vsum t (j + 1) = mulB b0 (pw x0 (j + 1)) := (xor_eq_zero.1 h1).symm
      have e0 : vsum t j = mulB b0 (pw x0 j) := (xor_eq_zero.1 h0).symm
      rw [e1, e0, pw, mulB_comm x0, mulB_assoc, UInt8.xor_self]
    have ht : ∀ p ∈ t, p.1 = 0 := fun p hp => by
      have := ih _ (List.mem_map.2 ⟨p, hp, rfl⟩)
      rcases mulB_eq_zero.1 this with h | h
      · exact h
      · exact absurd (xor_eq_zero.1 h) fun e => hd.1 (List.mem_map.2 ⟨p, hp, e⟩)
    intro p hp
    rcases List.mem_cons.1 hp with rfl | hp
    · have h0 := hz 0 (by omega)
      rw [vsum_cons] at h0
      have hz : ∀ t : List (UInt8 × UInt8), (∀ p ∈ t, p.1 = 0) → vsum t 0 = 0 := by
        intro t
        induction t with
        | nil => intro _; rfl
        | cons p t ih => intro h; rw [vsum_cons, h p (by simp), zero_mulB, ih fun q hq => h q (by simp [hq])]; rfl
      rw [hz t ht] at h0
      simpa [pw, mulB_one] using h0
    · exact ht p hp

/-- the bytes that are not nought, each with its power of 2 -/
def terms : List UInt8 → List (UInt8 × UInt8)
  | [] => []
  | b :: l => if b = 0 then terms l else (b, pw 2 l.length) :: terms l
theorem evalB_terms (j : Nat) : ∀ l : List UInt8, evalB (pw 2 j) l = vsum (terms l) j
  | [] => by simp [evalB, evalA, terms, vsum]
  | b :: l => by
    rw [evalB_cons, terms, evalB_terms j l]
    split
    · rename_i h; rw [h, zero_mulB, UInt8.zero_xor]
    · rw [vsum_cons, pw_pw]
def wt (l : List UInt8) : Nat := (terms l).length
set_option maxRecDepth 100000 in
theorem pw2_ne_one : ∀ m : Fin 255, m.val ≠ 0 → pw 2 m.val ≠ 1 := by decide +kernel
theorem pw2_ne_zero (k : Nat) : pw 2 k ≠ 0 := by
  induction k with
  | zero => decide
  | succ k ih => rw [pw]; intro h; rcases mulB_eq_zero.1 h with h | h
                 · exact ih h
                 · exact absurd h (by decide)
theorem pw2_inj {i j : Nat} (h : i < j) (hj : j < 255) : pw 2 i ≠ pw 2 j := by
  intro e
  obtain ⟨m, rfl⟩ : ∃ m, j = i + m := ⟨j - i, by omega⟩
  rw [pw_add] at e
  have h1 : mulB (pw 2 i) 1 = mulB (pw 2 i) (pw 2 m) := by rw [mulB_one]; exact e
  exact pw2_ne_one ⟨m, by omega⟩ (by simp; omega) (mulB_cancel (pw2_ne_zero i) h1).symm
theorem terms_places : ∀ l : List UInt8, ∀ x ∈ (terms l).map (·.2), ∃ k, k < l.length ∧ x = pw 2 k
  | [], x, h => by simp [terms] at h
  | b :: l, x, h => by
    rw [terms] at h
    have ih := terms_places l x
    split at h
    · obtain ⟨k, hk, e⟩ := ih h; exact ⟨k, by simp; omega, e⟩
    · rw [List.map_cons, List.mem_cons] at h
      rcases h with rfl | h
      · exact ⟨l.length, by simp, rfl⟩
      · obtain ⟨k, hk, e⟩ := ih h; exact ⟨k, by simp; omega, e⟩
theorem terms_nodup : ∀ l : List UInt8, l.length ≤ 255 → ((terms l).map (·.2)).Nodup
  | [], _ => by simp [terms]
  | b :: l, h => by
    have h' : l.length ≤ 254 := by simpa using h
    rw [terms]
    split
    · exact terms_nodup l (by omega)
    · rw [List.map_cons, List.nodup_cons]
      refine ⟨fun hm => ?_, terms_nodup l (by omega)⟩
      obtain ⟨k, hk, e⟩ := terms_places l _ hm
      exact pw2_inj hk (by omega) e.symm
theorem terms_ne : ∀ l : List UInt8, ∀ p ∈ terms l, p.1 ≠ 0
  | [], p, h => by simp [terms] at h
  | b :: l, p, h => by
    rw [terms] at h
    split at h
    · exact terms_ne l p h
    · rename_i hb
      rcases List.mem_cons.1 h with rfl | h
      · exact hb
      · exact terms_ne l p h
/-- a sum of at most four bytes that are not nought is not nought at all four places -/
theorem nought_few (l : List UInt8) (hl : l.length ≤ 255) (hw : wt l ≤ 4) (hn : Nought l) : wt l = 0 := by
  obtain ⟨h1, h2, h4, h8⟩ := hn
  have hz : ∀ j, j < 4 → vsum (terms l) j = 0 := by
    intro j hj
    rw [← evalB_terms]
    match j, hj with
    | 0, _ => exact h1
    | 1, _ => rw [show pw 2 1 = 2 by decide +kernel]; exact h2
    | 2, _ => rw [show pw 2 2 = 4 by decide +kernel]; exact h4
    | 3, _ => rw [show pw 2 3 = 8 by decide +kernel]; exact h8
  have hv := vander _ (terms l) rfl (terms_nodup l hl) fun j hj => hz j (by unfold wt at hw; omega)
  unfold wt
  cases ht : terms l with
  | nil => rfl
  | cons p t => exact absurd (hv p (by rw [ht]; simp)) (terms_ne l p (by rw [ht]; simp))
theorem wt_zero : ∀ l : List UInt8, wt l = 0 → l = List.replicate l.length 0
  | [], _ => rfl
  | b :: l, h => by
    unfold wt at h
    rw [terms] at h
    split at h
    · rename_i hb
      rw [hb, List.length_cons, List.replicate_succ, ← wt_zero l h]
    · simp at h
theorem wt_set : ∀ (l : List UInt8) (i : Nat) (b : UInt8), wt (l.set i b) ≤ wt l + 1
  | [], _, _ => by simp [wt, terms]
  | a :: l, 0, b => by
    simp only [List.set_cons_zero, wt, terms]
    split <;> split <;> simp <;> omega
  | a :: l, i + 1, b => by
    have := wt_set l i b
    simp only [List.set_cons_succ, wt, terms] at this ⊢
    rw [List.length_set]
    split <;> simp <;> omega
theorem xorL_set : ∀ (l m : List UInt8) (i : Nat) (b : UInt8) (h : i < m.length), xorL (l.set i b) m = (xorL l m).set i (b ^^^ m[i])
  | [], m, i, b, h => by simp [xorL]
  | a :: l, c :: m, 0, b, h => by simp [xorL]
  | a :: l, c :: m, i + 1, b, h => by
    have := xorL_set l m i b (by simpa using h)
    simp only [xorL, List.set_cons_succ, List.zipWith_cons_cons, List.getElem_cons_succ] at this ⊢
    rw [this]
theorem xorL_zero : ∀ l m : List UInt8, l.length = m.length → xorL l m = List.replicate l.length 0 → l = m
  | [], [], _, _ => rfl
  | a :: l, b :: m, h, e => by
    simp only [xorL, List.zipWith_cons_cons, List.length_cons, List.replicate_succ, List.cons.injEq] at e
    rw [xor_eq_zero.1 e.1, xorL_zero l m (by simpa using h) e.2]
theorem xorL_self : ∀ l : List UInt8, wt (xorL l l) = 0
  | [] => rfl
  | a :: l => by
    have := xorL_self l
    simp only [xorL, List.zipWith_cons_cons, UInt8.xor_self, wt, terms, if_true] at this ⊢
    exact this

/-- does it end with its check bytes -/
def goodB (l : List UInt8) : Bool := decide (4 ≤ l.length) && decide (ql (chk (l.take (l.length - 4))) = l.drop (l.length - 4))
theorem goodB_iff (l : List UInt8) : goodB l = true ↔ 4 ≤ l.length ∧ Nought l := by
  unfold goodB
  rw [Bool.and_eq_true, decide_eq_true_iff, decide_eq_true_iff]
  refine and_congr_right fun h4 => ?_
  obtain ⟨t, ht⟩ : ∃ t : Quad, l.drop (l.length - 4) = ql t := by
    have hl : (l.drop (l.length - 4)).length = 4 := by simp; omega
    match h : l.drop (l.length - 4), hl with
    | [a, b, c, d], _ => exact ⟨(a, b, c, d), rfl⟩
  have e : l = l.take (l.length - 4) ++ ql t := by rw [← ht, List.take_append_drop]
  rw [ht]
  constructor
  · intro h
    rw [e]
    refine (nought_iff _ _).2 ?_
    simp only [ql, List.cons.injEq, and_true] at h
    obtain ⟨h1, h2, h3, h4⟩ := h
    exact Prod.ext h1 (Prod.ext h2 (Prod.ext h3 h4))
  · intro h
    rw [e] at h
    rw [(nought_iff _ _).1 h]
theorem goodB_cell (b : List UInt8) : goodB (b ++ ql (chk b)) = true := by
  rw [goodB_iff]
  exact ⟨by simp [ql], (nought_iff _ _).2 rfl⟩
/-- up to four changes are told -/
theorem tells {b cur : List UInt8} (hb : b.length ≤ 251) (hl : cur.length = (b ++ ql (chk b)).length) (hw : wt (xorL cur (b ++ ql (chk b))) ≤ 4) :
    goodB cur = decide (cur = b ++ ql (chk b)) := by
  have hg := goodB_cell b
  have h255 : (b ++ ql (chk b)).length ≤ 255 := by simp [ql]; omega
  generalize b ++ ql (chk b) = whole at hl hw hg h255
  rw [Bool.eq_iff_iff, decide_eq_true_iff]
  constructor
  · intro hc
    obtain ⟨_, n1, n2, n4, n8⟩ := (goodB_iff cur).1 hc
    obtain ⟨_, m1, m2, m4, m8⟩ := (goodB_iff whole).1 hg
    have hx : (xorL cur whole).length = cur.length := by simp [xorL, hl]
    have hn : Nought (xorL cur whole) := by
      unfold Nought
      rw [evalB_xorL _ _ _ hl, evalB_xorL _ _ _ hl, evalB_xorL _ _ _ hl, evalB_xorL _ _ _ hl, n1, n2, n4, n8, m1, m2, m4, m8]
      simp
    have h0 := wt_zero _ (nought_few _ (by omega) hw hn)
    rw [hx] at h0
    exact xorL_zero _ _ hl h0
  · rintro rfl; exact hg
end Go.Proofs.YtfgecgmgbngeaaaGreat

set_option maxRecDepth 100000
namespace Go.Proofs.YtfgecgmgbngeaaaGreat

def cellB (b : List UInt8) : List UInt8 := b ++ ql (chk b)
def lenB (n : Nat) : List UInt8 := [UInt8.ofNat (n / 16777216), UInt8.ofNat (n / 65536), UInt8.ofNat (n / 256), UInt8.ofNat n]
def cellsF : Nat → List UInt8 → List UInt8
  | 0, _ => []
  | f + 1, b => if b.length = 0 then [] else cellB (b.take 251) ++ cellsF f (b.drop 251)
def cellsB (b : List UInt8) : List UInt8 := cellsF b.length b
def sealB (b : List UInt8) : List UInt8 := cellB (lenB b.length) ++ cellsB b
theorem cellB_length (b : List UInt8) : (cellB b).length = b.length + 4 := by simp [cellB, ql]
theorem cellsF_fuel : ∀ (f g : Nat) (b : List UInt8), b.length ≤ f → b.length ≤ g → cellsF f b = cellsF g b
  | 0, 0, _, _, _ => rfl
  | 0, g + 1, b, h, _ => by rw [cellsF, cellsF, if_pos (by omega)]
  | f + 1, 0, b, _, h => by rw [cellsF, cellsF, if_pos (by omega)]
  | f + 1, g + 1, b, hf, hg => by
    rw [cellsF, cellsF]
    split
    · rfl
    · rw [cellsF_fuel f g (b.drop 251) (by simp; omega) (by simp; omega)]
theorem cellsB_nil {b : List UInt8} (h : b.length = 0) : cellsB b = [] := by rw [cellsB, h]; rfl
theorem cellsB_step {b : List UInt8} (h : 0 < b.length) : cellsB b = cellB (b.take 251) ++ cellsB (b.drop 251) := by
  obtain ⟨n, hn⟩ : ∃ n, b.length = n + 1 := ⟨b.length - 1, by omega⟩
  rw [cellsB, hn, cellsF, if_neg (by omega), cellsB]
  congr 1
  exact cellsF_fuel _ _ _ (by simp; omega) (Nat.le_refl _)
theorem cellsB_length : ∀ (n : Nat) (b : List UInt8), b.length ≤ n → (cellsB b).length = b.length + 4 * ((b.length + 250) / 251)
  | n, b, h => by
    rcases Nat.eq_zero_or_pos b.length with h0 | h0
    · rw [cellsB_nil h0, h0]; rfl
    · match n, h with
      | 0, h => omega
      | n + 1, h =>
        rw [cellsB_step h0, List.length_append, cellB_length, cellsB_length n (b.drop 251) (by simp; omega), List.length_take, List.length_drop]
        by_cases h1 : b.length ≤ 251
        · rw [Nat.min_eq_right h1]
          omega
        · rw [Nat.min_eq_left (by omega)]
          omega
theorem sealB_length (b : List UInt8) : (sealB b).length = 8 + b.length + 4 * ((b.length + 250) / 251) := by
  rw [sealB, List.length_append, cellB_length, cellsB_length _ b (Nat.le_refl _)]
  simp [lenB]; omega

/-! ### back -/
/-- the cell of n bytes at the head of r: its error -/
def tkE (r : List UInt8) (n : Nat) : Int := if r.length < n + 4 then 5 else if goodB (r.take (n + 4)) then 0 else 4
/-- the number that four bytes are -/
def be4 (l : List UInt8) : Nat := l.foldl (fun v b => v * 256 + b.toNat) 0
/-- n bytes more, at the head of r -/
def opF : Nat → Nat → List UInt8 → List UInt8 → List UInt8 × List UInt8 × Int
  | 0, _, done, r => (done, r, 0)
  | f + 1, n, done, r =>
    if n = 0 then (done, r, 0)
    else if tkE r (min 251 n) ≠ 0 then ([], [], tkE r (min 251 n))
    else opF f (n - min 251 n) (done ++ r.take (min 251 n)) (r.drop (min 251 n + 4))
/-- the record at the head of r: what it holds, what is behind it, the error -/
def openR (r : List UInt8) : List UInt8 × List UInt8 × Int :=
  if tkE r 4 ≠ 0 then ([], [], tkE r 4)
  else if 1048576 < be4 (r.take 4) then ([], [], 2)
  else opF (be4 (r.take 4)) (be4 (r.take 4)) [] (r.drop 8)
theorem opF_fuel : ∀ (f g n : Nat) (done r : List UInt8), n ≤ f → n ≤ g → opF f n done r = opF g n done r
  | 0, 0, _, _, _, _, _ => rfl
  | 0, g + 1, n, done, r, h, _ => by rw [opF, opF, if_pos (by omega)]
  | f + 1, 0, n, done, r, _, h => by rw [opF, opF, if_pos (by omega)]
  | f + 1, g + 1, n, done, r, hf, hg => by
    rw [opF, opF]
    split
    · rfl
    · split
      · rfl
      · exact opF_fuel f g _ _ _ (by omega) (by omega)
def opN (n : Nat) (done r : List UInt8) : List UInt8 × List UInt8 × Int := opF n n done r
theorem opN_zero (done r : List UInt8) : opN 0 done r = (done, r, 0) := rfl
theorem opN_bad {n : Nat} {done r : List UInt8} (hn : 0 < n) (h : tkE r (min 251 n) ≠ 0) : opN n done r = ([], [], tkE r (min 251 n)) := by
  obtain ⟨m, rfl⟩ : ∃ m, n = m + 1 := ⟨n - 1, by omega⟩
  rw [opN, opF, if_neg (by omega), if_pos h]
theorem opN_ok {n : Nat} {done r : List UInt8} (hn : 0 < n) (h : tkE r (min 251 n) = 0) : opN n done r = opN (n - min 251 n) (done ++ r.take (min 251 n)) (r.drop (min 251 n + 4)) := by
  obtain ⟨m, rfl⟩ : ∃ m, n = m + 1 := ⟨n - 1, by omega⟩
  rw [opN, opF, if_neg (by omega), if_neg (by simp [h]), opN]
  exact opF_fuel _ _ _ _ _ (by omega) (Nat.le_refl _)
theorem openR_bad {r : List UInt8} (h : tkE r 4 ≠ 0) : openR r = ([], [], tkE r 4) := by rw [openR, if_pos h]
theorem openR_size {r : List UInt8} (h : tkE r 4 = 0) (hn : 1048576 < be4 (r.take 4)) : openR r = ([], [], 2) := by rw [openR, if_neg (by simp [h]), if_pos hn]
theorem openR_ok {r : List UInt8} (h : tkE r 4 = 0) (hn : ¬ 1048576 < be4 (r.take 4)) : openR r = opN (be4 (r.take 4)) [] (r.drop 8) := by rw [openR, if_neg (by simp [h]), if_neg hn]; rfl

/-! ### what was sealed opens -/
theorem tkE_cell (b post : List UInt8) {n : Nat} (hn : b.length = n) : tkE (cellB b ++ post) n = 0 := by
  have hl := cellB_length b
  rw [tkE, if_neg (by rw [List.length_append]; omega), show n + 4 = (cellB b).length by omega, List.take_left, cellB, goodB_cell]
  rfl
theorem be4_lenB {n : Nat} (h : n ≤ 1048576) : be4 (lenB n) = n := by
  simp only [be4, lenB, List.foldl_cons, List.foldl_nil, UInt8.toNat_ofNat']
  omega
theorem opN_cells : ∀ (k : Nat) (b done post : List UInt8), b.length ≤ k → opN b.length done (cellsB b ++ post) = (done ++ b, post, 0)
  | k, b, done, post, h => by
    rcases Nat.eq_zero_or_pos b.length with h0 | h0
    · rw [cellsB_nil h0, h0, opN_zero, List.eq_nil_of_length_eq_zero h0]; simp
    · match k, h with
      | 0, h => omega
      | k + 1, h =>
        have hl : (b.take 251).length = min 251 b.length := by rw [List.length_take]
        have e : cellsB b ++ post = cellB (b.take 251) ++ (cellsB (b.drop 251) ++ post) := by rw [cellsB_step h0, List.append_assoc]
        have hc := cellB_length (b.take 251)
        rw [e, opN_ok h0 (tkE_cell _ _ hl), show min 251 b.length + 4 = (cellB (b.take 251)).length by omega, List.drop_left]
        rw [show b.length - min 251 b.length = (b.drop 251).length by rw [List.length_drop]; omega]
        rw [opN_cells k (b.drop 251) _ post (by rw [List.length_drop]; omega)]
        have ht : (cellB (b.take 251) ++ (cellsB (b.drop 251) ++ post)).take (min 251 b.length) = b.take 251 := by
          rw [cellB, List.append_assoc, ← hl, List.take_left]
        rw [ht, List.append_assoc, List.take_append_drop]
theorem openR_sealB {b : List UInt8} (h : b.length ≤ 1048576) (post : List UInt8) : openR (sealB b ++ post) = (b, post, 0) := by
  have e : sealB b ++ post = cellB (lenB b.length) ++ (cellsB b ++ post) := by rw [sealB, List.append_assoc]
  have hl : (lenB b.length).length = 4 := rfl
  have hc := cellB_length (lenB b.length)
  have ht : (cellB (lenB b.length) ++ (cellsB b ++ post)).take 4 = lenB b.length := by
    rw [cellB, List.append_assoc, ← hl, List.take_left]
  rw [e, openR_ok (tkE_cell _ _ hl) (by rw [ht, be4_lenB h]; omega), ht, be4_lenB h, show 8 = (cellB (lenB b.length)).length by omega, List.drop_left, opN_cells _ _ _ _ (Nat.le_refl _)]
  rfl

/-! ### a beginning of it does not -/
theorem opN_short : ∀ (k : Nat) (b done : List UInt8) (i : Nat), b.length ≤ k → i < (cellsB b).length → opN b.length done ((cellsB b).take i) = ([], [], 5)
  | k, b, done, i, h, hi => by
    rcases Nat.eq_zero_or_pos b.length with h0 | h0
    · rw [cellsB_nil h0] at hi; simp at hi
    · match k, h with
      | 0, h => omega
      | k + 1, h =>
        have hl : (b.take 251).length = min 251 b.length := by rw [List.length_take]
        have hc := cellB_length (b.take 251)
        rw [cellsB_step h0] at hi ⊢
        by_cases h1 : i < min 251 b.length + 4
        · have e5 : tkE ((cellB (b.take 251) ++ cellsB (b.drop 251)).take i) (min 251 b.length) = 5 := by
            rw [tkE, if_pos (by rw [List.length_take]; omega)]
          rw [opN_bad h0 (by rw [e5]; decide), e5]
        · have e : (cellB (b.take 251) ++ cellsB (b.drop 251)).take i = cellB (b.take 251) ++ (cellsB (b.drop 251)).take (i - (cellB (b.take 251)).length) := by
            rw [List.take_append, List.take_of_length_le (by omega)]
          rw [e, opN_ok h0 (tkE_cell _ _ hl), show min 251 b.length + 4 = (cellB (b.take 251)).length by omega, List.drop_left,
            show b.length - min 251 b.length = (b.drop 251).length by rw [List.length_drop]; omega]
          refine opN_short k (b.drop 251) _ _ (by rw [List.length_drop]; omega) ?_
          rw [List.length_append] at hi
          omega
theorem openR_short {b : List UInt8} (h : b.length ≤ 1048576) (i : Nat) (hi : i < (sealB b).length) : openR ((sealB b).take i) = ([], [], 5) := by
  have hl : (lenB b.length).length = 4 := rfl
  have hc := cellB_length (lenB b.length)
  rw [sealB] at hi ⊢
  by_cases h1 : i < 8
  · have e5 : tkE ((cellB (lenB b.length) ++ cellsB b).take i) 4 = 5 := by
      rw [tkE, if_pos (by rw [List.length_take]; omega)]
    rw [openR_bad (by rw [e5]; decide), e5]
  · have e : (cellB (lenB b.length) ++ cellsB b).take i = cellB (lenB b.length) ++ (cellsB b).take (i - 8) := by
      rw [List.take_append, List.take_of_length_le (by omega), hc, hl]
    have ht : (cellB (lenB b.length) ++ (cellsB b).take (i - 8)).take 4 = lenB b.length := by
      rw [cellB, List.append_assoc, ← hl, List.take_left]
    rw [e, openR_ok (tkE_cell _ _ hl) (by rw [ht, be4_lenB h]; omega), ht, be4_lenB h, show 8 = (cellB (lenB b.length)).length by omega, List.drop_left]
    refine opN_short _ b [] _ (Nat.le_refl _) ?_
    rw [List.length_append] at hi
    omega
end Go.Proofs.YtfgecgmgbngeaaaGreat
