/- The check bytes: what is left of bytes, times x^4, divided by the generator. Plain mathematics, no program in sight. -/
import Derived.Test.YtjagiahfndcbhaaGf
namespace Go.Proofs.Ytjagiahfndcbhaa

/-! ### four bytes in a word -/
abbrev Quad := UInt8 × UInt8 × UInt8 × UInt8
def word (q : Quad) : Nat := (q.1.toNat <<< 24) ^^^ (q.2.1.toNat <<< 16) ^^^ (q.2.2.1.toNat <<< 8) ^^^ q.2.2.2.toNat
def qxor (p q : Quad) : Quad := (p.1 ^^^ q.1, p.2.1 ^^^ q.2.1, p.2.2.1 ^^^ q.2.2.1, p.2.2.2 ^^^ q.2.2.2)
theorem word_xor (p q : Quad) : word (qxor p q) = word p ^^^ word q := by
  show ((p.1 ^^^ q.1).toNat <<< 24) ^^^ ((p.2.1 ^^^ q.2.1).toNat <<< 16) ^^^ ((p.2.2.1 ^^^ q.2.2.1).toNat <<< 8) ^^^ (p.2.2.2 ^^^ q.2.2.2).toNat =
    ((p.1.toNat <<< 24) ^^^ (p.2.1.toNat <<< 16) ^^^ (p.2.2.1.toNat <<< 8) ^^^ p.2.2.2.toNat) ^^^ ((q.1.toNat <<< 24) ^^^ (q.2.1.toNat <<< 16) ^^^ (q.2.2.1.toNat <<< 8) ^^^ q.2.2.2.toNat)
  rw [UInt8.toNat_xor, UInt8.toNat_xor, UInt8.toNat_xor, UInt8.toNat_xor, Nat.shiftLeft_xor_distrib, Nat.shiftLeft_xor_distrib, Nat.shiftLeft_xor_distrib]
  generalize p.1.toNat <<< 24 = a
  generalize p.2.1.toNat <<< 16 = b
  generalize p.2.2.1.toNat <<< 8 = c
  generalize q.1.toNat <<< 24 = d
  generalize q.2.1.toNat <<< 16 = e
  generalize q.2.2.1.toNat <<< 8 = f
  ac_rfl
theorem shl_lt32 {a k : Nat} (ha : a < 256) (hk : k ≤ 24) : a <<< k < 2 ^ 32 := by
  rw [Nat.shiftLeft_eq]
  have h : (2 : Nat) ^ k ≤ 2 ^ 24 := Nat.pow_le_pow_right (by omega) hk
  calc a * 2 ^ k ≤ a * 2 ^ 24 := Nat.mul_le_mul_left _ h
    _ < 2 ^ 32 := by omega
theorem word_lt (q : Quad) : word q < 4294967296 := by
  have h1 := q.1.toNat_lt; have h2 := q.2.1.toNat_lt; have h3 := q.2.2.1.toNat_lt; have h4 := q.2.2.2.toNat_lt
  exact Nat.xor_lt_two_pow (n := 32) (Nat.xor_lt_two_pow (n := 32) (Nat.xor_lt_two_pow (n := 32) (shl_lt32 h1 (by omega)) (shl_lt32 h2 (by omega))) (shl_lt32 h3 (by omega))) (by omega)
theorem shr_small {a k : Nat} (ha : a < 256) (hk : 8 ≤ k) : a >>> k = 0 := by
  rw [Nat.shiftRight_eq_div_pow]
  exact Nat.div_eq_of_lt (Nat.lt_of_lt_of_le ha (Nat.pow_le_pow_right (n := 2) (by omega) hk))
theorem shl_shr {a i j : Nat} : (a <<< i) >>> (i + j) = a >>> j := by
  rw [Nat.shiftRight_add, Nat.shiftLeft_shiftRight]
theorem word_hi (q : Quad) : word q >>> 24 = q.1.toNat := by
  have h2 := q.2.1.toNat_lt; have h3 := q.2.2.1.toNat_lt; have h4 := q.2.2.2.toNat_lt
  unfold word
  rw [Nat.shiftRight_xor_distrib, Nat.shiftRight_xor_distrib, Nat.shiftRight_xor_distrib, Nat.shiftLeft_shiftRight,
    show (24 : Nat) = 16 + 8 from rfl, shl_shr, show (16 : Nat) + 8 = 8 + 16 from rfl, shl_shr, shr_small h2 (by omega), shr_small h3 (by omega), shr_small h4 (by omega)]
  simp
theorem word_b1 (q : Quad) : word q >>> 16 % 256 = q.2.1.toNat := by
  have h1 := q.1.toNat_lt; have h2 := q.2.1.toNat_lt; have h3 := q.2.2.1.toNat_lt; have h4 := q.2.2.2.toNat_lt
  unfold word
  rw [Nat.shiftRight_xor_distrib, Nat.shiftRight_xor_distrib, Nat.shiftRight_xor_distrib, Nat.shiftLeft_shiftRight,
    show (16 : Nat) = 8 + 8 from rfl, shl_shr, shr_small h3 (by omega), shr_small h4 (by omega),
    show q.1.toNat <<< 24 = (q.1.toNat <<< 8) <<< 16 from by rw [← Nat.shiftLeft_add], show (8 : Nat) + 8 = 16 from rfl, Nat.shiftLeft_shiftRight,
    show (256 : Nat) = 2 ^ 8 from rfl, Nat.xor_mod_two_pow, Nat.xor_mod_two_pow, Nat.xor_mod_two_pow, Nat.shiftLeft_eq]
  simp
theorem word_b2 (q : Quad) : word q >>> 8 % 256 = q.2.2.1.toNat := by
  have h1 := q.1.toNat_lt; have h2 := q.2.1.toNat_lt; have h3 := q.2.2.1.toNat_lt; have h4 := q.2.2.2.toNat_lt
  unfold word
  rw [Nat.shiftRight_xor_distrib, Nat.shiftRight_xor_distrib, Nat.shiftRight_xor_distrib, Nat.shiftLeft_shiftRight, shr_small h4 (by omega),
    show q.1.toNat <<< 24 = (q.1.toNat <<< 16) <<< 8 from by rw [← Nat.shiftLeft_add], Nat.shiftLeft_shiftRight,
    show q.2.1.toNat <<< 16 = (q.2.1.toNat <<< 8) <<< 8 from by rw [← Nat.shiftLeft_add], Nat.shiftLeft_shiftRight,
    show (256 : Nat) = 2 ^ 8 from rfl, Nat.xor_mod_two_pow, Nat.xor_mod_two_pow, Nat.xor_mod_two_pow, Nat.shiftLeft_eq, Nat.shiftLeft_eq]
  have e : q.1.toNat * 2 ^ 16 % 2 ^ 8 = 0 := by omega
  rw [e]
  simp
theorem word_lo (q : Quad) : word q % 256 = q.2.2.2.toNat := by
  have h1 := q.1.toNat_lt; have h2 := q.2.1.toNat_lt; have h3 := q.2.2.1.toNat_lt; have h4 := q.2.2.2.toNat_lt
  unfold word
  rw [show (256 : Nat) = 2 ^ 8 from rfl, Nat.xor_mod_two_pow, Nat.xor_mod_two_pow, Nat.xor_mod_two_pow, Nat.shiftLeft_eq, Nat.shiftLeft_eq, Nat.shiftLeft_eq]
  have e1 : ∀ a : Nat, a * 2 ^ 24 % 2 ^ 8 = 0 := fun a => by rw [show (2 : Nat) ^ 24 = 2 ^ 16 * 2 ^ 8 from rfl, ← Nat.mul_assoc, Nat.mul_mod_left]
  have e2 : ∀ a : Nat, a * 2 ^ 16 % 2 ^ 8 = 0 := fun a => by rw [show (2 : Nat) ^ 16 = 2 ^ 8 * 2 ^ 8 from rfl, ← Nat.mul_assoc, Nat.mul_mod_left]
  rw [e1, e2, Nat.mul_mod_left]
  simp
theorem word_shl (q : Quad) : word q * 256 % 4294967296 = word (q.2.1, q.2.2.1, q.2.2.2, 0) := by
  have h2 := q.2.1.toNat_lt; have h3 := q.2.2.1.toNat_lt; have h4 := q.2.2.2.toNat_lt
  rw [show word q * 256 = word q <<< 8 from by rw [Nat.shiftLeft_eq], show (4294967296 : Nat) = 2 ^ 32 from rfl]
  unfold word
  rw [Nat.shiftLeft_xor_distrib, Nat.shiftLeft_xor_distrib, Nat.shiftLeft_xor_distrib, ← Nat.shiftLeft_add, ← Nat.shiftLeft_add, ← Nat.shiftLeft_add,
    Nat.xor_mod_two_pow, Nat.xor_mod_two_pow, Nat.xor_mod_two_pow]
  rw [Nat.mod_eq_of_lt (shl_lt32 h2 (by omega)), Nat.mod_eq_of_lt (shl_lt32 h3 (by omega)), Nat.mod_eq_of_lt (shl_lt32 h4 (by omega))]
  have e : q.1.toNat <<< (24 + 8) % 2 ^ 32 = 0 := by rw [Nat.shiftLeft_eq]; simp
  rw [e]
  simp

/-! ### the generator, times each bit -/
def gens : List Nat := [0x0f367840, 0x1e6cf080, 0x3cd8fd1d, 0x78ade73a, 0xf047d374, 0xfd8ebbe8, 0xe7016bcd, 0xd302d687]
/-- f more bits, the first of them number i -/
def gwF : Nat → Nat → Nat → Nat
  | 0, _, _ => 0
  | f + 1, i, n => sel (n.testBit 0) (gens.getD i 0) ^^^ gwF f (i + 1) (n / 2)
theorem gwF_adds (f : Nat) : ∀ i, Adds (gwF f i) := by
  induction f with
  | zero => intro i x y; simp [gwF]
  | succ f ih => intro i x y; simp only [gwF, Nat.testBit_xor, sel_xor, Nat.xor_div_two, ih (i + 1) (x / 2) (y / 2)]; ac_rfl
theorem gwF_zero (f i : Nat) : gwF f i 0 = 0 := (gwF_adds f i).zero
def genq (f : UInt8) : Quad := (mulB 0x0f f, mulB 0x36 f, mulB 0x78 f, mulB 0x40 f)
theorem gwF_word (f : UInt8) : gwF 8 0 f.toNat = word (genq f) := by
  show _ = ((mulB 0x0f f).toNat <<< 24) ^^^ ((mulB 0x36 f).toNat <<< 16) ^^^ ((mulB 0x78 f).toNat <<< 8) ^^^ (mulB 0x40 f).toNat
  rw [toNat_mulB, toNat_mulB, toNat_mulB, toNat_mulB]
  refine basis (F := gwF 8 0) (G := fun n => ((gm 15 n) <<< 24) ^^^ ((gm 54 n) <<< 16) ^^^ ((gm 120 n) <<< 8) ^^^ gm 64 n) (gwF_adds 8 0) ?_ 8 ?_ f.toNat f.toNat_lt
  · intro x y
    show ((gm 15 (x ^^^ y)) <<< 24) ^^^ ((gm 54 (x ^^^ y)) <<< 16) ^^^ ((gm 120 (x ^^^ y)) <<< 8) ^^^ gm 64 (x ^^^ y) =
      (((gm 15 x) <<< 24) ^^^ ((gm 54 x) <<< 16) ^^^ ((gm 120 x) <<< 8) ^^^ gm 64 x) ^^^ (((gm 15 y) <<< 24) ^^^ ((gm 54 y) <<< 16) ^^^ ((gm 120 y) <<< 8) ^^^ gm 64 y)
    rw [gm_right 15 x y, gm_right 54 x y, gm_right 120 x y, gm_right 64 x y, Nat.shiftLeft_xor_distrib, Nat.shiftLeft_xor_distrib, Nat.shiftLeft_xor_distrib]
    generalize gm 15 x <<< 24 = a
    generalize gm 54 x <<< 16 = b
    generalize gm 120 x <<< 8 = c
    generalize gm 15 y <<< 24 = d
    generalize gm 54 y <<< 16 = e
    generalize gm 120 y <<< 8 = g
    ac_rfl
  · decide

/-- one byte more -/
def cstep (q : Quad) (c : UInt8) : Quad := qxor (q.2.1, q.2.2.1, q.2.2.2, 0) (genq (c ^^^ q.1))
def chk (l : List UInt8) : Quad := l.foldl cstep (0, 0, 0, 0)
theorem chk_append (l m : List UInt8) : chk (l ++ m) = m.foldl cstep (chk l) := by simp [chk]
theorem chk_snoc (l : List UInt8) (c : UInt8) : chk (l ++ [c]) = cstep (chk l) c := by simp [chk]
theorem word_cstep (q : Quad) (c : UInt8) : word (cstep q c) = (word q * 256 % 4294967296) ^^^ gwF 8 0 (c.toNat ^^^ (word q >>> 24)) := by
  rw [cstep, word_xor, word_shl, word_hi, ← gwF_word, UInt8.toNat_xor]
end Go.Proofs.Ytjagiahfndcbhaa
