/- Polynomials of bytes at the generator's four places: good cells, and that few changes are told. Plain mathematics, no program in sight. -/
import Derived.Test.YtjagiahfndcbhaaChk
namespace Go.Proofs.Ytjagiahfndcbhaa

theorem xor_ac (a b c d : UInt8) : (a ^^^ b) ^^^ (c ^^^ d) = (a ^^^ c) ^^^ (b ^^^ d) := by ac_rfl
theorem xor_self3 (a b : UInt8) : a ^^^ (a ^^^ b) = b := by rw [← UInt8.xor_assoc, UInt8.xor_self, UInt8.zero_xor]

/-! ### the value at a place -/
def evalA (x v : UInt8) (l : List UInt8) : UInt8 := l.foldl (fun v b => mulB v x ^^^ b) v
def evalB (x : UInt8) (l : List UInt8) : UInt8 := evalA x 0 l
def pw (x : UInt8) : Nat → UInt8
  | 0 => 1
  | k + 1 => mulB (pw x k) x
theorem evalA_cons (x v b : UInt8) (l : List UInt8) : evalA x v (b :: l) = evalA x (mulB v x ^^^ b) l := rfl
theorem evalA_eq (x : UInt8) (l : List UInt8) : ∀ v, evalA x v l = mulB v (pw x l.length) ^^^ evalB x l := by
  induction l with
  | nil => intro v; simp [evalA, evalB, pw, mulB_one]
  | cons b l ih =>
    intro v
    have h1 : evalB x (b :: l) = evalA x b l := by show evalA x (mulB 0 x ^^^ b) l = _; rw [zero_mulB, UInt8.zero_xor]
    rw [evalA_cons, h1, ih, ih b, xor_mulB, List.length_cons, pw, mulB_assoc v x, mulB_comm x, UInt8.xor_assoc]
theorem evalB_cons (x b : UInt8) (l : List UInt8) : evalB x (b :: l) = mulB b (pw x l.length) ^^^ evalB x l := by
  show evalA x (mulB 0 x ^^^ b) l = _
  rw [zero_mulB, UInt8.zero_xor, evalA_eq]
theorem evalB_append (x : UInt8) (l m : List UInt8) : evalB x (l ++ m) = mulB (evalB x l) (pw x m.length) ^^^ evalB x m := by
  unfold evalB
  rw [show evalA x 0 (l ++ m) = evalA x (evalA x 0 l) m from by simp [evalA], evalA_eq]
  rfl
theorem evalB_snoc (x : UInt8) (l : List UInt8) (b : UInt8) : evalB x (l ++ [b]) = mulB (evalB x l) x ^^^ b := by simp [evalB, evalA]
def xorL (l m : List UInt8) : List UInt8 := List.zipWith (· ^^^ ·) l m
theorem evalB_xorL (x : UInt8) : ∀ l m : List UInt8, l.length = m.length → evalB x (xorL l m) = evalB x l ^^^ evalB x m
  | [], [], _ => by simp [xorL, evalB, evalA]
  | a :: l, b :: m, h => by
    have h' : l.length = m.length := by simpa using h
    have hl : (xorL l m).length = l.length := by simp [xorL, h']
    show evalB x ((a ^^^ b) :: xorL l m) = _
    rw [evalB_cons, evalB_cons, evalB_cons, evalB_xorL x l m h', hl, xor_mulB, h']
    ac_rfl

/-! ### four bytes -/
def ql (q : Quad) : List UInt8 := [q.1, q.2.1, q.2.2.1, q.2.2.2]
def evalQ (x : UInt8) (q : Quad) : UInt8 := evalB x (ql q)
theorem evalQ_eq (x : UInt8) (q : Quad) : evalQ x q = mulB (mulB (mulB q.1 x ^^^ q.2.1) x ^^^ q.2.2.1) x ^^^ q.2.2.2 := by
  simp [evalQ, ql, evalB, evalA, zero_mulB]
theorem evalQ_xor (x : UInt8) (p q : Quad) : evalQ x (qxor p q) = evalQ x p ^^^ evalQ x q := evalB_xorL x (ql p) (ql q) rfl

/-- the generator is nought there -/
def Root (x : UInt8) : Prop := evalQ x (0x0f, 0x36, 0x78, 0x40) = pw x 4
theorem roots : Root 1 ∧ Root 2 ∧ Root 4 ∧ Root 8 := by unfold Root; decide +kernel
theorem evalQ_gen {x : UInt8} (hx : Root x) (f : UInt8) : evalQ x (genq f) = mulB f (pw x 4) := by
  have h : evalQ x (genq f) = mulB (evalQ x (0x0f, 0x36, 0x78, 0x40)) f := by
    simp only [evalQ_eq, genq, xor_mulB, mulB_assoc, mulB_comm f]
  rw [h, hx, mulB_comm]
theorem evalQ_shift (x : UInt8) (q : Quad) : evalQ x (q.2.1, q.2.2.1, q.2.2.2, 0) = mulB (evalQ x q) x ^^^ mulB q.1 (pw x 4) := by
  have h : ql q = [q.1] ++ [q.2.1, q.2.2.1, q.2.2.2] := rfl
  have h2 : ql (q.2.1, q.2.2.1, q.2.2.2, 0) = [q.2.1, q.2.2.1, q.2.2.2] ++ [0] := rfl
  unfold evalQ
  rw [h, h2, evalB_append x [q.1], evalB_snoc, UInt8.xor_zero, xor_mulB, mulB_assoc]
  rw [show evalB x [q.1] = q.1 by simp [evalB, evalA, zero_mulB]]
  rw [show mulB (pw x [q.2.1, q.2.2.1, q.2.2.2].length) x = pw x 4 from rfl]
  rw [UInt8.xor_comm (mulB q.1 (pw x 4)), UInt8.xor_assoc, UInt8.xor_self, UInt8.xor_zero]
theorem evalQ_cstep {x : UInt8} (hx : Root x) (q : Quad) (c : UInt8) : evalQ x (cstep q c) = mulB (evalQ x q) x ^^^ mulB c (pw x 4) := by
  rw [cstep, evalQ_xor, evalQ_shift, evalQ_gen hx, xor_mulB, UInt8.xor_comm (mulB c _), UInt8.xor_assoc, ← UInt8.xor_assoc (mulB q.1 _), UInt8.xor_self, UInt8.zero_xor]
/-- the check bytes are, at each place, what the bytes times x^4 are -/
theorem evalQ_foldl {x : UInt8} (hx : Root x) (l : List UInt8) : ∀ q, evalQ x (l.foldl cstep q) = mulB (evalQ x q) (pw x l.length) ^^^ mulB (evalB x l) (pw x 4) := by
  induction l with
  | nil => intro q; simp [pw, mulB_one, evalB, evalA, zero_mulB]
  | cons c l ih =>
    intro q
    rw [List.foldl_cons, ih, evalQ_cstep hx, evalB_cons, List.length_cons]
    generalize pw x 4 = y
    rw [show pw x (l.length + 1) = mulB (pw x l.length) x from rfl]
    generalize pw x l.length = z
    rw [xor_mulB, xor_mulB, mulB_assoc (evalQ x q), mulB_comm x, mulB_assoc c, mulB_assoc c, mulB_comm y, UInt8.xor_assoc]
theorem evalQ_chk {x : UInt8} (hx : Root x) (l : List UInt8) : evalQ x (chk l) = mulB (evalB x l) (pw x 4) := by
  rw [chk, evalQ_foldl hx]
  have : evalQ x (0, 0, 0, 0) = 0 := by simp [evalQ_eq, zero_mulB]
  rw [this, zero_mulB, UInt8.zero_xor]

/-! ### from the four values back to the four bytes: divided differences -/
/-- times (x - 4), then (x - 2), then (x - 1) -/
def newton2 (d0 d1 d2 d3 : UInt8) : Quad :=
  let o : Quad := (0, 0, 0, d3)
  let o : Quad := (mulB o.1 4 ^^^ o.2.1, mulB o.2.1 4 ^^^ o.2.2.1, mulB o.2.2.1 4 ^^^ o.2.2.2, mulB o.2.2.2 4 ^^^ d2)
  let o : Quad := (mulB o.1 2 ^^^ o.2.1, mulB o.2.1 2 ^^^ o.2.2.1, mulB o.2.2.1 2 ^^^ o.2.2.2, mulB o.2.2.2 2 ^^^ d1)
  (mulB o.1 1 ^^^ o.2.1, mulB o.2.1 1 ^^^ o.2.2.1, mulB o.2.2.1 1 ^^^ o.2.2.2, mulB o.2.2.2 1 ^^^ d0)
theorem newton2_eq (a b c d : UInt8) : newton2 a b c d = (d, mulB d 1 ^^^ (mulB d 2 ^^^ (mulB d 4 ^^^ c)), mulB (mulB d 2 ^^^ (mulB d 4 ^^^ c)) 1 ^^^ (mulB (mulB d 4 ^^^ c) 2 ^^^ b), mulB (mulB (mulB d 4 ^^^ c) 2 ^^^ b) 1 ^^^ a) := by
  simp only [newton2, zero_mulB, UInt8.zero_xor]
theorem newton2_xor (a b c d e f g h : UInt8) : newton2 (a ^^^ e) (b ^^^ f) (c ^^^ g) (d ^^^ h) = qxor (newton2 a b c d) (newton2 e f g h) := by
  simp only [newton2_eq, qxor, xor_mulB, Prod.mk.injEq, true_and]
  generalize mulB d 1 = x1; generalize mulB d 2 = x2; generalize mulB d 4 = x4
  generalize mulB h 1 = y1; generalize mulB h 2 = y2; generalize mulB h 4 = y4
  generalize mulB x4 2 = x42; generalize mulB y4 2 = y42
  generalize mulB c 2 = c2; generalize mulB g 2 = g2
  generalize mulB x2 1 = x21; generalize mulB y2 1 = y21; generalize mulB x4 1 = x41; generalize mulB y4 1 = y41
  generalize mulB c 1 = c1; generalize mulB g 1 = g1
  generalize mulB x42 1 = x421; generalize mulB y42 1 = y421; generalize mulB c2 1 = c21; generalize mulB g2 1 = g21
  generalize mulB b 1 = b1; generalize mulB f 1 = f1
  refine ⟨?_, ?_, ?_⟩ <;> ac_rfl
def newton (e0 e1 e2 e3 : UInt8) : Quad :=
  let a3 := mulB (e3 ^^^ e2) (invB (8 ^^^ 4))
  let a2 := mulB (e2 ^^^ e1) (invB (4 ^^^ 2))
  let a1 := mulB (e1 ^^^ e0) (invB (2 ^^^ 1))
  let b3 := mulB (a3 ^^^ a2) (invB (8 ^^^ 2))
  let b2 := mulB (a2 ^^^ a1) (invB (4 ^^^ 1))
  let c3 := mulB (b3 ^^^ b2) (invB (8 ^^^ 1))
  newton2 e0 a1 b2 c3
theorem nl1 (a b e f c : UInt8) : mulB ((a ^^^ e) ^^^ (b ^^^ f)) c = mulB (a ^^^ b) c ^^^ mulB (e ^^^ f) c := by rw [xor_ac, xor_mulB]
theorem newton_xor (a b c d e f g h : UInt8) : newton (a ^^^ e) (b ^^^ f) (c ^^^ g) (d ^^^ h) = qxor (newton a b c d) (newton e f g h) := by
  simp only [newton]
  rw [← newton2_xor]
  simp only [nl1]
def evals (q : Quad) : Quad := newton (evalQ 1 q) (evalQ 2 q) (evalQ 4 q) (evalQ 8 q)
theorem evals_xor (p q : Quad) : evals (qxor p q) = qxor (evals p) (evals q) := by
  unfold evals
  rw [evalQ_xor, evalQ_xor, evalQ_xor, evalQ_xor, newton_xor]
set_option maxRecDepth 100000 in
theorem evals_1 : ∀ a, evals (a, 0, 0, 0) = (a, 0, 0, 0) := forall_byte (by decide +kernel)
set_option maxRecDepth 100000 in
theorem evals_2 : ∀ a, evals (0, a, 0, 0) = (0, a, 0, 0) := forall_byte (by decide +kernel)
set_option maxRecDepth 100000 in
theorem evals_3 : ∀ a, evals (0, 0, a, 0) = (0, 0, a, 0) := forall_byte (by decide +kernel)
set_option maxRecDepth 100000 in
theorem evals_4 : ∀ a, evals (0, 0, 0, a) = (0, 0, 0, a) := forall_byte (by decide +kernel)
theorem evals_eq (q : Quad) : evals q = q := by
  obtain ⟨a, b, c, d⟩ := q
  have h : ((a, b, c, d) : Quad) = qxor (qxor (a, 0, 0, 0) (0, b, 0, 0)) (qxor (0, 0, c, 0) (0, 0, 0, d)) := by simp [qxor]
  rw [h, evals_xor, evals_xor, evals_xor, evals_1, evals_2, evals_3, evals_4]
/-- the check bytes, found by solving for them -/
theorem newton_chk (l : List UInt8) : newton (evalB 1 (l ++ [0, 0, 0, 0])) (evalB 2 (l ++ [0, 0, 0, 0])) (evalB 4 (l ++ [0, 0, 0, 0])) (evalB 8 (l ++ [0, 0, 0, 0])) = chk l := by
  have h : ∀ x, Root x → evalB x (l ++ [0, 0, 0, 0]) = evalQ x (chk l) := fun x hx => by
    rw [evalB_append, evalQ_chk hx]
    have : evalB x [0, 0, 0, 0] = 0 := by simp [evalB, evalA, zero_mulB]
    rw [this, UInt8.xor_zero]; rfl
  obtain ⟨r1, r2, r4, r8⟩ := roots
  rw [h 1 r1, h 2 r2, h 4 r4, h 8 r8]
  exact evals_eq (chk l)

/-! ### good cells -/
/-- nought at the four places -/
def Nought (l : List UInt8) : Prop := evalB 1 l = 0 ∧ evalB 2 l = 0 ∧ evalB 4 l = 0 ∧ evalB 8 l = 0
theorem nought_iff (d : List UInt8) (t : Quad) : Nought (d ++ ql t) ↔ chk d = t := by
  have h : ∀ x, Root x → evalB x (d ++ ql t) = evalQ x (qxor (chk d) t) := fun x hx => by
    rw [evalB_append, evalQ_xor, evalQ_chk hx]; rfl
  obtain ⟨r1, r2, r4, r8⟩ := roots
  unfold Nought
  rw [h 1 r1, h 2 r2, h 4 r4, h 8 r8]
  constructor
  · rintro ⟨h1, h2, h4, h8⟩
    have := evals_eq (qxor (chk d) t)
    rw [evals, h1, h2, h4, h8, show newton 0 0 0 0 = (0, 0, 0, 0) by decide +kernel] at this
    generalize chk d = s at this
    obtain ⟨a, b, c, e⟩ := s
    obtain ⟨a', b', c', e'⟩ := t
    simp only [qxor, Prod.mk.injEq] at this
    obtain ⟨i1, i2, i3, i4⟩ := this
    rw [xor_eq_zero.1 i1.symm, xor_eq_zero.1 i2.symm, xor_eq_zero.1 i3.symm, xor_eq_zero.1 i4.symm]
  · rintro rfl
    have : qxor (chk d) (chk d) = (0, 0, 0, 0) := by simp [qxor]
    rw [this]
    simp [evalQ_eq, zero_mulB]

/-! ### few changes are told -/
theorem pw_mul (x y : UInt8) (k : Nat) : pw (mulB x y) k = mulB (pw x k) (pw y k) := by
  induction k with
  | zero => simp [pw, mulB_one]
  | succ k ih => simp only [pw, ih]; rw [mulB_assoc, mulB_assoc, ← mulB_assoc (pw y k), mulB_comm (pw y k), mulB_assoc x]
theorem pw_one (k : Nat) : pw 1 k = 1 := by
  induction k with
  | zero => rfl
  | succ k ih => rw [pw, ih, mulB_one]
theorem pw_pw (x : UInt8) (j k : Nat) : pw (pw x j) k = pw (pw x k) j := by
  induction j with
  | zero => rw [show pw x 0 = 1 from rfl, pw_one]; rfl
  | succ j ih => rw [show pw x (j + 1) = mulB (pw x j) x from rfl, pw_mul, ih]; rfl
theorem pw_add (x : UInt8) (i j : Nat) : pw x (i + j) = mulB (pw x i) (pw x j) := by
  induction j with
  | zero => simp [pw, mulB_one]
  | succ j ih => rw [show i + (j + 1) = (i + j) + 1 from rfl, pw, ih, pw, mulB_assoc]

def vsum (t : List (UInt8 × UInt8)) (j : Nat) : UInt8 := t.foldr (fun p v => mulB p.1 (pw p.2 j) ^^^ v) 0
theorem vsum_cons (p : UInt8 × UInt8) (t : List (UInt8 × UInt8)) (j : Nat) : vsum (p :: t) j = mulB p.1 (pw p.2 j) ^^^ vsum t j := rfl
theorem vsum_map (x0 : UInt8) (j : Nat) : ∀ t : List (UInt8 × UInt8), vsum (t.map fun p => (mulB p.1 (p.2 ^^^ x0), p.2)) j = vsum t (j + 1) ^^^ mulB x0 (vsum t j)
  | [] => by simp [vsum, mulB_zero]
  | p :: t => by
    rw [List.map_cons, vsum_cons, vsum_cons, vsum_cons, vsum_map x0 j t, mulB_xor]
    simp only [pw]
    rw [mulB_xor, xor_mulB, mulB_assoc p.1 p.2, mulB_comm p.2 (pw p.2 j), mulB_assoc p.1 x0, ← mulB_assoc x0 p.1, mulB_comm x0 p.1, mulB_assoc p.1 x0]
    ac_rfl
theorem vander : ∀ (n : Nat) (t : List (UInt8 × UInt8)), t.length = n → (t.map (·.2)).Nodup → (∀ j, j < n → vsum t j = 0) → ∀ p ∈ t, p.1 = 0
  | 0, t, h, _, _ => by rw [List.eq_nil_of_length_eq_zero h]; intro p hp; cases hp
  | n + 1, [], h, _, _ => by simp at h
  | n + 1, (b0, x0) :: t, h, hd, hz => by
    have hl : t.length = n := by simpa using h
    rw [List.map_cons, List.nodup_cons] at hd
    have ih := vander n (t.map fun p => (mulB p.1 (p.2 ^^^ x0), p.2)) (by simpa using hl) (by simpa [Function.comp_def] using hd.2) fun j hj => by
      rw [vsum_map]
      have h1 := hz (j + 1) (by omega)
      have h0 := hz j (by omega)
      rw [vsum_cons] at h1 h0
      have e1 : vsum t (j + 1) = mulB b0 (pw x0 (j + 1)) := (xor_eq_zero.1 h1).symm
      have e0 : vsum t j = mulB b0 (pw x0 j) := (xor_eq_zero.1 h0).symm
      rw [e1, e0, pw, mulB_comm x0, mulB_assoc, UInt8.xor_self]
    have ht : ∀ p ∈ t, p.1 = 0 := fun p hp => by
      have := ih _ (List.mem_map.2 ⟨p, hp, rfl⟩)
      rcases mulB_eq_zero.1 this with h | h
      · exact h
      · exact absurd (xor_eq_zero.1 h) fun e => hd.1 (List.mem_map.2 ⟨p, hp, e⟩)
    intro p hp
    rcases List.mem_cons.1 hp with rfl | hp
    · have h0 := hz 0 (by omega)
      rw [vsum_cons] at h0
      have hz : ∀ t : List (UInt8 × UInt8), (∀ p ∈ t, p.1 = 0) → vsum t 0 = 0 := by
        intro t
        induction t with
        | nil => intro _; rfl
        | cons p t ih => intro h; rw [vsum_cons, h p (by simp), zero_mulB, ih fun q hq => h q (by simp [hq])]; rfl
      rw [hz t ht] at h0
      simpa [pw, mulB_one] using h0
    · exact ht p hp

/-- the bytes that are not nought, each with its power of 2 -/
def terms : List UInt8 → List (UInt8 × UInt8)
  | [] => []
  | b :: l => if b = 0 then terms l else (b, pw 2 l.length) :: terms l
theorem evalB_terms (j : Nat) : ∀ l : List UInt8, evalB (pw 2 j) l = vsum (terms l) j
  | [] => by simp [evalB, evalA, terms, vsum]
  | b :: l => by
    rw [evalB_cons, terms, evalB_terms j l]
    split
    · rename_i h; rw [h, zero_mulB, UInt8.zero_xor]
    · rw [vsum_cons, pw_pw]
def wt (l : List UInt8) : Nat := (terms l).length
set_option maxRecDepth 100000 in
theorem pw2_ne_one : ∀ m : Fin 255, m.val ≠ 0 → pw 2 m.val ≠ 1 := by decide +kernel
theorem pw2_ne_zero (k : Nat) : pw 2 k ≠ 0 := by
  induction k with
  | zero => decide
  | succ k ih => rw [pw]; intro h; rcases mulB_eq_zero.1 h with h | h
                 · exact ih h
                 · exact absurd h (by decide)
theorem pw2_inj {i j : Nat} (h : i < j) (hj : j < 255) : pw 2 i ≠ pw 2 j := by
  intro e
  obtain ⟨m, rfl⟩ : ∃ m, j = i + m := ⟨j - i, by omega⟩
  rw [pw_add] at e
  have h1 : mulB (pw 2 i) 1 = mulB (pw 2 i) (pw 2 m) := by rw [mulB_one]; exact e
  exact pw2_ne_one ⟨m, by omega⟩ (by simp; omega) (mulB_cancel (pw2_ne_zero i) h1).symm
theorem terms_places : ∀ l : List UInt8, ∀ x ∈ (terms l).map (·.2), ∃ k, k < l.length ∧ x = pw 2 k
  | [], x, h => by simp [terms] at h
  | b :: l, x, h => by
    rw [terms] at h
    have ih := terms_places l x
    split at h
    · obtain ⟨k, hk, e⟩ := ih h; exact ⟨k, by simp; omega, e⟩
    · rw [List.map_cons, List.mem_cons] at h
      rcases h with rfl | h
      · exact ⟨l.length, by simp, rfl⟩
      · obtain ⟨k, hk, e⟩ := ih h; exact ⟨k, by simp; omega, e⟩
theorem terms_nodup : ∀ l : List UInt8, l.length ≤ 255 → ((terms l).map (·.2)).Nodup
  | [], _ => by simp [terms]
  | b :: l, h => by
    have h' : l.length ≤ 254 := by simpa using h
    rw [terms]
    split
    · exact terms_nodup l (by omega)
    · rw [List.map_cons, List.nodup_cons]
      refine ⟨fun hm => ?_, terms_nodup l (by omega)⟩
      obtain ⟨k, hk, e⟩ := terms_places l _ hm
      exact pw2_inj hk (by omega) e.symm
theorem terms_ne : ∀ l : List UInt8, ∀ p ∈ terms l, p.1 ≠ 0
  | [], p, h => by simp [terms] at h
  | b :: l, p, h => by
    rw [terms] at h
    split at h
    · exact terms_ne l p h
    · rename_i hb
      rcases List.mem_cons.1 h with rfl | h
      · exact hb
      · exact terms_ne l p h
/-- a sum of at most four bytes that are not nought is not nought at all four places -/
theorem nought_few (l : List UInt8) (hl : l.length ≤ 255) (hw : wt l ≤ 4) (hn : Nought l) : wt l = 0 := by
  obtain ⟨h1, h2, h4, h8⟩ := hn
  have hz : ∀ j, j < 4 → vsum (terms l) j = 0 := by
    intro j hj
    rw [← evalB_terms]
    match j, hj with
    | 0, _ => exact h1
    | 1, _ => rw [show pw 2 1 = 2 by decide +kernel]; exact h2
    | 2, _ => rw [show pw 2 2 = 4 by decide +kernel]; exact h4
    | 3, _ => rw [show pw 2 3 = 8 by decide +kernel]; exact h8
  have hv := vander _ (terms l) rfl (terms_nodup l hl) fun j hj => hz j (by unfold wt at hw; omega)
  unfold wt
  cases ht : terms l with
  | nil => rfl
  | cons p t => exact absurd (hv p (by rw [ht]; simp)) (terms_ne l p (by rw [ht]; simp))
theorem wt_zero : ∀ l : List UInt8, wt l = 0 → l = List.replicate l.length 0
  | [], _ => rfl
  | b :: l, h => by
    unfold wt at h
    rw [terms] at h
    split at h
    · rename_i hb
      rw [hb, List.length_cons, List.replicate_succ, ← wt_zero l h]
    · simp at h
theorem wt_set : ∀ (l : List UInt8) (i : Nat) (b : UInt8), wt (l.set i b) ≤ wt l + 1
  | [], _, _ => by simp [wt, terms]
  | a :: l, 0, b => by
    simp only [List.set_cons_zero, wt, terms]
    split <;> split <;> simp <;> omega
  | a :: l, i + 1, b => by
    have := wt_set l i b
    simp only [List.set_cons_succ, wt, terms] at this ⊢
    rw [List.length_set]
    split <;> simp <;> omega
theorem xorL_set : ∀ (l m : List UInt8) (i : Nat) (b : UInt8) (h : i < m.length), xorL (l.set i b) m = (xorL l m).set i (b ^^^ m[i])
  | [], m, i, b, h => by simp [xorL]
  | a :: l, c :: m, 0, b, h => by simp [xorL]
  | a :: l, c :: m, i + 1, b, h => by
    have := xorL_set l m i b (by simpa using h)
    simp only [xorL, List.set_cons_succ, List.zipWith_cons_cons, List.getElem_cons_succ] at this ⊢
    rw [this]
theorem xorL_zero : ∀ l m : List UInt8, l.length = m.length → xorL l m = List.replicate l.length 0 → l = m
  | [], [], _, _ => rfl
  | a :: l, b :: m, h, e => by
    simp only [xorL, List.zipWith_cons_cons, List.length_cons, List.replicate_succ, List.cons.injEq] at e
    rw [xor_eq_zero.1 e.1, xorL_zero l m (by simpa using h) e.2]
theorem xorL_self : ∀ l : List UInt8, wt (xorL l l) = 0
  | [] => rfl
  | a :: l => by
    have := xorL_self l
    simp only [xorL, List.zipWith_cons_cons, UInt8.xor_self, wt, terms, if_true] at this ⊢
    exact this

/-- does it end with its check bytes -/
def goodB (l : List UInt8) : Bool := decide (4 ≤ l.length) && decide (ql (chk (l.take (l.length - 4))) = l.drop (l.length - 4))
theorem goodB_iff (l : List UInt8) : goodB l = true ↔ 4 ≤ l.length ∧ Nought l := by
  unfold goodB
  rw [Bool.and_eq_true, decide_eq_true_iff, decide_eq_true_iff]
  refine and_congr_right fun h4 => ?_
  obtain ⟨t, ht⟩ : ∃ t : Quad, l.drop (l.length - 4) = ql t := by
    have hl : (l.drop (l.length - 4)).length = 4 := by simp; omega
    match h : l.drop (l.length - 4), hl with
    | [a, b, c, d], _ => exact ⟨(a, b, c, d), rfl⟩
  have e : l = l.take (l.length - 4) ++ ql t := by rw [← ht, List.take_append_drop]
  rw [ht]
  constructor
  · intro h
    rw [e]
    refine (nought_iff _ _).2 ?_
    simp only [ql, List.cons.injEq, and_true] at h
    obtain ⟨h1, h2, h3, h4⟩ := h
    exact Prod.ext h1 (Prod.ext h2 (Prod.ext h3 h4))
  · intro h
    rw [e] at h
    rw [(nought_iff _ _).1 h]
theorem goodB_cell (b : List UInt8) : goodB (b ++ ql (chk b)) = true := by
  rw [goodB_iff]
  exact ⟨by simp [ql], (nought_iff _ _).2 rfl⟩
/-- up to four changes are told -/
theorem tells {b cur : List UInt8} (hb : b.length ≤ 251) (hl : cur.length = (b ++ ql (chk b)).length) (hw : wt (xorL cur (b ++ ql (chk b))) ≤ 4) :
    goodB cur = decide (cur = b ++ ql (chk b)) := by
  have hg := goodB_cell b
  have h255 : (b ++ ql (chk b)).length ≤ 255 := by simp [ql]; omega
  generalize b ++ ql (chk b) = whole at hl hw hg h255
  rw [Bool.eq_iff_iff, decide_eq_true_iff]
  constructor
  · intro hc
    obtain ⟨_, n1, n2, n4, n8⟩ := (goodB_iff cur).1 hc
    obtain ⟨_, m1, m2, m4, m8⟩ := (goodB_iff whole).1 hg
    have hx : (xorL cur whole).length = cur.length := by simp [xorL, hl]
    have hn : Nought (xorL cur whole) := by
      unfold Nought
      rw [evalB_xorL _ _ _ hl, evalB_xorL _ _ _ hl, evalB_xorL _ _ _ hl, evalB_xorL _ _ _ hl, n1, n2, n4, n8, m1, m2, m4, m8]
      simp
    have h0 := wt_zero _ (nought_few _ (by omega) hw hn)
    rw [hx] at h0
    exact xorL_zero _ _ hl h0
  · rintro rfl; exact hg
end Go.Proofs.Ytjagiahfndcbhaa
