/- Records as the document has them: their bytes. Plain mathematics, no walk. -/
import Derived.Test.YtpbgjldjipgfeaaPkJoin
namespace Go.Proofs.Ytpbgjldjipgfeaa

/-- a write, or a range: two lists and a flag -/
structure WrS where
  a : List UInt8
  b : List UInt8
  f : Bool
/-- a record -/
structure RcS where
  kind : Int
  boot : Nat
  sess : Nat
  seq : Nat
  ws : List WrS
  rs : List WrS
  commit : Bool
  shards : List Int
  reply : List UInt8
  id : Nat
  name : ByteArray
instance : Inhabited WrS := ⟨⟨[], [], false⟩⟩
def u64z (s : Int) : Nat := (s % 18446744073709551616).toNat
def flB (b : Bool) : List UInt8 := if b then [1] else [0]
def triL (l : List WrS) : List (List UInt8) := l.flatMap fun w => [flB w.f, w.a, w.b]
def triB (l : List WrS) : List UInt8 := joinB (triL l)
def txB (x : RcS) : List UInt8 := numB x.boot ++ (numB x.sess ++ numB x.seq)
def shB (l : List Int) : List UInt8 := l.flatMap fun s => numB (u64z s)
def nmB (s : ByteArray) : List UInt8 := s.data.toList
def kiB (k : Int) : UInt8 := UInt8.ofNat (k % 256).toNat
def zeroR : RcS := ⟨0, 0, 0, 0, [], [], false, [], [], 0, ⟨#[]⟩⟩
/-- the parts behind the kind's own -/
def fldR (x : RcS) : List (List UInt8) :=
  if x.kind = 1 then [txB x, triB x.ws, triB x.rs]
  else if x.kind = 2 ∨ x.kind = 3 ∨ x.kind = 9 then [txB x]
  else if x.kind = 4 then [txB x, triB x.ws, x.reply]
  else if x.kind = 5 ∨ x.kind = 7 ∨ x.kind = 8 then [numB x.id, nmB x.name]
  else if x.kind = 6 then [txB x, flB x.commit, shB x.shards, x.reply]
  else []
def recY (x : RcS) : List UInt8 := joinB ([kiB x.kind] :: fldR x)
/-- a record with what its kind uses -/
def trimR (x : RcS) : RcS :=
  if x.kind = 1 then { zeroR with kind := x.kind, boot := x.boot, sess := x.sess, seq := x.seq, ws := x.ws, rs := x.rs }
  else if x.kind = 2 ∨ x.kind = 3 ∨ x.kind = 9 then { zeroR with kind := x.kind, boot := x.boot, sess := x.sess, seq := x.seq }
  else if x.kind = 4 then { zeroR with kind := x.kind, boot := x.boot, sess := x.sess, seq := x.seq, ws := x.ws, reply := x.reply }
  else if x.kind = 5 ∨ x.kind = 7 ∨ x.kind = 8 then { zeroR with kind := x.kind, id := x.id, name := x.name }
  else if x.kind = 6 then { zeroR with kind := x.kind, boot := x.boot, sess := x.sess, seq := x.seq, commit := x.commit, shards := x.shards, reply := x.reply }
  else { zeroR with kind := x.kind }
def triW (l : List WrS) : Nat := (l.map fun w => w.a.length + w.b.length + 1).sum
theorem triL_snoc (l : List WrS) (w : WrS) : triL (l ++ [w]) = triL l ++ [flB w.f, w.a, w.b] := by simp [triL]
theorem triL_len (l : List WrS) : (triL l).length = 3 * l.length := by
  induction l with
  | nil => rfl
  | cons w l ih => simp only [triL, List.flatMap_cons, List.length_append, List.length_cons, List.length_nil] at ih ⊢; omega
theorem flB_len (b : Bool) : (flB b).length = 1 := by cases b <;> rfl
theorem flatB_append (l m : List (List UInt8)) : flatB (l ++ m) = flatB l ++ flatB m := by simp [flatB]
theorem partB_len (l : List UInt8) : (partB l).length ≤ l.length + 9 := by
  have := numB_length l.length
  rw [partB, List.length_append]; omega
theorem triB_len (l : List WrS) : (triB l).length ≤ 9 + 38 * triW l := by
  have h : (flatB (triL l)).length ≤ 38 * triW l := by
    induction l with
    | nil => simp [triL, flatB]
    | cons w l ih =>
      have e : triL (w :: l) = [flB w.f, w.a, w.b] ++ triL l := rfl
      have h1 := partB_len (flB w.f)
      have h2 := partB_len w.a
      have h3 := partB_len w.b
      have h4 := flB_len w.f
      have h5 : flatB [flB w.f, w.a, w.b] = partB (flB w.f) ++ (partB w.a ++ (partB w.b ++ [])) := rfl
      rw [e, flatB_append, List.length_append, h5]
      simp only [List.length_append, List.length_nil, triW, List.map_cons, List.sum_cons] at ih ⊢
      omega
  have h0 := numB_length (triL l).length
  rw [triB, joinB, List.length_append]
  omega
theorem shB_len (l : List Int) : (shB l).length ≤ 9 * l.length := by
  induction l with
  | nil => simp [shB]
  | cons s l ih =>
    have h := numB_length (u64z s)
    simp only [shB, List.flatMap_cons, List.length_append, List.length_cons] at ih ⊢
    omega
theorem txB_len (x : RcS) : (txB x).length ≤ 27 := by
  have h1 := numB_length x.boot
  have h2 := numB_length x.sess
  have h3 := numB_length x.seq
  rw [txB, List.length_append, List.length_append]; omega
theorem u64z_lt (s : Int) : u64z s < 18446744073709551616 := by unfold u64z; omega
end Go.Proofs.Ytpbgjldjipgfeaa
