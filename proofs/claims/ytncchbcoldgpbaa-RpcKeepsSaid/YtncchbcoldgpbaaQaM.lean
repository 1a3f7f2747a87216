/- Records as the document has them: their bytes. Plain mathematics, no walk. -/
import Derived.Test.YtncchbcoldgpbaaBaM
import Derived.Test.YtncchbcoldgpbaaWjM
import Derived.Test.YtncchbcoldgpbaaOpM
import Derived.Test.YtncchbcoldgpbaaRefB
import Derived.Deep.RegionHeld3
import Derived.Test.YtncchbcoldgpbaaBB
import Derived.Test.YtncchbcoldgpbaaRefJ
import Derived.Test.YtncchbcoldgpbaaWtM
import Derived.Test.YtncchbcoldgpbaaWiM
import Derived.Deep.Cut
import Derived.LoopN
import Derived.Lib.OthersKept
namespace Go.Proofs.Ytncchbcoldgpbaa

/-- a write, or a range: two lists and a flag -/
structure WrS where
  a : List UInt8
  b : List UInt8
  f : Bool
/-- a record -/
structure RcS where
  kind : Int
  boot : Nat
  sess : Nat
  seq : Nat
  ws : List WrS
  rs : List WrS
  commit : Bool
  shards : List Int
  reply : List UInt8
  id : Nat
  name : ByteArray
instance : Inhabited WrS := ⟨⟨[], [], false⟩⟩
def u64z (s : Int) : Nat := (s % 18446744073709551616).toNat
def flB (b : Bool) : List UInt8 := if b then [1] else [0]
def triL (l : List WrS) : List (List UInt8) := l.flatMap fun w => [flB w.f, w.a, w.b]
def triB (l : List WrS) : List UInt8 := joinB (triL l)
def txB (x : RcS) : List UInt8 := numB x.boot ++ (numB x.sess ++ numB x.seq)
def shB (l : List Int) : List UInt8 := l.flatMap fun s => numB (u64z s)
def nmB (s : ByteArray) : List UInt8 := s.data.toList
def kiB (k : Int) : UInt8 := UInt8.ofNat (k % 256).toNat
def zeroR : RcS := ⟨0, 0, 0, 0, [], [], false, [], [], 0, ⟨#[]⟩⟩
/-- the parts behind the kind's own -/
def fldR (x : RcS) : List (List UInt8) :=
  if x.kind = 1 then [txB x, triB x.ws, triB x.rs]
  else if x.kind = 2 ∨ x.kind = 3 ∨ x.kind = 9 then [txB x]
  else if x.kind = 4 then [txB x, triB x.ws, x.reply]
  else if x.kind = 5 ∨ x.kind = 7 ∨ x.kind = 8 then [numB x.id, nmB x.name]
  else if x.kind = 6 then [txB x, flB x.commit, shB x.shards, x.reply]
  else []
def recY (x : RcS) : List UInt8 := joinB ([kiB x.kind] :: fldR x)
/-- a record with what its kind uses -/
def trimR (x : RcS) : RcS :=
  if x.kind = 1 then { zeroR with kind := x.kind, boot := x.boot, sess := x.sess, seq := x.seq, ws := x.ws, rs := x.rs }
  else if x.kind = 2 ∨ x.kind = 3 ∨ x.kind = 9 then { zeroR with kind := x.kind, boot := x.boot, sess := x.sess, seq := x.seq }
  else if x.kind = 4 then { zeroR with kind := x.kind, boot := x.boot, sess := x.sess, seq := x.seq, ws := x.ws, reply := x.reply }
  else if x.kind = 5 ∨ x.kind = 7 ∨ x.kind = 8 then { zeroR with kind := x.kind, id := x.id, name := x.name }
  else if x.kind = 6 then { zeroR with kind := x.kind, boot := x.boot, sess := x.sess, seq := x.seq, commit := x.commit, shards := x.shards, reply := x.reply }
  else { zeroR with kind := x.kind }
def triW (l : List WrS) : Nat := (l.map fun w => w.a.length + w.b.length + 1).sum
theorem triL_snoc (l : List WrS) (w : WrS) : triL (l ++ [w]) = triL l ++ [flB w.f, w.a, w.b] := by simp [triL]
theorem triL_len (l : List WrS) : (triL l).length = 3 * l.length := by
  induction l with
  | nil => rfl
  | cons w l ih => simp only [triL, List.flatMap_cons, List.length_append, List.length_cons, List.length_nil] at ih ⊢; omega
theorem flB_len (b : Bool) : (flB b).length = 1 := by cases b <;> rfl
theorem flatB_append (l m : List (List UInt8)) : flatB (l ++ m) = flatB l ++ flatB m := by simp [flatB]
theorem partB_len (l : List UInt8) : (partB l).length ≤ l.length + 9 := by
  have := numB_length l.length
  rw [partB, List.length_append]; omega
theorem triB_len (l : List WrS) : (triB l).length ≤ 9 + 38 * triW l := by
  have h : (flatB (triL l)).length ≤ 38 * triW l := by
    induction l with
    | nil => simp [triL, flatB]
    | cons w l ih =>
      have e : triL (w :: l) = [flB w.f, w.a, w.b] ++ triL l := rfl
      have h1 := partB_len (flB w.f)
      have h2 := partB_len w.a
      have h3 := partB_len w.b
      have h4 := flB_len w.f
      have h5 : flatB [flB w.f, w.a, w.b] = partB (flB w.f) ++ (partB w.a ++ (partB w.b ++ [])) := rfl
      rw [e, flatB_append, List.length_append, h5]
      simp only [List.length_append, List.length_nil, triW, List.map_cons, List.sum_cons] at ih ⊢
      omega
  have h0 := numB_length (triL l).length
  rw [triB, joinB, List.length_append]
  omega
theorem shB_len (l : List Int) : (shB l).length ≤ 9 * l.length := by
  induction l with
  | nil => simp [shB]
  | cons s l ih =>
    have h := numB_length (u64z s)
    simp only [shB, List.flatMap_cons, List.length_append, List.length_cons] at ih ⊢
    omega
theorem txB_len (x : RcS) : (txB x).length ≤ 27 := by
  have h1 := numB_length x.boot
  have h2 := numB_length x.sess
  have h3 := numB_length x.seq
  rw [txB, List.length_append, List.length_append]; omega
theorem u64z_lt (s : Int) : u64z s < 18446744073709551616 := by unfold u64z; omega
end Go.Proofs.Ytncchbcoldgpbaa

namespace Go.Proofs.Ytncchbcoldgpbaa
open Go.RowKit

/-- the slice value v reads as the writes (or the ranges) l -/
def RdW (w : World) (F : Nat → Prop) (v : Value) (l : List WrS) : Prop :=
  ∃ xs : List (Value × Value), xs.length = l.length ∧ RdV w F 3 v l.length ((xs.zip l).flatMap fun p => [p.1.1, p.1.2, .bool p.2.f]) ∧
    ∀ (i : Nat) (x : Value × Value) (y : WrS), xs[i]? = some x → l[i]? = some y → RdB w F x.1 y.a ∧ RdB w F x.2 y.b
section
variable {w w' : World} {F F' S : Nat → Prop} {v : Value} {l : List WrS}
theorem RdW.mono (h : RdW w F v l) (hF : ∀ k, F k → F' k) : RdW w F' v l := by
  obtain ⟨xs, h1, h2, h3⟩ := h
  exact ⟨xs, h1, h2.mono hF, fun i x y hx hy => ⟨(h3 i x y hx hy).1.mono hF, (h3 i x y hx hy).2.mono hF⟩⟩
theorem RdW.chg (h : RdW w F v l) (hc : Chg S w w') (hF : ∀ k, F k → ¬ S k) : RdW w' F v l := by
  obtain ⟨xs, h1, h2, h3⟩ := h
  exact ⟨xs, h1, h2.chg hc hF, fun i x y hx hy => ⟨(h3 i x y hx hy).1.chg hc hF, (h3 i x y hx hy).2.chg hc hF⟩⟩
theorem RdW.c0 (h : RdW w F v l) (hc : Chg Non w w') : RdW w' F v l := h.chg hc fun _ _ h => h
theorem RdW.nil_ (w : World) (F : Nat → Prop) : RdW w F (.slice none 0 0) [] := ⟨[], rfl, RdV.nil_ w F 3, fun i x y hx _ => by simp at hx⟩
theorem RdW.shape (h : RdW w F v l) : ∃ A c, v = .slice A l.length c ∧ l.length ≤ c ∧ c ≤ maxLen := by
  obtain ⟨xs, h1, h2, h3⟩ := h
  exact h2.shape
theorem RdW.at_ {A : Option Addr} {n c : Nat} (h : RdW w F (.slice A n c) l) {k : Nat} (hk : k < l.length) :
    ∃ ad a b, A = some ad ∧ F ad.block ∧ w.cell? (ad.add (k * 3)) = some a ∧ w.cell? ⟨(ad.add (k * 3)).block, (ad.add (k * 3)).off + 1, none⟩ = some b ∧ w.cell? ⟨(ad.add (k * 3)).block, (ad.add (k * 3)).off + 2, none⟩ = some (.bool l[k].f) ∧ RdB w F a l[k].a ∧ RdB w F b l[k].b := by
  obtain ⟨xs, h1, h2, h3⟩ := h
  obtain ⟨A', c', e, _, _⟩ := RdV.shape h2
  injection e with e1 e2 e3
  subst e1; subst e2; subst e3
  have hkx : k < xs.length := by omega
  have hz : k < (xs.zip l).length := by rw [List.length_zip]; omega
  have hg : (xs.zip l)[k] = (xs[k], l[k]) := by rw [List.getElem_zip]
  have hc := fun i (hi : i < 3) => flat3_get (fun p : (Value × Value) × WrS => p.1.1) (fun p => p.1.2) (fun p => Value.bool p.2.f) (xs.zip l) k i hz hi
  rw [hg] at hc
  obtain ⟨ad, u, hA, hf, hu, hcell⟩ := RdV.at_ h2 hk (i := 0) (by omega)
  obtain ⟨ad1, u1, hA1, _, hu1, hcell1⟩ := RdV.at_ h2 hk (i := 1) (by omega)
  obtain ⟨ad2, u2, hA2, _, hu2, hcell2⟩ := RdV.at_ h2 hk (i := 2) (by omega)
  rw [hA] at hA1 hA2
  injection hA1 with hA1
  injection hA2 with hA2
  subst hA1; subst hA2
  rw [hc 0 (by omega)] at hu
  rw [hc 1 (by omega)] at hu1
  rw [hc 2 (by omega)] at hu2
  simp at hu hu1 hu2
  subst hu; subst hu1; subst hu2
  obtain ⟨r1, r2⟩ := h3 k xs[k] l[k] (List.getElem?_eq_getElem hkx) (List.getElem?_eq_getElem hk)
  refine ⟨ad, _, _, hA, hf, ?_, ?_, ?_, r1, r2⟩
  · simpa using hcell
  · rw [← add_succ ad (k * 3) 1 (by omega)]; exact hcell1
  · rw [← add_succ ad (k * 3) 2 (by omega)]; exact hcell2
end
/-- the cells of a record -/
def recC (x : RcS) (wv rv sv pv : Value) : Array Value :=
  #[.int .i64 x.kind, .int .u64 (x.boot : Int), .int .u64 (x.sess : Int), .int .u64 (x.seq : Int), wv, rv, .bool x.commit, sv, pv, .int .u64 (x.id : Int), .string x.name]
/-- what the slices of a record read as -/
structure RecR (w : World) (F : Nat → Prop) (x : RcS) (wv rv sv pv : Value) : Prop where
  ws : RdW w F wv x.ws
  rs : RdW w F rv x.rs
  sh : RdI w F sv x.shards
  rep : RdB w F pv x.reply
  u1 : U64 x.boot
  u2 : U64 x.sess
  u3 : U64 x.seq
  u4 : U64 x.id
  ki : (Lit.int .i64 x.kind).wf = true
section
variable {w w' : World} {F F' S : Nat → Prop} {x : RcS} {wv rv sv pv : Value}
theorem RecR.chg (h : RecR w F x wv rv sv pv) (hc : Chg S w w') (hF : ∀ k, F k → ¬ S k) : RecR w' F x wv rv sv pv :=
  ⟨h.ws.chg hc hF, h.rs.chg hc hF, h.sh.chg hc hF, h.rep.chg hc hF, h.u1, h.u2, h.u3, h.u4, h.ki⟩
theorem RecR.c0 (h : RecR w F x wv rv sv pv) (hc : Chg Non w w') : RecR w' F x wv rv sv pv := h.chg hc fun _ _ h => h
theorem RecR.mono (h : RecR w F x wv rv sv pv) (hF : ∀ k, F k → F' k) : RecR w F' x wv rv sv pv :=
  ⟨h.ws.mono hF, h.rs.mono hF, RdV.mono h.sh hF, h.rep.mono hF, h.u1, h.u2, h.u3, h.u4, h.ki⟩
end
end Go.Proofs.Ytncchbcoldgpbaa

namespace Go.Proofs.Ytncchbcoldgpbaa
open Go.RowKit

theorem own_flB (w : World) (b : Bool) (n : Int) (h : n = if b then 1 else 0) : OwnB (w.alloc (.cells #[.int .u8 n] 5)) w.heap.size (.slice (some ⟨w.heap.size, 0, none⟩) 1 1) (flB b) := by
  cases b
  · exact own_one w 0 n (by simpa using h)
  · exact own_one w 1 n (by simpa using h)
theorem recTruth {b : Bool} {w : World} :
    Calls Try.prog 88 #[.bool b] w fun e w' => ∃ u, e = .returned u ∧ OwnB w' w.heap.size u (flB b) ∧ Chg Non w w' := by
  cases b
  all_goals
    go_enter Try.func88, Try.ntmps88
    go_wp2_with fail
    go_ret
    exact ⟨_, rfl, own_flB w _ _ (by simp), (Chg.refl _ _).alloc _⟩
/-- the letters of a kind's fields -/
def fldS (k : Int) : ByteArray :=
  if k = 1 then ⟨#[84, 87, 82]⟩ else if k = 2 ∨ k = 3 ∨ k = 9 then ⟨#[84]⟩ else if k = 4 then ⟨#[84, 87, 65]⟩
  else if k = 5 ∨ k = 7 ∨ k = 8 then ⟨#[73, 78]⟩ else if k = 6 then ⟨#[84, 67, 83, 65]⟩ else ⟨#[]⟩
theorem recFields {k : Int} {w : World} :
    Calls Try.prog 71 #[.int .i64 k] w fun e w' => e = .returned (.string (fldS k)) ∧ w' = w := by
  by_cases h1 : k = 1
  · subst h1
    go_enter Try.func71, Try.ntmps71
    go_wp2_with fail
    go_ret
    exact ⟨rfl, rfl⟩
  by_cases h2 : k = 2 ∨ k = 3 ∨ k = 9
  · rcases h2 with rfl | rfl | rfl
    all_goals
      go_enter Try.func71, Try.ntmps71
      go_wp2_with fail
      go_ret
      exact ⟨rfl, rfl⟩
  by_cases h4 : k = 4
  · subst h4
    go_enter Try.func71, Try.ntmps71
    go_wp2_with fail
    go_ret
    exact ⟨rfl, rfl⟩
  by_cases h5 : k = 5 ∨ k = 7 ∨ k = 8
  · rcases h5 with rfl | rfl | rfl
    all_goals
      go_enter Try.func71, Try.ntmps71
      go_wp2_with fail
      go_ret
      exact ⟨rfl, rfl⟩
  by_cases h6 : k = 6
  · subst h6
    go_enter Try.func71, Try.ntmps71
    go_wp2_with fail
    go_ret
    exact ⟨rfl, rfl⟩
  have HF := hide (show fldS k = ⟨#[]⟩ by rw [fldS, if_neg h1, if_neg h2, if_neg h4, if_neg h5, if_neg h6])
  have e1 : (k == 1) = false := beq_eq_false_iff_ne.2 h1
  have e2 : (k == 2) = false := beq_eq_false_iff_ne.2 fun e => h2 (.inl e)
  have e3 : (k == 3) = false := beq_eq_false_iff_ne.2 fun e => h2 (.inr (.inl e))
  have e9 : (k == 9) = false := beq_eq_false_iff_ne.2 fun e => h2 (.inr (.inr e))
  have e4 : (k == 4) = false := beq_eq_false_iff_ne.2 h4
  have e5 : (k == 5) = false := beq_eq_false_iff_ne.2 fun e => h5 (.inl e)
  have e7 : (k == 7) = false := beq_eq_false_iff_ne.2 fun e => h5 (.inr (.inl e))
  have e8 : (k == 8) = false := beq_eq_false_iff_ne.2 fun e => h5 (.inr (.inr e))
  have e6 : (k == 6) = false := beq_eq_false_iff_ne.2 h6
  clear h1 h2 h4 h5 h6
  go_enter Try.func71, Try.ntmps71
  go_wp2_with fail
  go_ret
  rw [HF.out]
  exact ⟨rfl, rfl⟩
def hasT (k : Int) : Bool := decide (1 ≤ k) && decide (k ≤ 4) || k == 6 || k == 9
theorem recNumbers {v : Value} {l : List Nat} {F : Nat → Prop} {w : World} (hr : RdU w F v l) (hl : l.length ≤ 1000000000) :
    Calls Try.prog 87 #[v] w fun e w' => ∃ u, e = .returned u ∧ OwnB w' w.heap.size u (numsB l) ∧ Chg Non w w' := by
  obtain ⟨A, c, rfl, hc, hm⟩ := hr.shape
  unfold maxLen at hm
  go_enter Try.func87, Try.ntmps87
  go_wp2_with fail
  go_loopw [3, 8] (fun ov iv wr => ∃ k : Nat, k ≤ l.length ∧ iv = .int .i64 k ∧ OwnB wr w.heap.size ov (numsB (l.take k)) ∧ Chg Non w wr) (fun _ i _ => l.length - (intOf i).toNat)
  case atStart => exact ⟨0, Nat.zero_le _, rfl, OwnB.nil_ _ _, Chg.refl _ _⟩
  case round =>
    obtain ⟨k, hk, rfl, hown, hchg⟩ := hrel
    by_cases h1 : k < l.length
    · obtain ⟨ad, rfl, _, hu, hca⟩ := (hr.c0 hchg).at_ h1
      have HT := hide (numsB_take l k h1)
      have hnn := numsB_length (l.take k)
      rw [List.length_take, Nat.min_eq_left hk] at hnn
      obtain ⟨n, hn⟩ : ∃ n, n = l[k] := ⟨_, rfl⟩
      rw [← hn] at HT hu hca
      have hn9 := numB_length n
      have hlit := RdU.lit wr 22 (0, 0) #[.int .u64 (n : Int)] [n] 1 rfl rfl (by simp [maxLen]) (by simpa using hu)
      have hcall := packNumber hlit (by simp)
      have hs := hchg.size
      have h1n : numsB [n] = numB n := by simp [numsB]
      rw [h1n] at hcall
      have HC := hide hcall
      have hlen : (numsB (l.take k)).length + (numB n).length ≤ 140737488355328 := by omega
      clear hn hcall h1n hu hlit
      go_wp2_with (first
        | (go_at_call 48; refine HC.out.mono ?_; rintro e w2 ⟨u2, rfl, hu2, hc2⟩; have hc3 := ((Chg.refl Non wr).alloc (.cells #[.int .u64 (n : Int)] 22)).trans0 hc2; have hs3 := hc3.size)
        | (at_builtin; refine append_B rfl _ _ rfl (hown.chg hc3 fun _ _ h => h) rfl hu2.rd rfl hlen (Nat.le_trans hs hs3) ?_; intro v3 w3 hO3 hg3 hat3))
      go_roundw
      case rel =>
        refine ⟨k + 1, by omega, by go_num, ?_, (hchg.trans0 hc3).own hg3 fun q hq => (hown.lt q hq).1⟩
        rw [HT.out]; exact hO3
      case measure => simp [intOf]; omega
    · have HK := hide (show l.take k = l from List.take_of_length_le (by omega))
      rw [HK.out] at hown
      go_wp2_with fail
      go_ret
      exact ⟨_, rfl, hown, hchg⟩
end Go.Proofs.Ytncchbcoldgpbaa

namespace Go.Proofs.Ytncchbcoldgpbaa
open Go.RowKit

theorem OwnB.c0 {w w' : World} {base : Nat} {v : Value} {l : List UInt8} (h : OwnB w base v l) (hc : Chg Non w w') : OwnB w' base v l := h.chg hc fun _ _ h => h
theorem RdB.sl {w : World} {F : Nat → Prop} {v : Value} {l : List UInt8} (h : RdB w F v l) : ∃ A n c, v = .slice A n c := by obtain ⟨A, c, e, _⟩ := h.shape; exact ⟨A, _, c, e⟩
theorem OwnB.sl {w : World} {base : Nat} {v : Value} {l : List UInt8} (h : OwnB w base v l) : ∃ A n c, v = .slice A n c := by obtain ⟨A, c, e, _⟩ := h.shape; exact ⟨A, _, c, e⟩
/-- what is new lies apart from what was there -/
def Dsj (u v : Value) : Prop := ∀ k, u.ownBlock = some k → v.ownBlock ≠ some k
theorem Dsj.symm {u v : Value} (h : Dsj u v) : Dsj v u := fun k hk e => h k e hk
theorem OwnB.dsj {w w' : World} {b : Nat} {u u' : Value} {l l' : List UInt8} (h : OwnB w b u l) (h' : OwnB w' w.heap.size u' l') : Dsj u u' := fun k hk e => by
  have h1 := (h.lt k hk).2
  have h2 := (h'.lt k e).1
  omega
theorem OwnB.app {w w' : World} {b : Nat} {u v : Value} {l : List UInt8} (h : OwnB w b u l) (hg : w.grownBy w' v.ownBlock) (hd : Dsj u v) : OwnB w' b u l :=
  h.chg (Chg.of_grown hg) fun k hk e => hd k hk e.symm
theorem Dsj.app {w : World} {b : Nat} {u v v' : Value} {l : List UInt8} (h : OwnB w b u l) (hd : Dsj u v) (hat : v'.ownBlock = v.ownBlock ∨ v'.ownBlock = some w.heap.size) : Dsj u v' := fun k hk e => by
  rcases hat with h1 | h1
  · exact hd k hk (h1 ▸ e)
  · rw [h1] at e
    injection e with e
    have := (h.lt k hk).2
    omega
theorem Chg.app {a w w' : World} {v : Value} {base : Nat} {l : List UInt8} (h : Chg Non a w) (hg : w.grownBy w' v.ownBlock) (ho : OwnB w base v l) (hb : a.heap.size ≤ base) : Chg Non a w' :=
  h.own hg fun k hk => Nat.le_trans hb (ho.lt k hk).1
theorem sz_chg {a w : World} (h : Chg Non a w) : a.heap.size ≤ w.heap.size := h.size

/-- three cells of a block -/
def At3 (g : Nat) (a b c : Value) (w : World) : Prop := w.cell? ⟨g, 0, none⟩ = some a ∧ w.cell? ⟨g, 1, none⟩ = some b ∧ w.cell? ⟨g, 2, none⟩ = some c
theorem At3.c0 {g : Nat} {a b c : Value} {w w' : World} (h : w.cell? ⟨g, 0, none⟩ = some a ∧ w.cell? ⟨g, 1, none⟩ = some b ∧ w.cell? ⟨g, 2, none⟩ = some c) (hc : Chg Non w w') :
    w'.cell? ⟨g, 0, none⟩ = some a ∧ w'.cell? ⟨g, 1, none⟩ = some b ∧ w'.cell? ⟨g, 2, none⟩ = some c :=
  ⟨hc.cell h.1 fun h => h, hc.cell h.2.1 fun h => h, hc.cell h.2.2 fun h => h⟩
theorem At3.app {g base : Nat} {a b c v : Value} {l : List UInt8} {w w' : World} (h : w.cell? ⟨g, 0, none⟩ = some a ∧ w.cell? ⟨g, 1, none⟩ = some b ∧ w.cell? ⟨g, 2, none⟩ = some c) (hg : w.grownBy w' v.ownBlock) (ho : OwnB w base v l) (hb : g < base) :
    w'.cell? ⟨g, 0, none⟩ = some a ∧ w'.cell? ⟨g, 1, none⟩ = some b ∧ w'.cell? ⟨g, 2, none⟩ = some c :=
  have hn : ¬ (some g = v.ownBlock) := fun e => Nat.lt_irrefl _ (Nat.lt_of_lt_of_le hb (ho.lt g e.symm).1)
  ⟨(Chg.of_grown hg).cell h.1 hn, (Chg.of_grown hg).cell h.2.1 hn, (Chg.of_grown hg).cell h.2.2 hn⟩

end Go.Proofs.Ytncchbcoldgpbaa

namespace Go.Proofs.Ytncchbcoldgpbaa
open Go.RowKit

/-- the call's own list of lists, whose elements lie anywhere but in it -/
def OwnT (w : World) (base : Nat) (v : Value) (ll : List (List UInt8)) : Prop := OwnBB w base (fun _ => True) v ll
/-- values that read as lists, apart from v's own block -/
def RdsB (w : World) (v : Value) (us : List Value) (ls : List (List UInt8)) : Prop :=
  us.length = ls.length ∧ ∀ (k : Nat) (x : Value) (l : List UInt8), us[k]? = some x → ls[k]? = some l → RdB w (fun b => True ∧ b < w.heap.size ∧ v.ownBlock ≠ some b) x l
section
variable {w w' : World} {v x : Value} {us : List Value} {ls ll : List (List UInt8)} {l : List UInt8} {F : Nat → Prop} {base : Nat}
theorem RdsB.nil_ (w : World) (v : Value) : RdsB w v [] [] := ⟨rfl, fun k x l h => by simp at h⟩
theorem RdsB.cons (h : RdB w F x l) (hd : ∀ b, F b → v.ownBlock ≠ some b) (t : RdsB w v us ls) : RdsB w v (x :: us) (l :: ls) := by
  refine ⟨by simp [t.1], fun k y m hy hm => ?_⟩
  cases k with
  | zero =>
    simp at hy hm
    subst hy; subst hm
    exact h.lt.mono fun b hb => ⟨trivial, hb.2, hd b hb.1⟩
  | succ k => exact t.2 k y m (by simpa using hy) (by simpa using hm)
theorem OwnT.c0 (h : OwnT w base v ll) (hc : Chg Non w w') : OwnT w' base v ll := OwnBB.c0 h hc
theorem OwnT.al (h : OwnT w base v ll) (o : Obj) : OwnT (w.alloc o) base v ll := OwnBB.al h o
theorem OwnT.low (h : OwnT w base v ll) {b' : Nat} (hb : b' ≤ base) : OwnT w b' v ll := OwnBB.low h hb
theorem OwnT.lt (h : OwnT w base v ll) : ∀ k, v.ownBlock = some k → base ≤ k ∧ k < w.heap.size := OwnBB.lt h
theorem OwnT.rd (h : OwnT w base v ll) : RdBB w (fun b => b < w.heap.size) v ll := (OwnBB.rd h).mono fun b hb => hb.2
theorem OwnT.nil_ (w : World) (base : Nat) : OwnT w base (.slice none 0 0) [] := OwnBB.nil_ _ _ _
theorem OwnT.shape (h : OwnT w base v ll) : ∃ A c, v = .slice A ll.length c ∧ ll.length ≤ c ∧ c ≤ maxLen := OwnBB.shape h
theorem OwnT.dsj (h : OwnT w base v ll) {u : Value} {l : List UInt8} (h' : OwnB w' w.heap.size u l) : ∀ b, u.ownBlock = some b → v.ownBlock ≠ some b := fun b hb e => by
  have h1 := (h.lt b e).2
  have h2 := (h'.lt b hb).1
  omega
theorem cell_al {p : Addr} {u : Value} {o : Obj} (h : w.cell? p = some u) : (w.alloc o).cell? p = some u := ((Chg.refl Non w).alloc o).cell h fun h => h
theorem Chg.appT {a : World} (h : Chg Non a w) (hg : w.grownBy w' v.ownBlock) (ho : OwnT w base v ll) (hb : a.heap.size ≤ base) : Chg Non a w' :=
  h.own hg fun k hk => Nat.le_trans hb (ho.lt k hk).1
theorem szAl (w : World) (o : Obj) : w.heap.size ≤ (w.alloc o).heap.size := ((Chg.refl Non w).alloc o).size
/-- a literal of lists -/
theorem OwnT.lit {us : List Value} (hu : RdsB w (.slice none 0 0) us ls) (n : Nat) (hn : n = us.length) (hm : n ≤ maxLen) {cs : Array Value} (hcs : cs = us.toArray) :
    OwnT (w.alloc (.cells cs 26)) w.heap.size (.slice (some ⟨w.heap.size, 0, none⟩) n n) ls := by
  subst hn; subst hcs
  refine ⟨us, hu.1, ?_, fun k x l hx hl => ?_⟩
  · have := World.ownsRow_lit (base := w.heap.size) (e := 26) (size := 1) w us.toArray us.length (Nat.le_refl _) hm (by simp)
    rw [← hu.1]
    simpa using this
  · refine ((hu.2 k x l hx hl).al _).mono fun _ hb => ⟨trivial, Nat.lt_of_lt_of_le hb.2.1 (by simp), fun e => ?_⟩
    simp only [Value.ownBlock, Option.some.injEq] at e
    omega
/-- what append makes of several at once -/
theorem OwnT.grow {vs : List Value} (h1 : vs.length = ll.length)
    (h3 : ∀ (k : Nat) (x : Value) (l : List UInt8), vs[k]? = some x → ll[k]? = some l → RdB w (fun b => True ∧ b < w.heap.size ∧ v.ownBlock ≠ some b) x l)
    (hx : RdsB w v us ls) {v' : Value}
    (hown : w'.ownsRow base 26 1 v' (ll.length + us.length) (vs ++ us)) (hg : w.grownBy w' v.ownBlock) (hat : v'.ownBlock = v.ownBlock ∨ v'.ownBlock = some w.heap.size) :
    OwnT w' base v' (ll ++ ls) := by
  have hmv : ∀ (y : Value) (m : List UInt8), RdB w (fun b => True ∧ b < w.heap.size ∧ v.ownBlock ≠ some b) y m → RdB w' (fun b => True ∧ b < w'.heap.size ∧ v'.ownBlock ≠ some b) y m := fun y m h =>
    (h.chg (Chg.of_grown hg) fun b hb e => hb.2.2 e.symm).mono fun b hb => ⟨hb.1, Nat.lt_of_lt_of_le hb.2.1 hg.size, fun e => by
      rcases hat with hat | hat
      · exact hb.2.2 (hat ▸ e)
      · rw [hat] at e; injection e with e; omega⟩
  refine ⟨vs ++ us, by simp [h1, hx.1], by rw [List.length_append, ← hx.1]; exact hown, fun k y m hy hm => ?_⟩
  rw [List.getElem?_append] at hy hm
  rw [h1] at hy
  split at hy
  · rename_i h
    rw [if_pos h] at hm
    exact hmv y m (h3 k y m hy hm)
  · rename_i h
    rw [if_neg h] at hm
    exact hmv y m (hx.2 _ y m hy hm)
end
theorem run_T {w : World} {base : Nat} {v : Value} {ll : List (List UInt8)} (hown : OwnT w base v ll) {us : List Value} {ls : List (List UInt8)} (hu : RdsB w v us ls)
    {g n : Nat} {cs : Array Value} (hg : Blk w g 26 cs) (hcs : cs = us.toArray) (hn : n = us.length) (hb : ll.length + n ≤ 1000000000000) :
    ∃ vs, vs.length = ll.length ∧ w.ownsRow base 26 1 v ll.length vs ∧
      (∀ (k : Nat) (x : Value) (l : List UInt8), vs[k]? = some x → ll[k]? = some l → RdB w (fun b => True ∧ b < w.heap.size ∧ v.ownBlock ≠ some b) x l) ∧
      RdV w (fun _ => True) 1 (.slice (some ⟨g, 0, none⟩) n n) n us ∧ ∀ y ∈ us, y.oneCell' = true := by
  obtain ⟨vs, e1, e2, e3⟩ := hown
  subst hn; subst hcs
  refine ⟨vs, e1, e2, e3, ⟨by simp, _, _, rfl, Nat.le_refl _, by simp only [maxLen]; omega, fun _ => ⟨_, rfl, trivial, fun j y hyj => by rw [add_none, hg.cell]; simpa using hyj⟩⟩, fun y hy => ?_⟩
  obtain ⟨k, hk, rfl⟩ := List.mem_iff_getElem.1 hy
  obtain ⟨A, c, e, _, _⟩ := (hu.2 k _ _ (List.getElem?_eq_getElem hk) (List.getElem?_eq_getElem (hu.1 ▸ hk))).shape
  rw [e]; rfl
/-- append of several lists, that stand in a literal's block -/
theorem append_T {w : World} {ops : Array Oper} {rest : List Oper} {o : Oper} {a : Act} {Q : Exit → Act → World → Prop} (hgd : o.guard = none) (s x : Operand)
    (ho : o.op = .call { callee := .builtin .append, args := #[s, x], argTypes := #[92, 92] })
    {base : Nat} {v : Value} {ll : List (List UInt8)} (hown : OwnT w base v ll) (hv : a.eval s = v)
    {us : List Value} {ls : List (List UInt8)} (hu : RdsB w v us ls)
    {g n : Nat} {cs : Array Value} (hg : Blk w g 26 cs) (hcs : cs = us.toArray) (hn : n = us.length) (hy : a.eval x = .slice (some ⟨g, 0, none⟩) n n)
    (hb : ll.length + n ≤ 1000000000000) (hbase : base ≤ w.heap.size)
    (h : ∀ v' w', OwnT w' base v' (ll ++ ls) → w.grownBy w' v.ownBlock → (v'.ownBlock = v.ownBlock ∨ v'.ownBlock = some w.heap.size) → wpList Try.prog ops Q rest (a.put o.dst v') w') : wpList Try.prog ops Q (o :: rest) a w := by
  obtain ⟨i, hi, hz, h1, h2⟩ := info_parts info_bb
  obtain ⟨vs, e1, e2, e3, hr, h1c⟩ := run_T hown hu hg hcs hn hb
  refine wpList_append_rd w hgd s x _ ho base 26 i _ 1 24 Try.underlying92 hi hz h1 h2 rfl (by omega) v hv _ _ e2 _ _ hy _ _ hr h1c (by simp only [maxLen]; omega) (by omega) hbase ?_
  intro v' w' hown' hgr _ hat
  subst hn
  exact h v' w' (OwnT.grow e1 e3 hu hown' hgr hat) hgr hat
/-- the same in a region that draws its order -/
theorem step_T {w : World} {ops : Array Oper} {o : Oper} {a : Act} {K : Act → World → Prop} {Q : Exit → Act → World → Prop} {E : Prop} (hgd : o.guard = none) (s x : Operand)
    (ho : o.op = .call { callee := .builtin .append, args := #[s, x], argTypes := #[92, 92] })
    {base : Nat} {v : Value} {ll : List (List UInt8)} (hown : OwnT w base v ll) (hv : a.eval s = v)
    {us : List Value} {ls : List (List UInt8)} (hu : RdsB w v us ls)
    {g n : Nat} {cs : Array Value} (hg : Blk w g 26 cs) (hcs : cs = us.toArray) (hn : n = us.length) (hy : a.eval x = .slice (some ⟨g, 0, none⟩) n n)
    (hb : ll.length + n ≤ 1000000000000) (hbase : base ≤ w.heap.size)
    (h : ∀ v' w', OwnT w' base v' (ll ++ ls) → w.grownBy w' v.ownBlock → (v'.ownBlock = v.ownBlock ∨ v'.ownBlock = some w.heap.size) → K (a.put o.dst v') w') :
    if Region.wanted o (yielded ops a.tmps) = true then Oper.wp Try.prog o a w K Q else E := by
  have hw : Region.wanted o (yielded ops a.tmps) = true := by simp [Region.wanted, hgd]
  rw [if_pos hw]
  obtain ⟨i, hi, hz, h1, h2⟩ := info_parts info_bb
  obtain ⟨vs, e1, e2, e3, hr, h1c⟩ := run_T hown hu hg hcs hn hb
  subst hv
  rw [← hy] at hr
  refine wp_append_rd w s x _ ho base 26 i _ 1 24 Try.underlying92 hi hz h1 h2 rfl (by omega) _ _ e2 _ _ _ hr h1c (by simp only [maxLen]; omega) (by omega) hbase ?_
  intro v' w' hown' hgr _ hat
  subst hn
  exact h v' w' (OwnT.grow e1 e3 hu hown' hgr hat) hgr hat
end Go.Proofs.Ytncchbcoldgpbaa

namespace Go.Proofs.Ytncchbcoldgpbaa
open Go.RowKit

theorem RdW.lt {w : World} {F : Nat → Prop} {v : Value} {l : List WrS} (h : RdW w F v l) : RdW w (fun k => F k ∧ k < w.heap.size) v l := by
  obtain ⟨xs, h1, h2, h3⟩ := h
  exact ⟨xs, h1, h2.lt (by omega), fun i x y hx hy => ⟨(h3 i x y hx hy).1.lt, (h3 i x y hx hy).2.lt⟩⟩

end Go.Proofs.Ytncchbcoldgpbaa

namespace Go.Proofs.Ytncchbcoldgpbaa
open Go.RowKit
set_option linter.unusedVariables false

theorem rblk {w : World} {g : Nat} {t : TypeId} {a0 a1 a2 a3 a4 a5 a6 a7 a8 a9 a10 : Value} (h : Blk w g t #[a0, a1, a2, a3, a4, a5, a6, a7, a8, a9, a10]) :
    w.cell? ⟨g, 0, none⟩ = some a0 ∧ w.cell? ⟨g, 1, none⟩ = some a1 ∧ w.cell? ⟨g, 2, none⟩ = some a2 ∧ w.cell? ⟨g, 3, none⟩ = some a3 ∧ w.cell? ⟨g, 4, none⟩ = some a4 ∧ w.cell? ⟨g, 5, none⟩ = some a5 ∧ w.cell? ⟨g, 6, none⟩ = some a6 ∧ w.cell? ⟨g, 7, none⟩ = some a7 ∧ w.cell? ⟨g, 8, none⟩ = some a8 ∧ w.cell? ⟨g, 9, none⟩ = some a9 ∧ w.cell? ⟨g, 10, none⟩ = some a10 :=
  ⟨h.cell 0, h.cell 1, h.cell 2, h.cell 3, h.cell 4, h.cell 5, h.cell 6, h.cell 7, h.cell 8, h.cell 9, h.cell 10⟩
/-- the part that a letter names -/
def fldP (x : RcS) (c : Int) : List UInt8 :=
  if c = 84 then txB x else if c = 87 then triB x.ws else if c = 82 then triB x.rs else if c = 67 then flB x.commit
  else if c = 83 then shB x.shards else if c = 65 then x.reply else if c = 73 then numB x.id else nmB x.name
/-- small enough -/
structure RcSm (x : RcS) : Prop where
  ws : triW x.ws ≤ 1048576
  rs : triW x.rs ≤ 1048576
  wn : x.ws.length ≤ 1048576
  rn : x.rs.length ≤ 1048576
  sh : x.shards.length ≤ 1048576
  rep : x.reply.length ≤ 1048576
  nm : x.name.size ≤ 1048576
theorem numsB3 (a b c : Nat) : numsB [a, b, c] = numB a ++ (numB b ++ numB c) := by simp [numsB]
theorem numsB1 (a : Nat) : numsB [a] = numB a := by simp [numsB]
theorem RdB.wide {w : World} {F : Nat → Prop} {b : Nat} {v : Value} {l : List UInt8} (h : OwnB w b v l) : RdB w (fun k => F k ∨ b ≤ k) v l := h.rd.mono fun k hk => .inr (h.lt k hk).1
theorem RdB.wideL {w : World} {F : Nat → Prop} {b : Nat} {v : Value} {l : List UInt8} (h : RdB w F v l) : RdB w (fun k => F k ∨ b ≤ k) v l := h.mono fun k hk => .inl hk

set_option maxHeartbeats 4000000 in
set_option maxRecDepth 100000 in
theorem recPartT {x : RcS} {wv rv sv pv : Value} {F : Nat → Prop} {w : World} (hr : RecR w F x wv rv sv pv) (hs : RcSm x) :
    Calls Try.prog 72 #[.agg (recC x wv rv sv pv), .int .i32 84] w fun e w' => ∃ u, e = .returned u ∧ RdB w' (fun b => F b ∨ w.heap.size ≤ b) u (txB x) ∧ Chg Non w w' := by
  have hk0 : Chg Non w (w.alloc (.cells (recC x wv rv sv pv) 129)) := (Chg.refl Non w).alloc _
  have hb0 := Blk.new w 129 (recC x wv rv sv pv)
  have hr0 := hr.c0 hk0
  clear hr
  unfold recC at hk0 hb0 hr0 ⊢
  go_enter Try.func72, Try.ntmps72
  go_upto_region 1 with fail
  generalize World.alloc _ _ = w0 at hb0 hk0 hr0 ⊢
  have hsz := hk0.size
  obtain ⟨c0, c1, c2, c3, c4, c5, c6, c7, c8, c9, c10⟩ := rblk hb0
  obtain ⟨_, _, _, _, ha, hb, hc, _, _⟩ := hr0
  have hlit := RdU.lit w0 22 (0, 0) #[.int .u64 (x.boot : Int), .int .u64 (x.sess : Int), .int .u64 (x.seq : Int)] [x.boot, x.sess, x.seq] 3 rfl rfl (by simp [maxLen]) (by simp [ha, hb, hc])
  have hcall := recNumbers hlit (by simp)
  rw [numsB3] at hcall
  have HC := hide hcall
  have hk1 := hk0.alloc (.cells #[.int .u64 (x.boot : Int), .int .u64 (x.sess : Int), .int .u64 (x.seq : Int)] 22)
  have hs1 := hk1.size
  clear hcall hlit ha hb hc hb0 hk0
  go_wp2_with fail
  refine HC.out.mono ?_
  rintro e w2 ⟨u2, rfl, hu2, hc2⟩
  go_wp2_with fail
  go_ret
  exact ⟨_, rfl, RdB.wide (hu2.low hs1), hk1.trans0 hc2⟩

set_option maxHeartbeats 4000000 in
set_option maxRecDepth 100000 in
theorem recPartW {x : RcS} {wv rv sv pv : Value} {F : Nat → Prop} {w : World} (hr : RecR w F x wv rv sv pv) (hs : RcSm x) :
    Calls Try.prog 72 #[.agg (recC x wv rv sv pv), .int .i32 87] w fun e w' => ∃ u, e = .returned u ∧ RdB w' (fun b => F b ∨ w.heap.size ≤ b) u (triB x.ws) ∧ Chg Non w w' := by
  have hk0 : Chg Non w (w.alloc (.cells (recC x wv rv sv pv) 129)) := (Chg.refl Non w).alloc _
  have hb0 := Blk.new w 129 (recC x wv rv sv pv)
  have hr0 := hr.c0 hk0
  clear hr
  unfold recC at hk0 hb0 hr0 ⊢
  go_enter Try.func72, Try.ntmps72
  go_upto_region 1 with fail
  generalize World.alloc _ _ = w0 at hb0 hk0 hr0 ⊢
  have hsz := hk0.size
  obtain ⟨c0, c1, c2, c3, c4, c5, c6, c7, c8, c9, c10⟩ := rblk hb0
  have hn := hs.wn
  have hl := triB_len x.ws
  have hw := hs.ws
  have HL := hide (show (triB x.ws).length + 18 ≤ 140737488355328 by omega)
  have hrw := hr0.ws
  obtain ⟨l, hl0⟩ : ∃ l, l = x.ws := ⟨_, rfl⟩
  rw [← hl0] at hn HL hrw
  have HE := hide hl0
  obtain ⟨A, c, rfl, hc, hm⟩ := hrw.shape
  unfold maxLen at hm
  have hrw := hrw.lt
  have hb0s := hk0.size
  clear hl0 hw hl hs hr0
  go_wp2_with fail
  go_loopw [5, 35] (fun ov iv wr => ∃ (k : Nat), k ≤ l.length ∧ iv = .int .i64 k ∧ OwnT wr w0.heap.size ov (triL (l.take k)) ∧ Chg Non w0 wr) (fun _ iv _ => l.length - (intOf iv).toNat)
  case atStart => exact ⟨0, Nat.zero_le _, rfl, OwnT.nil_ _ _, Chg.refl _ _⟩
  case round =>
    clear c0 c1 c2 c3 c4 c5 c6 c7 c8 c9 c10
    obtain ⟨k, hk, rfl, hO, hcw⟩ := hrel
    by_cases h1 : k < l.length
    · obtain ⟨ad, p, q, rfl, had, e1, e2, e3, rp, rq⟩ := (hrw.c0 hcw).at_ h1
      have HT := hide (show triL (l.take (k + 1)) = triL (l.take k) ++ [flB l[k].f, l[k].a, l[k].b] from by rw [List.take_succ_eq_append_getElem h1, triL_snoc])
      obtain ⟨y, hy⟩ : ∃ y, y = l[k] := ⟨_, rfl⟩
      rw [← hy] at HT e3 rp rq
      have hdl : (triL (l.take k)).length + 3 ≤ 1000000000000 := by rw [triL_len, List.length_take]; omega
      have hsz2 := hcw.size
      have hnot : ∀ b, (F b ∧ b < w0.heap.size) → u5.ownBlock ≠ some b := fun b hb e => by have := (hO.lt b e).1; have := hb.2; omega
      obtain ⟨P, np, cp, rfl⟩ := rp.sl
      obtain ⟨R, nq, cq, rfl⟩ := rq.sl
      obtain ⟨f, hf⟩ : ∃ f, f = y.f := ⟨_, rfl⟩
      rw [← hf] at HT e3
      have h1i : (k : Int) < (l.length : Int) := by omega
      have h0i : (0 : Int) ≤ (k : Int) := by omega
      clear hy hf had hrw
      go_upto_region 10 with fail
      have hb1 := Blk.new wr 125 #[.slice P np cp, .slice R nq cq, .bool f]
      have hk1 : Chg Non wr (wr.alloc (.cells #[.slice P np cp, .slice R nq cq, .bool f] 125)).drew := ((Chg.refl Non wr).alloc _).drew
      have hna : ¬ (some wr.heap.size = u5.ownBlock) := fun e => by have := (hO.lt _ e.symm).2; omega
      have e1 : (wr.alloc (.cells #[.slice P np cp, .slice R nq cq, .bool f] 125)).drew.cell? ⟨wr.heap.size, 0, none⟩ = some (.slice P np cp) := hb1.cell 0
      have e2 : (wr.alloc (.cells #[.slice P np cp, .slice R nq cq, .bool f] 125)).drew.cell? ⟨wr.heap.size, 1, none⟩ = some (.slice R nq cq) := hb1.cell 1
      have e3 : (wr.alloc (.cells #[.slice P np cp, .slice R nq cq, .bool f] 125)).drew.cell? ⟨wr.heap.size, 2, none⟩ = some (.bool f) := hb1.cell 2
      have hOd := hO.c0 hk1
      have rp := rp.c0 hk1
      have rq := rq.c0 hk1
      have hcd := hcw.trans0 hk1
      have hsz3 := hcd.size
      clear hb1 hO hcw hb0
      generalize World.alloc _ _ = w1 at e1 e2 e3 hk1 hOd rp rq hcd hsz3 ⊢
      obtain ⟨g, hg⟩ : ∃ g, g = wr.heap.size := ⟨_, rfl⟩
      rw [← hg] at e1 e2 e3 hna ⊢
      clear hg
      go_region_held3 (fun w' => w'.cell? ⟨g, 0, none⟩ = some (.slice P np cp) ∧ w'.cell? ⟨g, 1, none⟩ = some (.slice R nq cq) ∧ w'.cell? ⟨g, 2, none⟩ = some (.bool f)) (first | exact ⟨e1, e2, e3⟩ | exact ⟨cell_al e1, cell_al e2, cell_al e3⟩) (first
        | (go_at_call 88; refine recTruth.mono ?_; rintro e w2 ⟨u2, rfl, hu2, hc2⟩; have d2 := OwnT.dsj hOd hu2; obtain ⟨A2, n2, k2, rfl⟩ := hu2.sl; have e1 := hc2.cell e1 (fun h => h); have e2 := hc2.cell e2 (fun h => h); have e3 := hc2.cell e3 (fun h => h))
        | (refine step_T rfl _ _ rfl ((hOd.c0 hc2).al _) rfl (RdsB.cons (hu2.al _).rd d2 (RdsB.cons ((rp.c0 hc2).al _) hnot (RdsB.cons ((rq.c0 hc2).al _) hnot (RdsB.nil_ _ _)))) (Blk.new _ _ _) rfl rfl rfl hdl (Nat.le_trans hsz3 (Nat.le_trans hc2.size (szAl _ _))) ?_; intro v3 w3 hO3 hg3 hat3; have e1 := (Chg.of_grown hg3).cell (cell_al e1) hna; have e2 := (Chg.of_grown hg3).cell (cell_al e2) hna; have e3 := (Chg.of_grown hg3).cell (cell_al e3) hna; have k3 := Chg.appT ((hcd.trans0 hc2).alloc _) hg3 ((hOd.c0 hc2).al _) (Nat.le_refl _)))
      go_wp2_with fail
      go_round
      case rel => exact ⟨k + 1, by omega, by go_num, by rw [HT.out]; exact hO3, k3⟩
      case measure => simp [intOf]; omega
    · have HK := hide (show l.take k = l from List.take_of_length_le (by omega))
      rw [HK.out] at hO
      have hj := packJoin hO.rd HL.out
      go_wp2_with fail
      refine hj.mono ?_
      rintro e w2 ⟨u2, rfl, hu2, hc2⟩
      go_wp2_with fail
      go_ret
      rw [← HE.out]
      exact ⟨_, rfl, RdB.wide (hu2.low (Nat.le_trans hb0s hcw.size)), (hk0.trans0 hcw).trans0 hc2⟩

set_option maxHeartbeats 4000000 in
set_option maxRecDepth 100000 in
theorem recPartR {x : RcS} {wv rv sv pv : Value} {F : Nat → Prop} {w : World} (hr : RecR w F x wv rv sv pv) (hs : RcSm x) :
    Calls Try.prog 72 #[.agg (recC x wv rv sv pv), .int .i32 82] w fun e w' => ∃ u, e = .returned u ∧ RdB w' (fun b => F b ∨ w.heap.size ≤ b) u (triB x.rs) ∧ Chg Non w w' := by
  have hk0 : Chg Non w (w.alloc (.cells (recC x wv rv sv pv) 129)) := (Chg.refl Non w).alloc _
  have hb0 := Blk.new w 129 (recC x wv rv sv pv)
  have hr0 := hr.c0 hk0
  clear hr
  unfold recC at hk0 hb0 hr0 ⊢
  go_enter Try.func72, Try.ntmps72
  go_upto_region 1 with fail
  generalize World.alloc _ _ = w0 at hb0 hk0 hr0 ⊢
  have hsz := hk0.size
  obtain ⟨c0, c1, c2, c3, c4, c5, c6, c7, c8, c9, c10⟩ := rblk hb0
  have hn := hs.rn
  have hl := triB_len x.rs
  have hw := hs.rs
  have HL := hide (show (triB x.rs).length + 18 ≤ 140737488355328 by omega)
  have hrw := hr0.rs
  obtain ⟨l, hl0⟩ : ∃ l, l = x.rs := ⟨_, rfl⟩
  rw [← hl0] at hn HL hrw
  have HE := hide hl0
  obtain ⟨A, c, rfl, hc, hm⟩ := hrw.shape
  unfold maxLen at hm
  have hrw := hrw.lt
  have hb0s := hk0.size
  clear hl0 hw hl hs hr0
  go_wp2_with fail
  go_loopw [5, 55] (fun ov iv wr => ∃ (k : Nat), k ≤ l.length ∧ iv = .int .i64 k ∧ OwnT wr w0.heap.size ov (triL (l.take k)) ∧ Chg Non w0 wr) (fun _ iv _ => l.length - (intOf iv).toNat)
  case atStart => exact ⟨0, Nat.zero_le _, rfl, OwnT.nil_ _ _, Chg.refl _ _⟩
  case round =>
    clear c0 c1 c2 c3 c4 c5 c6 c7 c8 c9 c10
    obtain ⟨k, hk, rfl, hO, hcw⟩ := hrel
    by_cases h1 : k < l.length
    · obtain ⟨ad, p, q, rfl, had, e1, e2, e3, rp, rq⟩ := (hrw.c0 hcw).at_ h1
      have HT := hide (show triL (l.take (k + 1)) = triL (l.take k) ++ [flB l[k].f, l[k].a, l[k].b] from by rw [List.take_succ_eq_append_getElem h1, triL_snoc])
      obtain ⟨y, hy⟩ : ∃ y, y = l[k] := ⟨_, rfl⟩
      rw [← hy] at HT e3 rp rq
      have hdl : (triL (l.take k)).length + 3 ≤ 1000000000000 := by rw [triL_len, List.length_take]; omega
      have hsz2 := hcw.size
      have hnot : ∀ b, (F b ∧ b < w0.heap.size) → u5.ownBlock ≠ some b := fun b hb e => by have := (hO.lt b e).1; have := hb.2; omega
      obtain ⟨P, np, cp, rfl⟩ := rp.sl
      obtain ⟨R, nq, cq, rfl⟩ := rq.sl
      obtain ⟨f, hf⟩ : ∃ f, f = y.f := ⟨_, rfl⟩
      rw [← hf] at HT e3
      have h1i : (k : Int) < (l.length : Int) := by omega
      have h0i : (0 : Int) ≤ (k : Int) := by omega
      clear hy hf had hrw
      go_upto_region 16 with fail
      have hb1 := Blk.new wr 192 #[.slice P np cp, .slice R nq cq, .bool f]
      have hk1 : Chg Non wr (wr.alloc (.cells #[.slice P np cp, .slice R nq cq, .bool f] 192)).drew := ((Chg.refl Non wr).alloc _).drew
      have hna : ¬ (some wr.heap.size = u5.ownBlock) := fun e => by have := (hO.lt _ e.symm).2; omega
      have e1 : (wr.alloc (.cells #[.slice P np cp, .slice R nq cq, .bool f] 192)).drew.cell? ⟨wr.heap.size, 0, none⟩ = some (.slice P np cp) := hb1.cell 0
      have e2 : (wr.alloc (.cells #[.slice P np cp, .slice R nq cq, .bool f] 192)).drew.cell? ⟨wr.heap.size, 1, none⟩ = some (.slice R nq cq) := hb1.cell 1
      have e3 : (wr.alloc (.cells #[.slice P np cp, .slice R nq cq, .bool f] 192)).drew.cell? ⟨wr.heap.size, 2, none⟩ = some (.bool f) := hb1.cell 2
      have hOd := hO.c0 hk1
      have rp := rp.c0 hk1
      have rq := rq.c0 hk1
      have hcd := hcw.trans0 hk1
      have hsz3 := hcd.size
      clear hb1 hO hcw hb0
      generalize World.alloc _ _ = w1 at e1 e2 e3 hk1 hOd rp rq hcd hsz3 ⊢
      obtain ⟨g, hg⟩ : ∃ g, g = wr.heap.size := ⟨_, rfl⟩
      rw [← hg] at e1 e2 e3 hna ⊢
      clear hg
      go_region_held3 (fun w' => w'.cell? ⟨g, 0, none⟩ = some (.slice P np cp) ∧ w'.cell? ⟨g, 1, none⟩ = some (.slice R nq cq) ∧ w'.cell? ⟨g, 2, none⟩ = some (.bool f)) (first | exact ⟨e1, e2, e3⟩ | exact ⟨cell_al e1, cell_al e2, cell_al e3⟩) (first
        | (go_at_call 88; refine recTruth.mono ?_; rintro e w2 ⟨u2, rfl, hu2, hc2⟩; have d2 := OwnT.dsj hOd hu2; obtain ⟨A2, n2, k2, rfl⟩ := hu2.sl; have e1 := hc2.cell e1 (fun h => h); have e2 := hc2.cell e2 (fun h => h); have e3 := hc2.cell e3 (fun h => h))
        | (refine step_T rfl _ _ rfl ((hOd.c0 hc2).al _) rfl (RdsB.cons (hu2.al _).rd d2 (RdsB.cons ((rp.c0 hc2).al _) hnot (RdsB.cons ((rq.c0 hc2).al _) hnot (RdsB.nil_ _ _)))) (Blk.new _ _ _) rfl rfl rfl hdl (Nat.le_trans hsz3 (Nat.le_trans hc2.size (szAl _ _))) ?_; intro v3 w3 hO3 hg3 hat3; have e1 := (Chg.of_grown hg3).cell (cell_al e1) hna; have e2 := (Chg.of_grown hg3).cell (cell_al e2) hna; have e3 := (Chg.of_grown hg3).cell (cell_al e3) hna; have k3 := Chg.appT ((hcd.trans0 hc2).alloc _) hg3 ((hOd.c0 hc2).al _) (Nat.le_refl _)))
      go_wp2_with fail
      go_round
      case rel => exact ⟨k + 1, by omega, by go_num, by rw [HT.out]; exact hO3, k3⟩
      case measure => simp [intOf]; omega
    · have HK := hide (show l.take k = l from List.take_of_length_le (by omega))
      rw [HK.out] at hO
      have hj := packJoin hO.rd HL.out
      go_wp2_with fail
      refine hj.mono ?_
      rintro e w2 ⟨u2, rfl, hu2, hc2⟩
      go_wp2_with fail
      go_ret
      rw [← HE.out]
      exact ⟨_, rfl, RdB.wide (hu2.low (Nat.le_trans hb0s hcw.size)), (hk0.trans0 hcw).trans0 hc2⟩

set_option maxHeartbeats 4000000 in
set_option maxRecDepth 100000 in
theorem recPartC {x : RcS} {wv rv sv pv : Value} {F : Nat → Prop} {w : World} (hr : RecR w F x wv rv sv pv) (hs : RcSm x) :
    Calls Try.prog 72 #[.agg (recC x wv rv sv pv), .int .i32 67] w fun e w' => ∃ u, e = .returned u ∧ RdB w' (fun b => F b ∨ w.heap.size ≤ b) u (flB x.commit) ∧ Chg Non w w' := by
  have hk0 : Chg Non w (w.alloc (.cells (recC x wv rv sv pv) 129)) := (Chg.refl Non w).alloc _
  have hb0 := Blk.new w 129 (recC x wv rv sv pv)
  have hr0 := hr.c0 hk0
  clear hr
  unfold recC at hk0 hb0 hr0 ⊢
  go_enter Try.func72, Try.ntmps72
  go_upto_region 1 with fail
  generalize World.alloc _ _ = w0 at hb0 hk0 hr0 ⊢
  have hsz := hk0.size
  obtain ⟨c0, c1, c2, c3, c4, c5, c6, c7, c8, c9, c10⟩ := rblk hb0
  clear hb0 hr0
  go_wp2_with fail
  refine recTruth.mono ?_
  rintro e w2 ⟨u2, rfl, hu2, hc2⟩
  go_wp2_with fail
  go_ret
  exact ⟨_, rfl, RdB.wide (hu2.low hsz), hk0.trans0 hc2⟩

set_option maxHeartbeats 4000000 in
set_option maxRecDepth 100000 in
theorem recPartA {x : RcS} {wv rv sv pv : Value} {F : Nat → Prop} {w : World} (hr : RecR w F x wv rv sv pv) (hs : RcSm x) :
    Calls Try.prog 72 #[.agg (recC x wv rv sv pv), .int .i32 65] w fun e w' => ∃ u, e = .returned u ∧ RdB w' (fun b => F b ∨ w.heap.size ≤ b) u (x.reply) ∧ Chg Non w w' := by
  have hk0 : Chg Non w (w.alloc (.cells (recC x wv rv sv pv) 129)) := (Chg.refl Non w).alloc _
  have hb0 := Blk.new w 129 (recC x wv rv sv pv)
  have hr0 := hr.c0 hk0
  clear hr
  unfold recC at hk0 hb0 hr0 ⊢
  go_enter Try.func72, Try.ntmps72
  go_upto_region 1 with fail
  generalize World.alloc _ _ = w0 at hb0 hk0 hr0 ⊢
  have hsz := hk0.size
  obtain ⟨c0, c1, c2, c3, c4, c5, c6, c7, c8, c9, c10⟩ := rblk hb0
  have hp := hr0.rep
  clear hb0 hr0
  go_wp2_with fail
  go_ret
  exact ⟨_, rfl, RdB.wideL hp, hk0⟩

set_option maxHeartbeats 4000000 in
set_option maxRecDepth 100000 in
theorem recPartI {x : RcS} {wv rv sv pv : Value} {F : Nat → Prop} {w : World} (hr : RecR w F x wv rv sv pv) (hs : RcSm x) :
    Calls Try.prog 72 #[.agg (recC x wv rv sv pv), .int .i32 73] w fun e w' => ∃ u, e = .returned u ∧ RdB w' (fun b => F b ∨ w.heap.size ≤ b) u (numB x.id) ∧ Chg Non w w' := by
  have hk0 : Chg Non w (w.alloc (.cells (recC x wv rv sv pv) 129)) := (Chg.refl Non w).alloc _
  have hb0 := Blk.new w 129 (recC x wv rv sv pv)
  have hr0 := hr.c0 hk0
  clear hr
  unfold recC at hk0 hb0 hr0 ⊢
  go_enter Try.func72, Try.ntmps72
  go_upto_region 1 with fail
  generalize World.alloc _ _ = w0 at hb0 hk0 hr0 ⊢
  have hsz := hk0.size
  obtain ⟨c0, c1, c2, c3, c4, c5, c6, c7, c8, c9, c10⟩ := rblk hb0
  have hi := hr0.u4
  have hlit := RdU.lit w0 22 (0, 0) #[.int .u64 (x.id : Int)] [x.id] 1 rfl rfl (by simp [maxLen]) (by simpa using hi)
  have hcall := packNumber hlit (by simp)
  rw [numsB1] at hcall
  have HC := hide hcall
  have hk1 := hk0.alloc (.cells #[.int .u64 (x.id : Int)] 22)
  have hs1 := hk1.size
  clear hcall hlit hi hb0 hk0 hr0
  go_wp2_with fail
  refine HC.out.mono ?_
  rintro e w2 ⟨u2, rfl, hu2, hc2⟩
  go_wp2_with fail
  go_ret
  exact ⟨_, rfl, RdB.wide (hu2.low hs1), hk1.trans0 hc2⟩

set_option maxHeartbeats 4000000 in
set_option maxRecDepth 100000 in
theorem recPartS {x : RcS} {wv rv sv pv : Value} {F : Nat → Prop} {w : World} (hr : RecR w F x wv rv sv pv) (hs : RcSm x) :
    Calls Try.prog 72 #[.agg (recC x wv rv sv pv), .int .i32 83] w fun e w' => ∃ u, e = .returned u ∧ RdB w' (fun b => F b ∨ w.heap.size ≤ b) u (shB x.shards) ∧ Chg Non w w' := by
  have hk0 : Chg Non w (w.alloc (.cells (recC x wv rv sv pv) 129)) := (Chg.refl Non w).alloc _
  have hb0 := Blk.new w 129 (recC x wv rv sv pv)
  have hr0 := hr.c0 hk0
  clear hr
  unfold recC at hk0 hb0 hr0 ⊢
  go_enter Try.func72, Try.ntmps72
  go_upto_region 1 with fail
  generalize World.alloc _ _ = w0 at hb0 hk0 hr0 ⊢
  have hsz := hk0.size
  obtain ⟨c0, c1, c2, c3, c4, c5, c6, c7, c8, c9, c10⟩ := rblk hb0
  have hn := hs.sh
  have hrw := hr0.sh
  obtain ⟨l, hl0⟩ : ∃ l, l = x.shards := ⟨_, rfl⟩
  rw [← hl0] at hn hrw
  have HE := hide hl0
  obtain ⟨A, c, rfl, hc, hm⟩ := hrw.shape
  unfold maxLen at hm
  clear hl0 hs hr0
  go_wp2_with fail
  go_loopw [10, 80] (fun ov iv wr => ∃ (k : Nat), k ≤ l.length ∧ iv = .int .i64 k ∧ OwnB wr w0.heap.size ov (shB (l.take k)) ∧ Chg Non w0 wr) (fun _ iv _ => l.length - (intOf iv).toNat)
  case atStart => exact ⟨0, Nat.zero_le _, rfl, OwnB.nil_ _ _, Chg.refl _ _⟩
  case round =>
    clear c0 c1 c2 c3 c4 c5 c6 c7 c8 c9 c10
    obtain ⟨k, hk, rfl, hO, hcw⟩ := hrel
    by_cases h1 : k < l.length
    · obtain ⟨ad, rfl, had, e1⟩ := (RdI.c0 hrw hcw).at_ h1
      have HT := hide (show shB (l.take (k + 1)) = shB (l.take k) ++ numB (u64z l[k]) from by rw [List.take_succ_eq_append_getElem h1]; simp only [shB, List.flatMap_append, List.flatMap_singleton])
      have hnn := shB_len (l.take k)
      rw [List.length_take, Nat.min_eq_left hk] at hnn
      obtain ⟨n, hn0⟩ : ∃ n, n = l[k] := ⟨_, rfl⟩
      rw [← hn0] at HT e1
      have hw : IntKind.u64.wrap n = ((u64z n : Nat) : Int) := by rw [IntKind.wrap_u64]; unfold u64z; omega
      have hu : U64 (u64z n) := u64z_lt n
      obtain ⟨m, hm0⟩ : ∃ m, m = u64z n := ⟨_, rfl⟩
      rw [← hm0] at HT hw hu
      have hn9 := numB_length m
      have hlit := RdU.lit wr 22 (0, 0) #[.int .u64 (m : Int)] [m] 1 rfl rfl (by simp [maxLen]) (by simpa using hu)
      have hcall := packNumber hlit (by simp)
      rw [numsB1] at hcall
      have HC := hide hcall
      have hlen : (shB (l.take k)).length + (numB m).length ≤ 140737488355328 := by omega
      have hk1 := hcw.alloc (.cells #[.int .u64 (m : Int)] 22)
      have hs1 := hk1.size
      have hO1 := hO.al (.cells #[.int .u64 (m : Int)] 22)
      clear hcall hlit hu hn0 hm0 hnn hn9
      go_wp2_with (first
        | (go_at_call 48; refine HC.out.mono ?_; rintro e w2 ⟨u2, rfl, hu2, hc2⟩; have hs3 := hc2.size)
        | (at_builtin; refine append_B rfl _ _ rfl (hO1.c0 hc2) rfl hu2.rd rfl hlen (Nat.le_trans hs1 hs3) ?_; intro v3 w3 hO3 hg3 hat3))
      go_roundw
      case rel =>
        refine ⟨k + 1, by omega, by go_num, ?_, Chg.app (hk1.trans0 hc2) hg3 (hO1.c0 hc2) (Nat.le_refl _)⟩
        rw [HT.out]; exact hO3
      case measure => simp [intOf]; omega
    · have HK := hide (show l.take k = l from List.take_of_length_le (by omega))
      rw [HK.out] at hO
      go_wp2_with fail
      go_ret
      rw [← HE.out]
      exact ⟨_, rfl, RdB.wide (hO.low hsz), hk0.trans0 hcw⟩

set_option maxHeartbeats 4000000 in
set_option maxRecDepth 100000 in
theorem recPartN {x : RcS} {wv rv sv pv : Value} {F : Nat → Prop} {w : World} {c : Int} (hr : RecR w F x wv rv sv pv) (hs : RcSm x) (hc : c ≠ 84 ∧ c ≠ 87 ∧ c ≠ 82 ∧ c ≠ 67 ∧ c ≠ 83 ∧ c ≠ 65 ∧ c ≠ 73) :
    Calls Try.prog 72 #[.agg (recC x wv rv sv pv), .int .i32 c] w fun e w' => ∃ u, e = .returned u ∧ RdB w' (fun b => F b ∨ w.heap.size ≤ b) u (nmB x.name) ∧ Chg Non w w' := by
  have hk0 : Chg Non w (w.alloc (.cells (recC x wv rv sv pv) 129)) := (Chg.refl Non w).alloc _
  have hb0 := Blk.new w 129 (recC x wv rv sv pv)
  have hr0 := hr.c0 hk0
  clear hr
  unfold recC at hk0 hb0 hr0 ⊢
  go_enter Try.func72, Try.ntmps72
  go_upto_region 1 with fail
  generalize World.alloc _ _ = w0 at hb0 hk0 hr0 ⊢
  have hsz := hk0.size
  obtain ⟨c0, c1, c2, c3, c4, c5, c6, c7, c8, c9, c10⟩ := rblk hb0
  have hcv := conv_bytes w0 x.name
  have hck := bytesWorld_chg w0 5 x.name
  have hcr := bytesWorld_rd w0 5 x.name (by have := hs.nm; omega)
  have q1 : (c == 84) = false := beq_eq_false_iff_ne.2 hc.1
  have q2 : (c == 87) = false := beq_eq_false_iff_ne.2 hc.2.1
  have q3 : (c == 82) = false := beq_eq_false_iff_ne.2 hc.2.2.1
  have q4 : (c == 67) = false := beq_eq_false_iff_ne.2 hc.2.2.2.1
  have q5 : (c == 83) = false := beq_eq_false_iff_ne.2 hc.2.2.2.2.1
  have q6 : (c == 65) = false := beq_eq_false_iff_ne.2 hc.2.2.2.2.2.1
  have q7 : (c == 73) = false := beq_eq_false_iff_ne.2 hc.2.2.2.2.2.2
  have HR := hide hcr
  have HK := hide hck
  clear hb0 hr0 hc hs hcr hck
  go_wp2_with fail
  go_ret
  exact ⟨_, rfl, HR.out.mono fun k hk => .inr (by omega), hk0.trans0 HK.out⟩

theorem recPart {x : RcS} {wv rv sv pv : Value} {F : Nat → Prop} {w : World} {c : Int} (hr : RecR w F x wv rv sv pv) (hs : RcSm x) :
    Calls Try.prog 72 #[.agg (recC x wv rv sv pv), .int .i32 c] w fun e w' => ∃ u, e = .returned u ∧ RdB w' (fun b => F b ∨ w.heap.size ≤ b) u (fldP x c) ∧ Chg Non w w' := by
  by_cases h1 : c = 84
  · subst h1; exact recPartT hr hs
  by_cases h2 : c = 87
  · subst h2; exact recPartW hr hs
  by_cases h3 : c = 82
  · subst h3; exact recPartR hr hs
  by_cases h4 : c = 67
  · subst h4; exact recPartC hr hs
  by_cases h5 : c = 83
  · subst h5; exact recPartS hr hs
  by_cases h6 : c = 65
  · subst h6; exact recPartA hr hs
  by_cases h7 : c = 73
  · subst h7; exact recPartI hr hs
  have e : fldP x c = nmB x.name := by rw [fldP, if_neg h1, if_neg h2, if_neg h3, if_neg h4, if_neg h5, if_neg h6, if_neg h7]
  rw [e]
  exact recPartN hr hs ⟨h1, h2, h3, h4, h5, h6, h7⟩
end Go.Proofs.Ytncchbcoldgpbaa

namespace Go.Proofs.Ytncchbcoldgpbaa
open Go.RowKit
set_option linter.unusedVariables false

theorem fldR_map (x : RcS) : fldR x = (fldS x.kind).data.toList.map fun b => fldP x (b.toNat : Int) := by
  unfold fldR fldS
  by_cases h1 : x.kind = 1
  · simp [h1, fldP]
  by_cases h2 : x.kind = 2 ∨ x.kind = 3 ∨ x.kind = 9
  · simp [h1, h2, fldP]
  by_cases h4 : x.kind = 4
  · simp [h4, fldP]
  by_cases h5 : x.kind = 5 ∨ x.kind = 7 ∨ x.kind = 8
  · rw [if_neg h1, if_neg h2, if_neg h4, if_pos h5, if_neg h1, if_neg h2, if_neg h4, if_pos h5]
    simp [fldP]
  by_cases h6 : x.kind = 6
  · simp [h6, fldP]
  · rw [if_neg h1, if_neg h2, if_neg h4, if_neg h5, if_neg h6, if_neg h1, if_neg h2, if_neg h4, if_neg h5, if_neg h6]
    simp
theorem fldS_small (k : Int) : (fldS k).size ≤ 4 ∧ ∀ (i : Nat) (h : i < (fldS k).size), ((fldS k)[i]'h).toNat < 128 := by
  have all : ∀ s : ByteArray, (s.size ≤ 4 ∧ ∀ (i : Nat) (h : i < s.size), (s[i]'h).toNat < 128) → (s.size ≤ 4 ∧ ∀ (i : Nat) (h : i < s.size), (s[i]'h).toNat < 128) := fun _ h => h
  unfold fldS
  have q1 : (⟨#[84, 87, 82]⟩ : ByteArray).size ≤ 4 ∧ ∀ (i : Nat) (h : i < (⟨#[84, 87, 82]⟩ : ByteArray).size), ((⟨#[84, 87, 82]⟩ : ByteArray)[i]'h).toNat < 128 := by decide
  have q2 : (⟨#[84]⟩ : ByteArray).size ≤ 4 ∧ ∀ (i : Nat) (h : i < (⟨#[84]⟩ : ByteArray).size), ((⟨#[84]⟩ : ByteArray)[i]'h).toNat < 128 := by decide
  have q3 : (⟨#[84, 87, 65]⟩ : ByteArray).size ≤ 4 ∧ ∀ (i : Nat) (h : i < (⟨#[84, 87, 65]⟩ : ByteArray).size), ((⟨#[84, 87, 65]⟩ : ByteArray)[i]'h).toNat < 128 := by decide
  have q4 : (⟨#[73, 78]⟩ : ByteArray).size ≤ 4 ∧ ∀ (i : Nat) (h : i < (⟨#[73, 78]⟩ : ByteArray).size), ((⟨#[73, 78]⟩ : ByteArray)[i]'h).toNat < 128 := by decide
  have q5 : (⟨#[84, 67, 83, 65]⟩ : ByteArray).size ≤ 4 ∧ ∀ (i : Nat) (h : i < (⟨#[84, 67, 83, 65]⟩ : ByteArray).size), ((⟨#[84, 67, 83, 65]⟩ : ByteArray)[i]'h).toNat < 128 := by decide
  have q6 : (⟨#[]⟩ : ByteArray).size ≤ 4 ∧ ∀ (i : Nat) (h : i < (⟨#[]⟩ : ByteArray).size), ((⟨#[]⟩ : ByteArray)[i]'h).toNat < 128 := by decide
  split
  · exact q1
  split
  · exact q2
  split
  · exact q3
  split
  · exact q4
  split
  · exact q5
  · exact q6
theorem cell_iterAt {w : World} {g : Nat} {s : ByteArray} {pos pos' : Nat} {p : Addr} {v : Value} (hk : w.heap[g]? = some (.stringIter s pos)) (h : w.cell? p = some v) : (w.iterAt g s pos').cell? p = some v := by
  refine (World.cell?_of_block (Lib.iterAt_other w g p.block s pos' fun e => ?_)).trans h
  subst e
  simp [World.cell?, hk] at h
theorem chg_iterAt (w : World) (g : Nat) (s : ByteArray) (pos : Nat) : Chg (fun j => j = g) w (w.iterAt g s pos) :=
  ⟨rfl, rfl, rfl, by rw [Lib.iterAt_size]; exact Nat.le_refl _, fun j _ hn => Lib.iterAt_other w g j s pos hn⟩
theorem RdB.iterAt {w : World} {F : Nat → Prop} {v : Value} {l : List UInt8} {g : Nat} {s : ByteArray} {pos : Nat} (h : RdB w F v l) (hk : w.heap[g]? = some (.stringIter s pos)) (pos' : Nat) : RdB (w.iterAt g s pos') F v l := by
  obtain ⟨h1, A, c, hv, hc, hm, h2⟩ := h
  refine ⟨h1, A, c, hv, hc, hm, fun hn => ?_⟩
  obtain ⟨ad, e, hf, hcell⟩ := h2 hn
  exact ⟨ad, e, hf, fun j u hu => cell_iterAt hk (hcell j u hu)⟩
theorem OwnT.iterAt {w : World} {base : Nat} {v : Value} {ll : List (List UInt8)} {g : Nat} {s : ByteArray} {pos : Nat} (h : OwnT w base v ll) (hk : w.heap[g]? = some (.stringIter s pos)) (pos' : Nat) : OwnT (w.iterAt g s pos') base v ll := by
  obtain ⟨vs, h1, h2, h3⟩ := h
  refine ⟨vs, h1, ⟨h2.1, ?_⟩, fun k x l hx hl => ?_⟩
  · rcases h2.2 with hn | ⟨g', cap, cur, rfl, hb, hg, rest⟩
    · exact .inl hn
    · refine .inr ⟨g', cap, cur, rfl, hb, ?_, rest⟩
      rw [Lib.iterAt_other _ _ _ _ _ (fun e => by subst e; rw [hk] at hg; cases hg)]
      exact hg
  · exact ((h3 k x l hx hl).iterAt hk pos').mono fun b hb => ⟨trivial, by rw [Lib.iterAt_size]; exact hb.2.1, hb.2.2⟩
theorem OwnT.noIter {w : World} {base : Nat} {v : Value} {ll : List (List UInt8)} {g : Nat} {s : ByteArray} {pos : Nat} (h : OwnT w base v ll) (hk : w.heap[g]? = some (.stringIter s pos)) : v.ownBlock ≠ some g := by
  obtain ⟨vs, h1, h2, h3⟩ := h
  intro e
  rcases h2.2 with ⟨rfl, _⟩ | ⟨g', cap, cur, rfl, hb, hg, rest⟩
  · simp [Value.ownBlock] at e
  · simp only [Value.ownBlock, Option.some.injEq] at e
    subst e
    rw [hk] at hg
    cases hg
theorem RecR.lt {w : World} {F : Nat → Prop} {x : RcS} {wv rv sv pv : Value} (h : RecR w F x wv rv sv pv) : RecR w (fun k => F k ∧ k < w.heap.size) x wv rv sv pv :=
  ⟨h.ws.lt, h.rs.lt, RdV.lt h.sh (by omega), h.rep.lt, h.u1, h.u2, h.u3, h.u4, h.ki⟩
theorem kiB_int (k : Int) : IntKind.u8.wrap k = ((kiB k).toNat : Int) := by
  rw [kiB, UInt8.toNat_ofNat', IntKind.wrap_u8]
  omega
theorem joinB_len (ll : List (List UInt8)) : (joinB ll).length ≤ 9 + 9 * (ll.map fun l => l.length + 1).sum := by
  have h1 := numB_length ll.length
  have h2 := flatB_length ll
  rw [joinB, List.length_append]; omega
theorem recY_len (x : RcS) (hs : RcSm x) : (recY x).length ≤ 2000000000 := by
  have h := joinB_len ([kiB x.kind] :: fldR x)
  obtain ⟨h1, h2, h3, h4, h5, h6, h7⟩ := hs
  have a1 := txB_len x
  have a2 := triB_len x.ws
  have a3 := triB_len x.rs
  have a4 := flB_len x.commit
  have a5 := shB_len x.shards
  have a6 := numB_length x.id
  have a7 : (nmB x.name).length = x.name.size := Array.length_toList
  unfold recY
  refine Nat.le_trans h ?_
  unfold fldR
  split
  · simp only [List.map_cons, List.map_nil, List.sum_cons, List.sum_nil, List.length_cons, List.length_nil]; omega
  split
  · simp only [List.map_cons, List.map_nil, List.sum_cons, List.sum_nil, List.length_cons, List.length_nil]; omega
  split
  · simp only [List.map_cons, List.map_nil, List.sum_cons, List.sum_nil, List.length_cons, List.length_nil]; omega
  split
  · simp only [List.map_cons, List.map_nil, List.sum_cons, List.sum_nil, List.length_cons, List.length_nil]; omega
  split
  · simp only [List.map_cons, List.map_nil, List.sum_cons, List.sum_nil, List.length_cons, List.length_nil]; omega
  · simp only [List.map_cons, List.map_nil, List.sum_cons, List.sum_nil, List.length_cons, List.length_nil]; omega

set_option maxHeartbeats 4000000 in
set_option maxRecDepth 100000 in
theorem recBytes {x : RcS} {wv rv sv pv : Value} {F : Nat → Prop} {w : World} (hr : RecR w F x wv rv sv pv) (hs : RcSm x) :
    Calls Try.prog 49 #[.agg (recC x wv rv sv pv)] w fun e w' => ∃ u, e = .returned u ∧ OwnB w' w.heap.size u (recY x) ∧ Chg Non w w' := by
  have hk0 : Chg Non w (w.alloc (.cells (recC x wv rv sv pv) 129)) := (Chg.refl Non w).alloc _
  have hb0 := Blk.new w 129 (recC x wv rv sv pv)
  have hr0 := hr.lt.c0 hk0
  obtain ⟨hsl, hsa⟩ := fldS_small x.kind
  have HM := hide (fldR_map x)
  have HY := hide (recY_len x hs)
  have hki := kiB_int x.kind
  clear hr
  unfold recC at hk0 hb0 hr0 ⊢
  go_enter Try.func49, Try.ntmps49
  go_upto_region 1 with fail
  generalize World.alloc _ _ = w0 at hb0 hk0 hr0 ⊢
  have hsz := hk0.size
  obtain ⟨c0, c1, c2, c3, c4, c5, c6, c7, c8, c9, c10⟩ := rblk hb0
  obtain ⟨s, hsl, hsa, HM, HF⟩ : ∃ s : ByteArray, s.size ≤ 4 ∧ (∀ (i : Nat) (h : i < s.size), (s[i]'h).toNat < 128) ∧ Hid (fldR x = s.data.toList.map fun b => fldP x (b.toNat : Int)) ∧
      Hid (∀ w', Calls Try.prog 71 #[.int .i64 x.kind] w' fun e w2 => e = .returned (.string s) ∧ w2 = w') :=
    ⟨fldS x.kind, hsl, hsa, HM, hide fun w' => recFields⟩
  have hlast : Blk w0 w.heap.size 129 (recC x wv rv sv pv) := hb0
  have hr1 := hr0
  clear hb0 hr0
  go_upto_region 2 with fail
  have k1 : Chg Non w0 ((w0.alloc (.cells #[.int .u8 ((kiB x.kind).toNat : Int)] 5)).alloc (.cells #[.slice (some ⟨w0.heap.size, 0, none⟩) 1 1] 26)) := ((Chg.refl Non w0).alloc _).alloc _
  have hO : OwnT ((w0.alloc (.cells #[.int .u8 ((kiB x.kind).toNat : Int)] 5)).alloc (.cells #[.slice (some ⟨w0.heap.size, 0, none⟩) 1 1] 26)) (w0.alloc (.cells #[.int .u8 ((kiB x.kind).toNat : Int)] 5)).heap.size (.slice (some ⟨(w0.alloc (.cells #[.int .u8 ((kiB x.kind).toNat : Int)] 5)).heap.size, 0, none⟩) 1 1) [[kiB x.kind]] :=
    OwnT.lit (us := [.slice (some ⟨w0.heap.size, 0, none⟩) 1 1]) (RdsB.cons (own_one w0 (kiB x.kind) _ rfl).rd (fun b hb => by simp [Value.ownBlock]) (RdsB.nil_ _ _)) 1 rfl (by simp [maxLen]) rfl
  have hO := hO.low (show w0.heap.size ≤ _ by simp)
  rw [show (w0.alloc (.cells #[.int .u8 ((kiB x.kind).toNat : Int)] 5)).heap.size = w0.heap.size + 1 from by simp] at hO
  have hc0 := cell_al (o := .cells #[.slice (some ⟨w0.heap.size, 0, none⟩) 1 1] 26) (cell_al (o := .cells #[.int .u8 ((kiB x.kind).toNat : Int)] 5) c0)
  have hs1 := k1.size
  clear c0 c1 c2 c3 c4 c5 c6 c7 c8 c9 c10 hki
  generalize World.alloc _ _ = w1 at k1 hO hc0 hs1 ⊢
  generalize Value.slice (some ⟨w0.heap.size + 1, 0, none⟩) 1 1 = p0 at hO ⊢
  go_wp2_with fail
  refine (HF.out _).mono ?_
  rintro e w2 ⟨rfl, rfl⟩
  have hit : (w2.iter s 0).heap[w2.heap.size]? = some (.stringIter s 0) := heap_alloc_new w2 _
  have k2 : Chg Non w0 (w2.iter s 0) := k1.alloc _
  have hO2 : OwnT (w2.iter s 0) w0.heap.size p0 [[kiB x.kind]] := hO.al (.stringIter s 0)
  obtain ⟨g, hg⟩ : ∃ g, g = w2.heap.size := ⟨_, rfl⟩
  have hg0 : w0.heap.size ≤ g := by omega
  rw [← hg] at hit
  clear hc0 hO k1
  go_upto_region 3 with fail
  rw [← hg]
  generalize World.iter _ _ _ = w3 at hit k2 hO2 ⊢
  clear hg hs1 HF
  go_loopw [3] (fun pv wr => ∃ k, k ≤ s.size ∧ wr.heap[g]? = some (.stringIter s k) ∧ OwnT wr w0.heap.size pv ([kiB x.kind] :: (fldR x).take k) ∧ Chg Non w0 wr) (fun _ wr => s.size - wr.iterPos g)
  case atStart => exact ⟨0, Nat.zero_le _, hit, hO2, k2⟩
  case round =>
    clear hit hO2 k2
    obtain ⟨k, hk, hit, hO, hcw⟩ := hrel
    have hb := hlast.c0 hcw
    have hr2 := hr1.c0 hcw
    unfold recC at hb
    by_cases h1 : k < s.size
    · have hnx : ∀ ty, (Instr.next (.pointer (some ⟨g, 0, none⟩)) true ty).run Try.prog wr = _ := fun ty => Lib.run_next_ascii_at wr g s k ty hit h1 (hsa k h1)
      have hit1 := Lib.iterAt_heap wr g s k (k + 1) hit
      have kk := chg_iterAt wr g s (k + 1)
      have hcw1 : Chg Non w0 (wr.iterAt g s (k + 1)) := hcw.trans kk fun j hj e => by omega
      have hO1 := hO.iterAt hit (k + 1)
      have hb1 := hlast.c0 hcw1
      have hr3 := hr1.c0 hcw1
      unfold recC at hb1
      have HT := hide (show (fldR x).take (k + 1) = (fldR x).take k ++ [fldP x (((s[k]'h1).toNat : Nat) : Int)] from by
        rw [HM.out]
        rw [List.take_succ_eq_append_getElem (by rw [List.length_map, Array.length_toList]; exact h1), List.getElem_map]
        rfl)
      have hlen : ((fldR x).take k).length ≤ k := by rw [List.length_take]; omega
      have hdl : ([kiB x.kind] :: (fldR x).take k).length + 1 ≤ 1000000000000 := by rw [List.length_cons]; omega
      clear hb hr2 hO
      go_upto_region 5 with fail
      generalize World.iterAt _ _ _ _ = w4 at hit1 hcw1 hO1 hb1 hr3 ⊢
      have HIT := hide hit
      clear kk hnx hit hcw
      obtain ⟨c, hc⟩ : ∃ c : Int, c = (((s[k]'h1).toNat : Nat) : Int) := ⟨_, rfl⟩
      rw [← hc] at HT ⊢
      clear hc
      obtain ⟨c0, c1, c2, c3, c4, c5, c6, c7, c8, c9, c10⟩ := rblk hb1
      have hcall := recPart (c := c) hr3 hs
      unfold recC at hcall
      have HC := hide hcall
      have hs4 := hcw1.size
      have hnot : ∀ b, ((F b ∧ b < w.heap.size) ∨ w4.heap.size ≤ b) → u3.ownBlock ≠ some b := fun b hb e => by
        have := hO1.lt b e
        rcases hb with hb | hb <;> omega
      have hni := hO1.noIter hit1
      clear hcall hb1
      go_wp2_with (first
        | (go_at_call 72; refine HC.out.mono ?_; rintro e w5 ⟨u5, rfl, hu5, hc5⟩; obtain ⟨A5, n5, k5, rfl⟩ := hu5.sl; have hs5 := hc5.size)
        | (at_builtin; refine append_T rfl _ _ rfl ((hO1.c0 hc5).al _) rfl (RdsB.cons (hu5.al _) hnot (RdsB.nil_ _ _)) (Blk.new _ _ _) rfl rfl rfl hdl (Nat.le_trans hs4 (Nat.le_trans hs5 (szAl _ _))) ?_; intro v6 w6 hO6 hg6 hat6))
      have k6 := Chg.appT ((hcw1.trans0 hc5).alloc _) hg6 ((hO1.c0 hc5).al _) (Nat.le_refl _)
      have k56 := ((Chg.refl Non w4).trans0 hc5).alloc (.cells #[.slice A5 n5 k5] 26)
      have hit6 : w6.heap[g]? = some (.stringIter s (k + 1)) := by
        exact (Chg.of_grown hg6).heap (k56.heap hit1 fun h => h) fun e => hni e.symm
      go_roundw
      case rel => exact ⟨k + 1, by omega, hit6, by rw [HT.out]; exact hO6, k6⟩
      case measure => simp only [World.iterPos, hit6, HIT.out]; omega
    · have hnx : ∀ ty, (Instr.next (.pointer (some ⟨g, 0, none⟩)) true ty).run Try.prog wr = _ := fun ty => Lib.run_next_end_at wr g s k ty hit h1
      have HK := hide (show (fldR x).take k = fldR x from List.take_of_length_le (by rw [HM.out, List.length_map]; show s.size ≤ k; omega))
      rw [HK.out] at hO
      have hj := packJoin hO.rd (by have := HY.out; unfold recY at this; omega)
      go_wp2_with fail
      refine hj.mono ?_
      rintro e w5 ⟨u5, rfl, hu5, hc5⟩
      go_wp2_with fail
      go_ret
      exact ⟨_, rfl, hu5.low (Nat.le_trans hsz hcw.size), (hk0.trans0 hcw).trans0 hc5⟩
end Go.Proofs.Ytncchbcoldgpbaa
