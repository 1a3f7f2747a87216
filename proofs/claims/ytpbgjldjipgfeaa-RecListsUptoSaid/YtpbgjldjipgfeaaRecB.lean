/- The walk of groyneref06.txn; words for regions whose calls come in any order. -/
import Derived.Test.YtpbgjldjipgfeaaRecA
namespace Go.Proofs.Ytpbgjldjipgfeaa
open Go.RowKit

theorem OwnB.c0 {w w' : World} {base : Nat} {v : Value} {l : List UInt8} (h : OwnB w base v l) (hc : Chg Non w w') : OwnB w' base v l := h.chg hc fun _ _ h => h
theorem RdB.sl {w : World} {F : Nat → Prop} {v : Value} {l : List UInt8} (h : RdB w F v l) : ∃ A n c, v = .slice A n c := by obtain ⟨A, c, e, _⟩ := h.shape; exact ⟨A, _, c, e⟩
theorem OwnB.sl {w : World} {base : Nat} {v : Value} {l : List UInt8} (h : OwnB w base v l) : ∃ A n c, v = .slice A n c := by obtain ⟨A, c, e, _⟩ := h.shape; exact ⟨A, _, c, e⟩
/-- what is new lies apart from what was there -/
def Dsj (u v : Value) : Prop := ∀ k, u.ownBlock = some k → v.ownBlock ≠ some k
theorem Dsj.symm {u v : Value} (h : Dsj u v) : Dsj v u := fun k hk e => h k e hk
theorem OwnB.dsj {w w' : World} {b : Nat} {u u' : Value} {l l' : List UInt8} (h : OwnB w b u l) (h' : OwnB w' w.heap.size u' l') : Dsj u u' := fun k hk e => by
  have h1 := (h.lt k hk).2
  have h2 := (h'.lt k e).1
  omega
theorem OwnB.app {w w' : World} {b : Nat} {u v : Value} {l : List UInt8} (h : OwnB w b u l) (hg : w.grownBy w' v.ownBlock) (hd : Dsj u v) : OwnB w' b u l :=
  h.chg (Chg.of_grown hg) fun k hk e => hd k hk e.symm
theorem Dsj.app {w : World} {b : Nat} {u v v' : Value} {l : List UInt8} (h : OwnB w b u l) (hd : Dsj u v) (hat : v'.ownBlock = v.ownBlock ∨ v'.ownBlock = some w.heap.size) : Dsj u v' := fun k hk e => by
  rcases hat with h1 | h1
  · exact hd k hk (h1 ▸ e)
  · rw [h1] at e
    injection e with e
    have := (h.lt k hk).2
    omega
theorem Chg.app {a w w' : World} {v : Value} {base : Nat} {l : List UInt8} (h : Chg Non a w) (hg : w.grownBy w' v.ownBlock) (ho : OwnB w base v l) (hb : a.heap.size ≤ base) : Chg Non a w' :=
  h.own hg fun k hk => Nat.le_trans hb (ho.lt k hk).1
theorem sz_chg {a w : World} (h : Chg Non a w) : a.heap.size ≤ w.heap.size := h.size

/-- three cells of a block -/
def At3 (g : Nat) (a b c : Value) (w : World) : Prop := w.cell? ⟨g, 0, none⟩ = some a ∧ w.cell? ⟨g, 1, none⟩ = some b ∧ w.cell? ⟨g, 2, none⟩ = some c
theorem At3.c0 {g : Nat} {a b c : Value} {w w' : World} (h : w.cell? ⟨g, 0, none⟩ = some a ∧ w.cell? ⟨g, 1, none⟩ = some b ∧ w.cell? ⟨g, 2, none⟩ = some c) (hc : Chg Non w w') :
    w'.cell? ⟨g, 0, none⟩ = some a ∧ w'.cell? ⟨g, 1, none⟩ = some b ∧ w'.cell? ⟨g, 2, none⟩ = some c :=
  ⟨hc.cell h.1 fun h => h, hc.cell h.2.1 fun h => h, hc.cell h.2.2 fun h => h⟩
theorem At3.app {g base : Nat} {a b c v : Value} {l : List UInt8} {w w' : World} (h : w.cell? ⟨g, 0, none⟩ = some a ∧ w.cell? ⟨g, 1, none⟩ = some b ∧ w.cell? ⟨g, 2, none⟩ = some c) (hg : w.grownBy w' v.ownBlock) (ho : OwnB w base v l) (hb : g < base) :
    w'.cell? ⟨g, 0, none⟩ = some a ∧ w'.cell? ⟨g, 1, none⟩ = some b ∧ w'.cell? ⟨g, 2, none⟩ = some c :=
  have hn : ¬ (some g = v.ownBlock) := fun e => Nat.lt_irrefl _ (Nat.lt_of_lt_of_le hb (ho.lt g e.symm).1)
  ⟨(Chg.of_grown hg).cell h.1 hn, (Chg.of_grown hg).cell h.2.1 hn, (Chg.of_grown hg).cell h.2.2 hn⟩

set_option maxHeartbeats 4000000 in
theorem ref6Txn {a b c : Nat} {w : World} (ha : U64 a) (hb : U64 b) (hc : U64 c) :
    Calls Try.prog 27 #[.agg #[.int .u64 (a : Int), .int .u64 (b : Int), .int .u64 (c : Int)]] w fun e w' => ∃ u, e = .returned u ∧ OwnB w' w.heap.size u (numB a ++ (numB b ++ numB c)) ∧ Chg Non w w' := by
  have hA := hide ha
  have hB := hide hb
  have hC := hide hc
  have n1 := numB_length a
  have n2 := numB_length b
  have n3 := numB_length c
  have hl1 : (numB a).length + (numB b).length ≤ 140737488355328 := by omega
  have hl2 : (numB a ++ numB b).length + (numB c).length ≤ 140737488355328 := by rw [List.length_append]; omega
  clear ha hb hc n1 n2 n3
  go_enter Try.func27, Try.ntmps27
  go_wp2_with fail
  have hb0 := Blk.new w 24 #[.int .u64 (a : Int), .int .u64 (b : Int), .int .u64 (c : Int)]
  have hc0 : Chg Non w (w.alloc (.cells #[.int .u64 (a : Int), .int .u64 (b : Int), .int .u64 (c : Int)] 24)).drew := ((Chg.refl Non w).alloc _).drew
  obtain ⟨g, hg⟩ : ∃ g, g = w.heap.size := ⟨_, rfl⟩
  have hgw : w.heap.size ≤ g := by omega
  rw [← hg] at hb0 ⊢
  have hgl : g < (w.alloc (.cells #[.int .u64 (a : Int), .int .u64 (b : Int), .int .u64 (c : Int)] 24)).drew.heap.size := hb0.lt
  have hq : At3 g (.int .u64 (a : Int)) (.int .u64 (b : Int)) (.int .u64 (c : Int)) (w.alloc (.cells #[.int .u64 (a : Int), .int .u64 (b : Int), .int .u64 (c : Int)] 24)).drew := ⟨hb0.cell 0, hb0.cell 1, hb0.cell 2⟩
  generalize w.alloc (.cells #[.int .u64 (a : Int), .int .u64 (b : Int), .int .u64 (c : Int)] 24) = w0 at hc0 hq hgl ⊢
  clear hb0 hg
  unfold At3 at hq
  go_region_held3 (fun w' => w'.cell? ⟨g, 0, none⟩ = some (.int .u64 (a : Int)) ∧ w'.cell? ⟨g, 1, none⟩ = some (.int .u64 (b : Int)) ∧ w'.cell? ⟨g, 2, none⟩ = some (.int .u64 (c : Int))) (first | exact hq) (first
    | (have z3 := hO3; go_at_call 30; refine (refNumber hC.out).mono ?_; rintro e w4 ⟨u4, rfl, hu4, hc4⟩; have hq := At3.c0 hq hc4; have k4 := k3.trans0 hc4; have d34 := OwnB.dsj hO3 hu4; have hO3 := hO3.c0 hc4)
    | (have z1 := hu1; go_at_call 30; refine (refNumber hB.out).mono ?_; rintro e w2 ⟨u2, rfl, hu2, hc2⟩; have hq := At3.c0 hq hc2; have k2 := k1.trans0 hc2; have d12 := OwnB.dsj hu1 hu2; have hu1 := hu1.c0 hc2)
    | (go_at_call 30; refine (refNumber hA.out).mono ?_; rintro e w1 ⟨u1, rfl, hu1, hc1⟩; have hq := At3.c0 hq hc1; have k1 := hc0.trans0 hc1; have hz := hc0.size)
    | (have z4 := hu4; refine step_B rfl _ _ rfl hO3 rfl hu4.rd rfl hl2 (Nat.le_trans (Nat.le_trans (Nat.le_trans hc1.size hc2.size) hg3.size) hc4.size) ?_; intro v5 w5 hO5 hg5 hat5; have k5 := Chg.app k4 hg5 hO3 hz; have hq := At3.app hq hg5 hO3 hgl)
    | (refine step_B rfl _ _ rfl hu1 rfl hu2.rd rfl hl1 (Nat.le_trans hc1.size hc2.size) ?_; intro v3 w3 hO3 hg3 hat3; have k3 := Chg.app k2 hg3 hu1 hz; have hq := At3.app hq hg3 hu1 hgl))
  go_wp2_with fail
  go_ret
  rw [← List.append_assoc]
  exact ⟨_, rfl, hO5.low hz, k5⟩
end Go.Proofs.Ytpbgjldjipgfeaa
