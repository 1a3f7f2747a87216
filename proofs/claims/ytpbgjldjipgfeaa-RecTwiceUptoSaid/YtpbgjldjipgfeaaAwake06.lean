/- The fixed fact of groynelaw06; and rec.Read of any record's bytes. -/
import Derived.Test.YtpbgjldjipgfeaaRecXT
import Derived.Test.YtpbgjldjipgfeaaRecXI
import Derived.Test.YtpbgjldjipgfeaaRecXW
import Derived.Test.YtpbgjldjipgfeaaRecXO
import Derived.Test.YtpbgjldjipgfeaaRecXD
import Derived.Test.YtpbgjldjipgfeaaRecZ
import Derived.Test.YtpbgjldjipgfeaaRecN
namespace Go.Proofs.Ytpbgjldjipgfeaa
open Go.RowKit
set_option linter.unusedVariables false

theorem recRead {w : World} {F : Nat → Prop} {v : Value} {x : RcS} (hr : RdB w F v (recY x)) (hs : RcSm x) (hwf : RcWf x) (hk : 1 ≤ x.kind ∧ x.kind ≤ 9) :
    Calls Try.prog 14 #[v] w fun e w' => ∃ a b c d xs ys, e = .returned (.tuple #[.agg (recC (trimR x) a b c d), .int .i64 0]) ∧ RecOwn w' w.heap.size (trimR x) a b c d xs ys ∧ Chg Non w w' := by
  rcases (show x.kind = 1 ∨ (x.kind = 2 ∨ x.kind = 3 ∨ x.kind = 9) ∨ x.kind = 4 ∨ (x.kind = 5 ∨ x.kind = 7 ∨ x.kind = 8) ∨ x.kind = 6 by omega) with h | h | h | h | h
  · exact recRead_W hr hs hwf h
  · exact recRead_T hr hs hwf h
  · exact recRead_O hr hs hwf h
  · exact recRead_I hr hs hwf h
  · exact recRead_D hr hs hwf h
theorem recReadN {w : World} {F : Nat → Prop} {v : Value} {x : RcS} (hr : RdB w F v (recY x)) (hk : ¬ (1 ≤ x.kind ∧ x.kind ≤ 9)) :
    Calls Try.prog 14 #[v] w fun e w' => ∃ er, er ≠ 0 ∧ e = .returned (.tuple #[.agg zeroC, .int .i64 er]) ∧ Chg Non w w' := by
  have hy : recY x = joinB [[kiB x.kind]] := by rw [recY, fldR_not hk]
  rw [hy] at hr
  refine recReadK (k := kiB x.kind) hr ?_ (splitB_join _ ⟨by simp, fun l hl => by simp at hl; subst hl; simp⟩)
  have := joinB_len [[kiB x.kind]]
  simp at this
  omega
/-- the record of the fixed fact -/
def aw6 : RcS := { zeroR with kind := 2, boot := 1, sess := 2, seq := 300 }
theorem RecOwn.sl {w : World} {base : Nat} {x : RcS} {a b c d : Value} {xs ys : List (Value × Value)} (h : RecOwn w base x a b c d xs ys) : (∃ A n c, a = .slice A n c) ∧ (∃ A n c, b = .slice A n c) ∧ (∃ A n e, c = .slice A n e) ∧ ∃ A n c, d = .slice A n c :=
  ⟨RdV.sl (RdV.of_own h.ws), RdV.sl (RdV.of_own h.rs), RdV.sl (RdV.of_own h.sh), (h.ps.1 (d, x.reply) (by simp)).sl⟩

set_option maxHeartbeats 4000000 in
set_option maxRecDepth 100000 in
theorem awake06 {w : World} : Calls Try.prog 7 #[] w fun e w' => e = .returned (.bool true) ∧ Chg Non w w' := by
  have hs : RcSm aw6 := ⟨by decide, by decide, by decide, by decide, by decide, by decide, by decide⟩
  have hwf : RcWf aw6 := ⟨⟨by unfold U64; decide, by unfold U64; decide, by unfold U64; decide, by unfold U64; decide⟩, fun s hs => by cases hs⟩
  have hr : RecR w Non aw6 (.slice none 0 0) (.slice none 0 0) (.slice none 0 0) (.slice none 0 0) := ⟨RdW.nil_ _ _, RdW.nil_ _ _, RdV.nil_ _ _ _, RdB.nil_ _ _, hwf.u.1, hwf.u.2.1, hwf.u.2.2.1, hwf.u.2.2.2, by decide⟩
  have hb := recBytes hr hs
  have hy : recY aw6 = [2, 1, 2, 5, 1, 2, 249, 1, 44] := by decide +kernel
  have ht : trimR aw6 = aw6 := by rfl
  have hrd := fun (w' : World) (F : Nat → Prop) (v : Value) (h : RdB w' F v (recY aw6)) => recRead_T h hs hwf (.inl rfl)
  rw [hy] at hb
  simp only [ht, hy] at hrd
  have HB := hide hb
  have HR := hide hrd
  clear hr hb hrd hy ht hs hwf
  unfold recC at HB HR
  simp only [aw6, zeroR] at HB HR
  go_enter Try.func7, Try.ntmps7
  go_wp2_with fail
  refine HB.out.mono ?_
  rintro e w1 ⟨u, rfl, hu, hc1⟩
  go_wp2_with fail
  refine (HR.out w1 _ u hu.rd).mono ?_
  rintro e w2 ⟨a, b, c, d, xs, ys, rfl, hO, hc2⟩
  obtain ⟨⟨a1, a2, a3, rfl⟩, ⟨b1, b2, b3, rfl⟩, ⟨c1, c2, c3, rfl⟩, ⟨d1, d2, d3, rfl⟩⟩ := hO.sl
  have hu2 := hu.c0 hc2
  have hc12 := hc1.trans0 hc2
  clear hO hu
  go_upto_region 3 with fail
  have hB := Blk.new w2 32 #[.int .i64 2, .int .u64 ((1 : Nat) : Int), .int .u64 ((2 : Nat) : Int), .int .u64 ((300 : Nat) : Int), .slice a1 a2 a3, .slice b1 b2 b3, .bool false, .slice c1 c2 c3, .slice d1 d2 d3, .int .u64 ((0 : Nat) : Int), .string ⟨#[]⟩]
  have hk3 := hc12.alloc (.cells #[.int .i64 2, .int .u64 ((1 : Nat) : Int), .int .u64 ((2 : Nat) : Int), .int .u64 ((300 : Nat) : Int), .slice a1 a2 a3, .slice b1 b2 b3, .bool false, .slice c1 c2 c3, .slice d1 d2 d3, .int .u64 ((0 : Nat) : Int), .string ⟨#[]⟩] 32)
  have hu3 := hu2.al (.cells #[.int .i64 2, .int .u64 ((1 : Nat) : Int), .int .u64 ((2 : Nat) : Int), .int .u64 ((300 : Nat) : Int), .slice a1 a2 a3, .slice b1 b2 b3, .bool false, .slice c1 c2 c3, .slice d1 d2 d3, .int .u64 ((0 : Nat) : Int), .string ⟨#[]⟩] 32)
  generalize World.alloc _ _ = w3 at hB hk3 hu3 ⊢
  have hlit := RdB.lit w3 5 (0, 0) #[.int .u8 2, .int .u8 1, .int .u8 2, .int .u8 5, .int .u8 1, .int .u8 2, .int .u8 249, .int .u8 1, .int .u8 44] [2, 1, 2, 5, 1, 2, 249, 1, 44] 9 rfl rfl (by simp [maxLen])
  have heq := refEqual_true (hu3.al (.cells #[.int .u8 2, .int .u8 1, .int .u8 2, .int .u8 5, .int .u8 1, .int .u8 2, .int .u8 249, .int .u8 1, .int .u8 44] 5)).rd hlit
  have hk4 := hk3.alloc (.cells #[.int .u8 2, .int .u8 1, .int .u8 2, .int .u8 5, .int .u8 1, .int .u8 2, .int .u8 249, .int .u8 1, .int .u8 44] 5)
  have hB4 := hB.al (.cells #[.int .u8 2, .int .u8 1, .int .u8 2, .int .u8 5, .int .u8 1, .int .u8 2, .int .u8 249, .int .u8 1, .int .u8 44] 5)
  have HE := hide heq
  have HK := hide hk4
  have HB4 := hide hB4
  clear heq hk4 hB4 hlit hu2 hu3 hB hk3 hc12
  go_wp2_with (go_at_call 10; refine HE.out.mono ?_; rintro e w5 ⟨rfl, hq⟩; have hB5 := HB4.out.c0 ((Chg.refl Non _).quiet hq); have q3 := hB5.cell 3; simp at q3)
  go_ret
  exact ⟨rfl, HK.out.quiet hq⟩
end Go.Proofs.Ytpbgjldjipgfeaa
