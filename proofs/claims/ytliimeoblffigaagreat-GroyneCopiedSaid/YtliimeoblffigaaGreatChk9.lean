/- The walk of btree's Check. -/
import Derived.Test.YtliimeoblffigaaGreatLok
set_option linter.unusedVariables false
set_option linter.unusedSimpArgs false
set_option maxRecDepth 100000
namespace Go.Proofs.YtliimeoblffigaaGreat
open Go.RowKit Go.Maps
set_option linter.unusedVariables false
set_option linter.unusedSimpArgs false

section
variable {w : World} {T : Nat → Prop} {g hand q n gt h : Nat} {pre : ByteArray} {l : List KV}
set_option maxHeartbeats 16000000 in
theorem tCheck (hT : Tree w T g hand pre q n gt h l) (hh : h ≤ 900) (hq : q + n ≤ 900000) :
  Calls Tryz.prog 33 #[.pointer (some ⟨gt, 0, none⟩)] w fun e w' => e = .returned (.int .i64 0) ∧ ∃ (T' : Nat → Prop), Tree w' T' g hand pre (q + n) n gt h l ∧ (∀ b, T' b → Ext T w w' b) ∧ Chg T w w' := by
 obtain ⟨ids, ct, r, ps, hS, hgt, hb, hTR, hnd, hin, hlen⟩ := hT
 have hps : ps.length ≤ n := Nat.le_trans (len_sub ps ids hnd hin) hlen
 obtain ⟨w1, h1⟩ : ∃ x, x = w.alloc (.map #[] 0) := ⟨_, rfl⟩
 obtain ⟨w2, h2⟩ : ∃ x, x = w1.alloc (.cells #[.pointer (some ⟨gt, 0, none⟩), .int .i64 0, .map (some w.heap.size)] 141) := ⟨_, rfl⟩
 have s1 : w1.heap.size = w.heap.size + 1 := by rw [h1]; exact sizeAl' _ _
 have c1 : Chg Non w w1 := by rw [h1]; exact (Chg.refl Non _).alloc _
 have c2 : Chg Non w1 w2 := by rw [h2]; exact (Chg.refl Non _).alloc _
 have m1 : w1.ownsMap Tryz.prog 3 heldR w.heap.size 0 (dat klI eS []) := by rw [h1]; exact World.ownsMap_made w Tryz.prog 3 heldR
 have b2 : Blk w2 (w.heap.size + 1) 141 #[.pointer (some ⟨gt, 0, none⟩), .int .i64 0, .map (some w.heap.size)] := by rw [h2, ← s1]; exact Blk.new _ _ _
 have hc := c1.trans0 c2
 have hTl := hS.lt
 have hgl := hb.lt
 have s2 : w2.heap.size = w.heap.size + 1 + 1 := by rw [h2, sizeAl', s1]
 have H0 : LkSt ⟨g, hand, gt, w.heap.size + 1, w.heap.size, (r : Int), pre⟩ w2 T q ids ct 0 [] :=
  ⟨hS.c0 hc, hb.c0 hc, ⟨hgt, fun h => by have := hTl _ h; dsimp only at this; omega, fun h => by have := hTl _ h; dsimp only at this; omega, by dsimp only; omega, by dsimp only; omega, by dsimp only; omega⟩, b2, ownsMap_chg m1 c2 (fun h => h), Once.nil_, Nat.zero_le _⟩
 have hlk := tLook h (d := 1) (LA := none) (ln := 0) (lc := 0) (HA := none) (hn := 0) (hc := 0) (lo := []) (hi := []) (G := Non) H0 hTR hnd hin (fun j _ => rfl) (by omega) ⟨Nat.le_refl _, by omega⟩ (.inl rfl) (fun e => absurd rfl e) (RdB.nil_ _ _) (RdB.nil_ _ _) (fun b h => h.elim) (fun p _ => cmpB_nil_le _) (.inl rfl)
 unfold LkP at hlk
 dsimp only at hlk
 have hmk := @run_makeMap Tryz.prog
 obtain ⟨t0, t1⟩ := blk2 hb
 obtain ⟨t0a, t1a⟩ := blk2 (hb.c0 c1)
 obtain ⟨t0b, t1b⟩ := blk2 (hb.c0 hc)
 have HX := hide (And.intro hc (And.intro s2 (And.intro hTR (And.intro hnd (And.intro hin (And.intro hlen (And.intro hps hgt)))))))
 clear hS hb hTR hnd hin hlen hps hc hTl hgl s2 H0 c1 c2 m1 b2
 rw [h1] at h2 t0a t1a s1
 rw [h2] at t0b t1b
 go_enter Tryz.func33, Tryz.ntmps33
 rw [h2] at hlk
 have H2 := hide h2
 clear h2 h1
 go_wp2_with (go_at_call 70; refine hlk.mono ?_; rintro e w3 ⟨rfl, T3, sn3, hS3, hsn3, hs3, hc3⟩)
 go_ret
 rw [← H2.out] at hs3 hc3
 have hx := HX.out
 have n3 := hc3.size
 refine ⟨rfl, T3, ⟨ids, ct, r, ps, hS3.ts.le_q (by omega), hS3.off.1, hS3.tr, hx.2.2.1, hx.2.2.2.1, hx.2.2.2.2.1, hx.2.2.2.2.2.1⟩, fun b hb => ?_, (hx.1.mono (S' := T) fun _ _ h => (h : False).elim).trans hc3 fun b hb h => ?_⟩
 ·rcases hs3 b hb with h | h
  ·exact .inl h
  ·exact .inr ⟨by omega, h.2⟩
 ·rcases h with h | h | h
  ·exact h
  ·omega
  ·omega
end
end Go.Proofs.YtliimeoblffigaaGreat

