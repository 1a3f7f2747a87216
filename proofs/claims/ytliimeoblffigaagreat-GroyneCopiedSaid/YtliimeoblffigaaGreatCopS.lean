/- What GroyneCopied's loops keep in memory. -/
import Derived.Test.YtliimeoblffigaaGreatCopMG
import Derived.Test.YtliimeoblffigaaGreatTsNG
import Derived.Test.YtliimeoblffigaaGreatLfAG
import Derived.Test.YtliimeoblffigaaGreatRfA
set_option linter.unusedVariables false
set_option linter.unusedSimpArgs false
set_option maxRecDepth 100000
namespace Go.Proofs.YtliimeoblffigaaGreat
open Go.RowKit Go.Maps
set_option linter.unusedVariables false
set_option linter.unusedSimpArgs false

def supN : List Nm := (List.range 70).map pN
theorem supN_mem {n : Nat} (h : n < 70) : pN n ∈ supN := List.mem_map.2 ⟨n, List.mem_range.2 h, rfl⟩
theorem supN_len : supN.length = 70 := by simp [supN]
theorem supN_small : ∀ x ∈ supN, x.length ≤ 10000 := fun x hx => by
 obtain ⟨i, _, rfl⟩ := List.mem_map.1 hx
 simp [pN, numL_len]
theorem pN_cat (n : Nat) : ((⟨#[116, 47]⟩ : ByteArray) ++ ⟨(numL n).toArray⟩).data.toList = pN n := by
 rw [ByteArray.data_append]; simp [pN]
theorem numA_size (n : Nat) : (⟨(numL n).toArray⟩ : ByteArray).size = 16 := by
 show (numL n).toArray.size = 16
 rw [List.size_toArray, numL_len]
/-- the first loop: i pieces lie in the vault, fv says where the next one begins -/
def CpSt (W : World) (T V : Nat → Prop) (g gt vb h : Nat) (L : List KV) (mo i : Nat) (fv : Value) (w : World) : Prop :=
 ∃ (T' V' G : Nat → Prop) (vl : FL), Tree w T' g 3 ⟨#[116, 47]⟩ (16000 + i * 4000) 4000 gt h L ∧ Vlt w V' vb supN vl ∧ VlOk vl L mo i ∧ RdB w G fv (frK L (min (i * mo) L.length)) ∧ (∀ b, T' b → Ext T W w b) ∧ (∀ b, V' b → Ext V W w b) ∧ (∀ b, T' b → ¬ V' b) ∧ (∀ b, G b → b < w.heap.size ∧ ¬ T' b ∧ b ≠ gt ∧ ¬ V' b) ∧ Chg (fun b => T b ∨ V b) W w
section
variable {W wr w1 w3 w4 : World} {T V T1 V1 T2 G : Nat → Prop} {g gt vb h mo i : Nat} {L : List KV} {fv : Value} {vl : FL} {fr : List UInt8}
theorem CpSt.next (hT1 : ∀ b, T1 b → Ext T W wr b) (hV1 : ∀ b, V1 b → Ext V W wr b) (hTV : ∀ b, T1 b → ¬ V1 b) (hlt : ∀ b, T1 b → b < wr.heap.size) (hltV : ∀ b, V1 b → b < wr.heap.size) (hc0 : Chg (fun b => T b ∨ V b) W wr) (hc1 : Chg T1 wr w1) (hT2 : ∀ b, T2 b → Ext T1 wr w1 b) (hc2 : Chg Non w1 w3) (hc4 : Chg V1 w3 w4)
  (hTr : Tree w1 T2 g 3 ⟨#[116, 47]⟩ (16000 + i * 4000 + 4000) 4000 gt h L) (hVl : Vlt w4 (Ext V1 w3 w4) vb supN vl) (hok : VlOk vl L mo (i + 1)) (hf : RdB w3 G fv fr) (hG : ∀ b, G b → w1.heap.size ≤ b ∧ b < w3.heap.size) (hgV : ¬ V1 gt) (hgt : gt < wr.heap.size) (hfr : fr = frK L (min ((i + 1) * mo) L.length)) :
  CpSt W T V g gt vb h L mo (i + 1) fv w4 := by
 have n0 := hc0.size
 have n1 := hc1.size
 have n2 := hc2.size
 have n4 := hc4.size
 have t2 : ∀ b, T2 b → ¬ V1 b := fun b hb hv => by
  rcases hT2 b hb with h | h
  ·exact hTV b h hv
  ·have := hltV b hv; omega
 have l2 := hTr.lt
 refine ⟨T2, _, G, vl, ?_, hVl, hok, ?_, fun b hb => ?_, fun b hb => ?_, fun b hb hv => ?_, fun b hb => ?_, ?_⟩
 ·have := (hTr.c0 hc2).chg hc4 t2 hgV
  rw [show 16000 + (i + 1) * 4000 = 16000 + i * 4000 + 4000 by omega]; exact this
 ·rw [← hfr]
  exact hf.chg hc4 fun b hb hv => by have := hltV b hv; have := (hG b hb).1; omega
 ·rcases hT2 b hb with h | h
  ·exact (hT1 b h).up (by omega)
  ·exact .inr ⟨by omega, by omega⟩
 ·rcases hb with h | h
  ·exact (hV1 b h).up (by omega)
  ·exact .inr ⟨by omega, h.2⟩
 ·rcases hv with h | h
  ·exact t2 b hb h
  ·have := l2.1 b hb; omega
 ·have hb2 := hG b hb
  refine ⟨by omega, fun h => ?_, by omega, fun hv => ?_⟩
  ·have := l2.1 b h; omega
  ·rcases hv with h | h
   ·have := hltV b h; omega
   ·omega
 ·refine ((hc0.trans hc1 fun b hb h => ?_).trans0 hc2).trans hc4 fun b hb h => ?_
  ·rcases hT1 b h with h | h
   ·exact .inl h
   ·omega
  ·rcases hV1 b h with h | h
   ·exact .inr h
   ·omega
end
theorem scan_pcs {L : List KV} (hu : UpL L) (mo i : Nat) (hm : 1 ≤ mo) : cutM (mo : Int) (rngL (frK L (min (i * mo) L.length)) [] L) = pcs L mo i := by
 rw [rng_frK hu (Nat.min_le_right _ _), cutM, if_pos (by omega), pcs, Int.toNat_natCast]
 by_cases h : i * mo ≤ L.length
 ·rw [Nat.min_eq_left h]
 ·rw [Nat.min_eq_right (by omega), List.drop_length, List.drop_eq_nil_of_le (by omega)]
theorem pcs_full {L : List KV} {mo i : Nat} (hm : 1 ≤ mo) (h : i * mo < L.length) : 0 < (pcs L mo i).length ∧ i * mo + (pcs L mo i).length = min ((i + 1) * mo) L.length ∧ i < L.length := by
 have h1 := pcs_len L mo i
 have h2 : (i + 1) * mo = i * mo + mo := Nat.succ_mul _ _
 have h3 : i ≤ i * mo := Nat.le_mul_of_pos_right _ hm
 omega
theorem RdBB.two {w : World} {F : Nat → Prop} {v u : Value} {l m : List UInt8} (h : RdB w F v l) (h' : RdB w F u m) (t : TypeId) :
  RdBB (w.alloc (.cells #[v, u] t)) (fun k => F k ∨ k = w.heap.size) (.slice (some ⟨w.heap.size, 0, Option.none⟩) 2 2) [l, m] := by
 refine ⟨[v, u], rfl, ⟨rfl, some ⟨w.heap.size, 0, Option.none⟩, 2, rfl, Nat.le_refl _, by simp [maxLen], fun _ => ⟨_, rfl, .inr rfl, fun j x hu => ?_⟩⟩, fun k x l' hx hl => ?_⟩
 ·rw [add_none, Nat.zero_add, (Blk.new w t #[v, u]).cell]
  simpa using hu
 ·match k, hx, hl with
  | 0, hx, hl =>
   simp at hx hl
   subst hx; subst hl
   exact (h.al _).mono fun k hk => .inl hk
  | 1, hx, hl =>
   simp at hx hl
   subst hx; subst hl
   exact (h'.al _).mono fun k hk => .inl hk
  | k + 2, hx, hl => simp at hx
/-- the second loop: k pairs of a piece are written -/
def WrSt (w1 : World) (L : List KV) (mo i k : Nat) (fv : Value) (wr : World) : Prop :=
 ∃ (wv : Value) (G : Nat → Prop), Wtr wr w1.heap.size w1.heap.size wv (encC ((pcs L mo i).take k)) ∧ RdB wr G fv (frK L (i * mo + k)) ∧ (∀ b, G b → b < wr.heap.size ∧ ¬ WB w1.heap.size wv b ∧ (0 < k → w1.heap.size ≤ b)) ∧ Chg Non w1 wr
/-- the second tree holds M -/
def UtSt (W : World) (T X : Nat → Prop) (gp gu : Nat) (M : List KV) (wr : World) : Prop :=
 ∃ (T' : Nat → Prop) (h : Nat), Tree wr T' gp 2 ⟨#[116, 47]⟩ (1 + M.length * 400) (1 + M.length * 64) gu h M ∧ h ≤ M.length ∧ (∀ b, T' b → Ext T W wr b) ∧ Chg (fun b => T b ∨ b = gu ∨ X b) W wr
section
variable {W W2 wr w' : World} {T X Y T1 T' : Nat → Prop} {gp gu h h' : Nat} {M M' : List KV}
theorem UtSt.c0 (hs : UtSt W T X gp gu M wr) (hc : Chg Non wr w') : UtSt W T X gp gu M w' := by
 obtain ⟨T1, h, h1, h2, h3, h4⟩ := hs
 exact ⟨T1, h, h1.c0 hc, h2, fun b hb => (h3 b hb).up hc.size, h4.trans0 hc⟩
theorem UtSt.step (hs1 : ∀ b, T1 b → Ext T W wr b) (hc1 : Chg (fun b => T b ∨ b = gu ∨ X b) W wr) (hT : Tree w' T' gp 2 ⟨#[116, 47]⟩ (1 + M.length * 400 + 1 * 256 + 100) (1 + M.length * 64 + 1 * 64) gu h' M') (hh : h' ≤ h + 1) (hle : h ≤ M.length) (hlen : M'.length = M.length + 1) (hs : ∀ b, T' b → Ext T1 wr w' b) (hc : Chg (fun b => T1 b ∨ b = gu) wr w') : UtSt W T X gp gu M' w' := by
 have n1 := hc1.size
 have n2 := hc.size
 refine ⟨T', h', hT.le (by omega) (by omega), by omega, fun b hb => ?_, hc1.trans hc fun b hb h => ?_⟩
 ·rcases hs b hb with h | h
  ·exact (hs1 b h).up n2
  ·exact .inr ⟨by omega, h.2⟩
 ·rcases h with h | h
  ·rcases hs1 b h with h | h
   ·exact .inl h
   ·omega
  ·exact .inr (.inl h)
/-- a stretch behind a stretch -/
theorem UtSt.join (hs1 : ∀ b, T1 b → Ext T W W2 b) (hc1 : Chg (fun b => T b ∨ b = gu ∨ X b) W W2) (hs : UtSt W2 T1 Y gp gu M wr) (hY : ∀ b, Y b → W.heap.size ≤ b) : UtSt W T X gp gu M wr := by
 obtain ⟨T', h, h1, h2, h3, h4⟩ := hs
 have n1 := hc1.size
 have n2 := h4.size
 refine ⟨T', h, h1, h2, fun b hb => ?_, hc1.trans h4 fun b hb h => ?_⟩
 ·rcases h3 b hb with h | h
  ·exact (hs1 b h).up n2
  ·exact .inr ⟨by omega, h.2⟩
 ·rcases h with h | h | h
  ·rcases hs1 b h with h | h
   ·exact .inl h
   ·omega
  ·exact .inr (.inl h)
  ·have := hY b h; omega
end
theorem RdW.one {w : World} {F : Nat → Prop} {K V : Value} {k v : List UInt8} (h : RdB w F K k) (h' : RdB w F V v) (t : TypeId) :
  RdW (w.alloc (.cells #[K, V, .bool false] t)) (fun b => F b ∨ b = w.heap.size) (.slice (some ⟨w.heap.size, 0, Option.none⟩) 1 1) [⟨k, v, false⟩] := by
 refine ⟨[(K, V)], rfl, ⟨rfl, some ⟨w.heap.size, 0, Option.none⟩, 1, rfl, Nat.le_refl _, by simp [maxLen], fun _ => ⟨_, rfl, .inr rfl, fun j x hu => ?_⟩⟩, fun i x y hx hy => ?_⟩
 ·rw [add_none, Nat.zero_add, (Blk.new w t #[K, V, .bool false]).cell]
  simpa using hu
 ·match i, hx, hy with
  | 0, hx, hy =>
   simp at hx hy
   subst hx; subst hy
   exact ⟨(h.al _).mono fun k hk => .inl hk, (h'.al _).mono fun k hk => .inl hk⟩
  | i + 1, hx, hy => simp at hx
theorem Rdr.cut {w : World} {F F' : Nat → Prop} {g a : Nat} {e : Int} {l : List UInt8} (h : Rdr w F g l a e) (hF : ∀ b, F b → b < w.heap.size → F' b) : Rdr w F' g l a e := by
 obtain ⟨h1, u, h2, h3⟩ := h
 exact ⟨h1, u, h2, h3.mono fun b hb => ⟨hF b hb.1 hb.2.1, hb.2⟩⟩
theorem appR_one {M : List KV} {k v : List UInt8} (hk : k.length ≤ 64) (hv : v.length ≤ 128) : appR M [⟨k, v, false⟩] = (kvPut k v M, 0) := by
 rw [appR_ok fun x hx => by
  have := List.mem_singleton.1 hx
  subst this
  simp [bigW]; omega]
 rfl
/-- how far a reader has come -/
def posOf (w : World) (g : Nat) : Nat := match w.cell? ⟨g, 1, none⟩ with
 | some v => (intOf v).toNat
 | none => 0
theorem Rdr.pos {w : World} {F : Nat → Prop} {g a : Nat} {e : Int} {l : List UInt8} (h : Rdr w F g l a e) : posOf w g = a ∧ a ≤ l.length := by
 obtain ⟨h1, u, h2, h3⟩ := h
 have k1 : w.cell? ⟨g, 1, none⟩ = some (.int .i64 (a : Int)) := h2.cell 1
 refine ⟨?_, h1⟩
 unfold posOf
 rw [k1]
 simp [intOf]
end Go.Proofs.YtliimeoblffigaaGreat

