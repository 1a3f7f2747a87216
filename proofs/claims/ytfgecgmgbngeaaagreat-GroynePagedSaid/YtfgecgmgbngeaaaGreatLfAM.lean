/- Leaves as pages of bytes. Plain theorems. -/
import Derived.Test.YtfgecgmgbngeaaaGreatPgPlM
import Derived.Test.YtfgecgmgbngeaaaGreatPkM
import Derived.Test.YtfgecgmgbngeaaaGreatPackA
import Derived.Test.YtfgecgmgbngeaaaGreatSlc
import Derived.Test.YtfgecgmgbngeaaaGreatBBM
import Derived.Test.YtfgecgmgbngeaaaGreatWtr
import Derived.BigQuiet
import Derived.Deep.Cut
import Derived.Deep.RegionHeld3
import Derived.Test.YtfgecgmgbngeaaaGreatOrdX
import Derived.Deep.CutRange
set_option maxRecDepth 100000
namespace Go.Proofs.YtfgecgmgbngeaaaGreat
set_option linter.unusedVariables false

/-- a key and its value -/
abbrev KV := List UInt8 × List UInt8
def ksL (l : List KV) : List (List UInt8) := l.map (·.1)
def vsL (l : List KV) : List (List UInt8) := l.map (·.2)
def hi8 (n : Nat) : UInt8 := UInt8.ofNat (n / 256)
def lo8 (n : Nat) : UInt8 := UInt8.ofNat n
def encP (p : KV) : List UInt8 := UInt8.ofNat p.1.length :: (p.1 ++ (hi8 p.2.length :: lo8 p.2.length :: p.2))
def encKV (l : List KV) : List UInt8 := 1 :: hi8 l.length :: lo8 l.length :: l.flatMap encP
def sizeP (p : KV) : Nat := 3 + p.1.length + p.2.length
def sizeKV (l : List KV) : Nat := 3 + (l.map sizeP).sum
theorem encP_length (p : KV) : (encP p).length = sizeP p := by
  simp only [encP, sizeP, List.length_cons, List.length_append]; omega
theorem flat_length (l : List KV) : (l.flatMap encP).length = (l.map sizeP).sum := by
  induction l with
  | nil => rfl
  | cons p l ih => rw [List.flatMap_cons, List.length_append, ih, encP_length, List.map_cons, List.sum_cons]
theorem encKV_length (l : List KV) : (encKV l).length = sizeKV l := by
  simp only [encKV, sizeKV, List.length_cons, flat_length]; omega
/-- a leaf's page -/
def pageKV (l : List KV) : List UInt8 := encKV l ++ List.replicate (512 - sizeKV l) 0
theorem pageKV_length {l : List KV} (h : sizeKV l ≤ 512) : (pageKV l).length = 512 := by
  rw [pageKV, List.length_append, encKV_length, repl_length]; omega
/-- keys rise, nothing is too long -/
structure GoodKV (l : List KV) : Prop where
  len : ∀ p ∈ l, p.1.length ≤ 64 ∧ p.2.length ≤ 128
  up : ∀ (i : Nat) (p q : KV), l[i]? = some p → l[i + 1]? = some q → cmpB p.1 q.1 < 0
theorem GoodKV.nil_ : GoodKV [] := ⟨fun p h => by simp at h, fun i p q h => by simp at h⟩
theorem GoodKV.take {l : List KV} (h : GoodKV l) (k : Nat) : GoodKV (l.take k) :=
  ⟨fun p hp => h.len p (List.mem_of_mem_take hp), fun i p q hp hq => by
    rw [List.getElem?_take] at hp hq
    split at hp
    · split at hq
      · exact h.up i p q hp hq
      · cases hq
    · cases hp⟩
theorem GoodKV.drop {l : List KV} (h : GoodKV l) (k : Nat) : GoodKV (l.drop k) :=
  ⟨fun p hp => h.len p (List.mem_of_mem_drop hp), fun i p q hp hq => by
    rw [List.getElem?_drop] at hp hq
    exact h.up (k + i) p q hp (by rw [← hq]; rfl)⟩
theorem ksL_length (l : List KV) : (ksL l).length = l.length := List.length_map ..
theorem vsL_length (l : List KV) : (vsL l).length = l.length := List.length_map ..
theorem ksL_take (l : List KV) (k : Nat) : ksL (l.take k) = (ksL l).take k := List.map_take ..
theorem vsL_take (l : List KV) (k : Nat) : vsL (l.take k) = (vsL l).take k := List.map_take ..
theorem ksL_drop (l : List KV) (k : Nat) : ksL (l.drop k) = (ksL l).drop k := List.map_drop ..
theorem vsL_drop (l : List KV) (k : Nat) : vsL (l.drop k) = (vsL l).drop k := List.map_drop ..
theorem ksL_app (l m : List KV) : ksL (l ++ m) = ksL l ++ ksL m := List.map_append ..
theorem vsL_app (l m : List KV) : vsL (l ++ m) = vsL l ++ vsL m := List.map_append ..
/-- a leaf that does not fit has three keys at the least -/
theorem big_three {l : List KV} (h : GoodKV l) (hs : 512 < sizeKV l) : 3 ≤ l.length := by
  match l, h, hs with
  | [], _, hs => simp [sizeKV] at hs
  | [p], h, hs =>
    have h1 := h.len p (by simp)
    simp only [sizeKV, sizeP, List.map_cons, List.map_nil, List.sum_cons, List.sum_nil] at hs
    omega
  | [p, q], h, hs =>
    have h1 := h.len p (by simp)
    have h2 := h.len q (by simp)
    simp only [sizeKV, sizeP, List.map_cons, List.map_nil, List.sum_cons, List.sum_nil] at hs
    omega
  | _ :: _ :: _ :: _, _, _ => simp
theorem size_le {l : List KV} (h : GoodKV l) : sizeKV l ≤ 3 + 195 * l.length := by
  have : ∀ m : List KV, (∀ p ∈ m, p.1.length ≤ 64 ∧ p.2.length ≤ 128) → (m.map sizeP).sum ≤ 195 * m.length := fun m => by
    induction m with
    | nil => intro _; simp
    | cons p m ih =>
      intro hm
      have h1 := hm p (by simp)
      have h2 := ih fun q hq => hm q (by simp [hq])
      simp only [List.map_cons, List.sum_cons, List.length_cons, sizeP] at h2 ⊢
      omega
  have := this l h.len
  unfold sizeKV
  omega
theorem hilo (n : Nat) (h : n < 65536) : (hi8 n).toNat * 256 + (lo8 n).toNat = n := by
  simp only [hi8, lo8, UInt8.toNat_ofNat']
  omega
theorem toNat8 {n : Nat} (h : n < 256) : (UInt8.ofNat n).toNat = n := by
  rw [UInt8.toNat_ofNat']
  omega
end Go.Proofs.YtfgecgmgbngeaaaGreat

set_option maxRecDepth 100000
namespace Go.Proofs.YtfgecgmgbngeaaaGreat
open Go.RowKit
set_option linter.unusedVariables false
set_option linter.unusedSimpArgs false

def sK (ks : List (List UInt8)) : Nat := (ks.map fun k => 1 + k.length).sum
def sV (vs : List (List UInt8)) : Nat := (vs.map fun v => 2 + v.length).sum
theorem sK_step {ks : List (List UInt8)} {i : Nat} (h : i < ks.length) : sK (ks.take (i + 1)) = sK (ks.take i) + (1 + ks[i].length) := by
  rw [List.take_succ_eq_append_getElem h, sK, List.map_append, List.sum_append]; simp [sK]
theorem sV_step {vs : List (List UInt8)} {i : Nat} (h : i < vs.length) : sV (vs.take (i + 1)) = sV (vs.take i) + (2 + vs[i].length) := by
  rw [List.take_succ_eq_append_getElem h, sV, List.map_append, List.sum_append]; simp [sV]
theorem sK_le (ks : List (List UInt8)) (i : Nat) : sK (ks.take i) ≤ sK ks := by
  conv => rhs; rw [← List.take_append_drop i ks]
  rw [sK, sK, List.map_append, List.sum_append]; omega
theorem sV_le (vs : List (List UInt8)) (i : Nat) : sV (vs.take i) ≤ sV vs := by
  conv => rhs; rw [← List.take_append_drop i vs]
  rw [sV, sV, List.map_append, List.sum_append]; omega
theorem size_split (l : List KV) : sizeKV l = 3 + sK (ksL l) + sV (vsL l) := by
  unfold sizeKV sK sV ksL vsL
  induction l with
  | nil => rfl
  | cons p l ih =>
    simp only [List.map_cons, List.sum_cons, sizeP] at ih ⊢
    omega
theorem hmfL : ∀ (fn : Fn) (first cap : Array Value) (w : World), (Instr.makeFunc fn first cap).run Tryz.prog w = .ok (.func fn first cap) w := fun _ _ _ _ => rfl

set_option maxHeartbeats 4000000 in
theorem lfSize {w : World} {F G : Nat → Prop} {KA VA NA : Option Addr} {kn kc vn vc nc : Nat} {ks vs : List (List UInt8)} (hk : RdBB w F (.slice KA kn kc) ks) (hv : RdBB w G (.slice VA vn vc) vs) (hsz : 3 + sK ks + sV vs ≤ 1000000000000) :
    Calls Tryz.prog 21 #[.agg #[.bool true, .slice KA kn kc, .slice VA vn vc, .slice NA 0 nc]] w fun e w' => e = .returned (.int .i64 ((3 + sK ks + sV vs : Nat) : Int)) ∧ Chg Non w w' := by
  obtain ⟨_, _, ek, hkc, hkm⟩ := hk.shape
  injection ek with e1 e2 e3
  subst e1; subst e2; subst e3
  obtain ⟨_, _, ev, hvc, hvm⟩ := hv.shape
  injection ev with e1 e2 e3
  subst e1; subst e2; subst e3
  unfold maxLen at hkm hvm
  have hb := Blk.new w 65 #[.bool true, .slice KA ks.length kc, .slice VA vs.length vc, .slice NA 0 nc]
  have hcb := (Chg.refl Non w).alloc (.cells #[.bool true, .slice KA ks.length kc, .slice VA vs.length vc, .slice NA 0 nc] 65)
  go_enter Tryz.func21, Tryz.ntmps21
  go_upto_region 1 with fail
  obtain ⟨b, hbe⟩ : ∃ b, b = w.heap.size := ⟨_, rfl⟩
  rw [← hbe] at hb ⊢
  generalize World.alloc _ _ = w1 at hb hcb ⊢
  clear hbe
  have b0 : w1.cell? ⟨b, 0, none⟩ = some (.bool true) := hb.cell 0
  have b1 : w1.cell? ⟨b, 1, none⟩ = some (.slice KA ks.length kc) := hb.cell 1
  have b2 : w1.cell? ⟨b, 2, none⟩ = some (.slice VA vs.length vc) := hb.cell 2
  have HK := hide (hk.c0 hcb)
  have HV := hide (hv.c0 hcb)
  have HC := hide hcb
  clear hb hcb hk hv
  go_wp2_with fail
  go_loopw [3, 11] (fun sv iv wr => ∃ i : Nat, i ≤ ks.length ∧ iv = .int .i64 (i : Int) ∧ sv = .int .i64 ((3 + sK (ks.take i) : Nat) : Int) ∧ wr = w1) (fun _ iv _ => ks.length - (intOf iv).toNat)
  case atStart => exact ⟨0, Nat.zero_le _, rfl, rfl, rfl⟩
  case round =>
    obtain ⟨i, hi, rfl, rfl, hw⟩ := hrel
    subst wr
    by_cases hil : i < ks.length
    · obtain ⟨ad, x, rfl, _, hx, hrx⟩ := HK.out.at_ hil
      have hlen := fun w' ty => run_len8 hrx w' ty
      have hst := sK_step hil
      have hle := sK_le ks (i + 1)
      obtain ⟨s0, hs0⟩ : ∃ s0, s0 = 3 + sK (ks.take i) := ⟨_, rfl⟩
      obtain ⟨L, hL⟩ : ∃ L, L = ks[i].length := ⟨_, rfl⟩
      obtain ⟨s1, hs1⟩ : ∃ s1, s1 = 3 + sK (ks.take (i + 1)) := ⟨_, rfl⟩
      rw [← hL] at hlen hst
      rw [← hs0]
      have hw1 : IntKind.i64.wrap ((1 : Int) + (L : Int)) = ((1 + L : Nat) : Int) := by rw [IntWalk.i64_in _ (by omega)]; omega
      have hw2 : IntKind.i64.wrap ((s0 : Int) + ((1 + L : Nat) : Int)) = (s1 : Int) := by rw [IntWalk.i64_in _ (by omega)]; omega
      obtain ⟨L1, hL1⟩ : ∃ L1, L1 = 1 + L := ⟨_, rfl⟩
      rw [← hL1] at hw1 hw2
      have HS := hide hs1
      have HIL := hide hil
      obtain ⟨xA, xc, rfl, _, _⟩ := hrx.shape
      clear hst hle hs0 hL hs1 hL1 hrx
      go_wp2_with fail
      go_roundw
      case rel => exact ⟨i + 1, HIL.out, by go_num, by rw [HS.out]; exact ⟨rfl, trivial⟩⟩
      case measure => (have := HIL.out; simp [intOf]; omega)
    · have hik : i = ks.length := by omega
      subst hik
      rw [List.take_length]
      obtain ⟨s0, hs0⟩ : ∃ s0, s0 = 3 + sK ks := ⟨_, rfl⟩
      rw [← hs0]
      have HS0 := hide hs0
      clear hs0 hi
      go_wp2_with fail
      go_loopw [3, 33] (fun sv iv wr => ∃ i : Nat, i ≤ vs.length ∧ iv = .int .i64 (i : Int) ∧ sv = .int .i64 ((s0 + sV (vs.take i) : Nat) : Int) ∧ wr = w1) (fun _ iv _ => vs.length - (intOf iv).toNat)
      case atStart => exact ⟨0, Nat.zero_le _, rfl, rfl, rfl⟩
      case round =>
        obtain ⟨i, hi, rfl, rfl, hw⟩ := hrel
        subst wr
        by_cases hil : i < vs.length
        · obtain ⟨ad, x, rfl, _, hx, hrx⟩ := HV.out.at_ hil
          have hlen := fun w' ty => run_len8 hrx w' ty
          have hst := sV_step hil
          have hle := sV_le vs (i + 1)
          have hs00 := HS0.out
          obtain ⟨s2, hs2⟩ : ∃ s2, s2 = s0 + sV (vs.take i) := ⟨_, rfl⟩
          obtain ⟨L, hL⟩ : ∃ L, L = vs[i].length := ⟨_, rfl⟩
          obtain ⟨s1, hs1⟩ : ∃ s1, s1 = s0 + sV (vs.take (i + 1)) := ⟨_, rfl⟩
          rw [← hL] at hlen hst
          rw [← hs2]
          have hw1 : IntKind.i64.wrap ((2 : Int) + (L : Int)) = ((2 + L : Nat) : Int) := by rw [IntWalk.i64_in _ (by omega)]; omega
          have hw2 : IntKind.i64.wrap ((s2 : Int) + ((2 + L : Nat) : Int)) = (s1 : Int) := by rw [IntWalk.i64_in _ (by omega)]; omega
          obtain ⟨L1, hL1⟩ : ∃ L1, L1 = 2 + L := ⟨_, rfl⟩
          rw [← hL1] at hw1 hw2
          have HS := hide hs1
          have HIL := hide hil
          obtain ⟨xA, xc, rfl, _, _⟩ := hrx.shape
          clear hst hle hs2 hL hs1 hL1 hrx hs00
          go_wp2_with fail
          go_roundw
          case rel => exact ⟨i + 1, HIL.out, by go_num, by rw [HS.out]; exact ⟨rfl, trivial⟩⟩
          case measure => (have := HIL.out; simp [intOf]; omega)
        · have hik : i = vs.length := by omega
          subst hik
          rw [List.take_length]
          obtain ⟨s2, hs2⟩ : ∃ s2, s2 = s0 + sV vs := ⟨_, rfl⟩
          rw [← hs2]
          have HS2 := hide (show s2 = 3 + sK ks + sV vs by rw [hs2, HS0.out])
          clear hs2 hi
          go_wp2_with fail
          go_ret
          exact ⟨by rw [HS2.out]; rfl, HC.out⟩

theorem lfTwo {w : World} {n : Nat} (hn : n < 65536) :
    Calls Tryz.prog 50 #[.int .i64 (n : Int)] w fun e w' => ∃ u, e = .returned u ∧ OwnB w' w.heap.size u [hi8 n, lo8 n] ∧ Chg Non w w' := by
  have h1 : ((hi8 n).toNat : Int) = (n : Int) / 256 := by simp only [hi8, UInt8.toNat_ofNat']; omega
  have h2 : ((lo8 n).toNat : Int) = (n : Int) % 256 := by simp only [lo8, UInt8.toNat_ofNat']; omega
  have hw1 : IntKind.u8.wrap ((n : Int) / 256) = (n : Int) / 256 := by
    show ((n : Int) / 256) % 256 = _
    omega
  have hw2 : IntKind.u8.wrap (n : Int) = (n : Int) % 256 := rfl
  go_enter Tryz.func50, Tryz.ntmps50
  go_wp2_with fail
  go_ret
  refine ⟨_, rfl, ?_, (Chg.refl Non w).alloc _⟩
  have h := World.ownsRow_lit (size := 1) w #[.int .u8 ((n : Int) / 256), .int .u8 ((n : Int) % 256)] 2 (e := 5) (Nat.le_refl _) (by simp [maxLen]) rfl
  have e : (#[Value.int .u8 ((n : Int) / 256), .int .u8 ((n : Int) % 256)] : Array Value).toList = bvs [hi8 n, lo8 n] := by
    rw [← h1, ← h2]; rfl
  rw [e] at h
  exact h
/-- no element is longer than m: slices.IndexFunc finds none -/
theorem idxLong {w : World} {F : Nat → Prop} {v : Value} {ll : List (List UInt8)} {gb m : Nat} (hr : RdBB w F v ll) (hc : w.cell? ⟨gb, 0, none⟩ = some (.int .i64 (m : Int))) (hm : ∀ x ∈ ll, x.length ≤ m) :
    Calls Tryz.prog 110 #[v, .func (.func 85) #[] #[.pointer (some ⟨gb, 0, none⟩)]] w fun e w' => e = .returned (.int .i64 (-1)) ∧ w' = w := by
  obtain ⟨A, c, rfl, hcc, hcm⟩ := hr.shape
  unfold maxLen at hcm
  have HR := hide hr
  have HM := hide hm
  clear hr hm
  go_enter Tryz.func110, Tryz.ntmps110
  go_wp2_with fail
  go_loopw [8] (fun iv wr => ∃ i : Nat, i ≤ ll.length ∧ iv = .int .i64 (i : Int) ∧ wr = w) (fun iv _ => ll.length - (intOf iv).toNat)
  case atStart => exact ⟨0, Nat.zero_le _, rfl, rfl⟩
  case round =>
    obtain ⟨i, hi, rfl, hw⟩ := hrel
    subst wr
    by_cases hil : i < ll.length
    · obtain ⟨ad, x, rfl, _, hx, hrx⟩ := HR.out.at_ hil
      have hxm := HM.out _ (List.getElem_mem hil)
      have hlen := fun w' ty => run_len8 hrx w' ty
      obtain ⟨L, hL⟩ : ∃ L, L = ll[i].length := ⟨_, rfl⟩
      rw [← hL] at hlen hxm
      have hd : decide ((m : Int) < (L : Int)) = false := decide_eq_false (by omega)
      have hd2 : ¬ m < L := by omega
      have hcall : Calls Tryz.prog 85 #[x, .pointer (some ⟨gb, 0, none⟩)] w fun e w' => e = .returned (.bool false) ∧ w' = w := by
        obtain ⟨xA, xc, rfl, _, _⟩ := hrx.shape
        clear hL hrx hx
        go_enter Tryz.func85, Tryz.ntmps85
        go_wp2_with fail
        go_ret
        exact ⟨rfl, rfl⟩
      have HIL := hide hil
      clear hlen hL hrx hd hd2 hxm
      go_wp2_with fail
      refine hcall.mono ?_
      rintro e w1 ⟨rfl, hw1⟩
      subst w1
      clear hcall
      go_wp2_with fail
      go_roundw
      case rel => exact ⟨i + 1, HIL.out, by go_num, trivial⟩
      case measure => (have := HIL.out; simp [intOf]; omega)
    · have hik : i = ll.length := by omega
      subst hik
      clear hi
      go_wp2_with fail
      go_ret
      exact ⟨rfl, rfl⟩
theorem conLong {w : World} {F : Nat → Prop} {v : Value} {ll : List (List UInt8)} {gb m : Nat} (hr : RdBB w F v ll) (hc : w.cell? ⟨gb, 0, none⟩ = some (.int .i64 (m : Int))) (hm : ∀ x ∈ ll, x.length ≤ m) :
    Calls Tryz.prog 86 #[v, .func (.func 85) #[] #[.pointer (some ⟨gb, 0, none⟩)]] w fun e w' => e = .returned (.bool false) ∧ ∃ k, w' = w.drewN k := by
  have hi := idxLong hr hc hm
  obtain ⟨A, c, rfl, _, _⟩ := hr.shape
  clear hr hc hm
  go_enter Tryz.func86, Tryz.ntmps86
  go_wp2_with fail
  refine hi.mono ?_
  rintro e w1 ⟨rfl, hw⟩
  subst w1
  clear hi
  go_wp2_with fail
  go_ret
  exact ⟨rfl, 0, rfl⟩
/-- noughts alone: slices.IndexFunc finds none -/
theorem idxZero {w : World} {F : Nat → Prop} {v : Value} {l : List UInt8} (hr : RdB w F v l) (hz : ∀ x ∈ l, x = 0) :
    Calls Tryz.prog 73 #[v, .func (.func 74) #[] #[]] w fun e w' => e = .returned (.bool false) ∧ w' = w := by
  have hi : Calls Tryz.prog 104 #[v, .func (.func 74) #[] #[]] w fun e w' => e = .returned (.int .i64 (-1)) ∧ w' = w := by
    obtain ⟨A, c, rfl, hcc, hcm⟩ := hr.shape
    unfold maxLen at hcm
    have HR := hide hr
    have HZ := hide hz
    have hcall : Calls Tryz.prog 74 #[.int .u8 0] w fun e w' => e = .returned (.bool false) ∧ w' = w := by
      go_enter Tryz.func74, Tryz.ntmps74
      go_wp2_with fail
      go_ret
      exact ⟨rfl, rfl⟩
    clear hr hz
    go_enter Tryz.func104, Tryz.ntmps104
    go_wp2_with fail
    go_loopw [8] (fun iv wr => ∃ i : Nat, i ≤ l.length ∧ iv = .int .i64 (i : Int) ∧ wr = w) (fun iv _ => l.length - (intOf iv).toNat)
    case atStart => exact ⟨0, Nat.zero_le _, rfl, rfl⟩
    case round =>
      obtain ⟨i, hi, rfl, hw⟩ := hrel
      subst wr
      by_cases hil : i < l.length
      · obtain ⟨ad, rfl, _, hx⟩ := HR.out.at_ hil
        have hx0 : w.cell? (ad.add i) = some (.int .u8 0) := by rw [hx, HZ.out _ (List.getElem_mem hil)]; rfl
        have HIL := hide hil
        clear hx
        go_wp2_with fail
        refine hcall.mono ?_
        rintro e w1 ⟨rfl, hw1⟩
        subst w1
        clear hcall
        go_wp2_with fail
        go_roundw
        case rel => exact ⟨i + 1, HIL.out, by go_num, trivial⟩
        case measure => (have := HIL.out; simp [intOf]; omega)
      · have hik : i = l.length := by omega
        subst hik
        clear hi
        go_wp2_with fail
        go_ret
        exact ⟨rfl, rfl⟩
  obtain ⟨A, c, rfl, _, _⟩ := hr.shape
  clear hr hz
  go_enter Tryz.func73, Tryz.ntmps73
  go_wp2_with fail
  refine hi.mono ?_
  rintro e w1 ⟨rfl, hw⟩
  subst w1
  clear hi
  go_wp2_with fail
  go_ret
  exact ⟨rfl, rfl⟩
end Go.Proofs.YtfgecgmgbngeaaaGreat

set_option maxRecDepth 100000
namespace Go.Proofs.YtfgecgmgbngeaaaGreat
open Go.RowKit
set_option linter.unusedVariables false
set_option linter.unusedSimpArgs false

/-- keys that rise -/
def UpK (ks : List (List UInt8)) : Prop := ∀ (i : Nat) (p q : List UInt8), ks[i]? = some p → ks[i + 1]? = some q → cmpB p q < 0
theorem GoodKV.upK {l : List KV} (h : GoodKV l) : UpK (ksL l) := fun i p q hp hq => by
  unfold ksL at hp hq
  rw [List.getElem?_map] at hp hq
  obtain ⟨a, ha, rfl⟩ := Option.map_eq_some_iff.1 hp
  obtain ⟨b, hb, rfl⟩ := Option.map_eq_some_iff.1 hq
  exact h.up i a b ha hb
set_option maxHeartbeats 4000000 in
theorem lfFormed {w : World} {F G : Nat → Prop} {KA VA NA : Option Addr} {kn kc vn vc nc : Nat} {ks vs : List (List UInt8)} (hk : RdBB w F (.slice KA kn kc) ks) (hv : RdBB w G (.slice VA vn vc) vs) (hn : vs.length = ks.length) (hu : UpK ks) :
    Calls Tryz.prog 87 #[.agg #[.bool true, .slice KA kn kc, .slice VA vn vc, .slice NA 0 nc]] w fun e w' => e = .returned (.bool true) ∧ Chg Non w w' := by
  obtain ⟨_, _, ek, hkc, hkm⟩ := hk.shape
  injection ek with e1 e2 e3
  subst e1; subst e2; subst e3
  obtain ⟨_, _, ev, hvc, hvm⟩ := hv.shape
  injection ev with e1 e2 e3
  subst e1; subst e2; subst e3
  unfold maxLen at hkm hvm
  rw [hn]
  have hb := Blk.new w 65 #[.bool true, .slice KA ks.length kc, .slice VA ks.length vc, .slice NA 0 nc]
  have hcb := (Chg.refl Non w).alloc (.cells #[.bool true, .slice KA ks.length kc, .slice VA ks.length vc, .slice NA 0 nc] 65)
  clear hv hvc hvm hn
  go_enter Tryz.func87, Tryz.ntmps87
  go_upto_region 1 with fail
  obtain ⟨b, hbe⟩ : ∃ b, b = w.heap.size := ⟨_, rfl⟩
  rw [← hbe] at hb ⊢
  generalize World.alloc _ _ = w1 at hb hcb ⊢
  clear hbe
  have HK := hide (hk.c0 hcb)
  have HB := hide hb
  have HC := hide hcb
  have HU := hide hu
  clear hb hcb hk hu
  go_wp2_with fail
  go_loopw [3] (fun iv wr => ∃ i : Nat, 1 ≤ i ∧ (i ≤ ks.length ∨ i = 1) ∧ iv = .int .i64 (i : Int) ∧ Chg Non w1 wr) (fun iv _ => ks.length - (intOf iv).toNat)
  case atStart => exact ⟨1, Nat.le_refl _, .inr rfl, rfl, Chg.refl _ _⟩
  case round =>
    obtain ⟨i, h1i, hi, rfl, hcq⟩ := hrel
    have hb := HB.out.c0 hcq
    have b0 : wr.cell? ⟨b, 0, none⟩ = some (.bool true) := hb.cell 0
    have b1 : wr.cell? ⟨b, 1, none⟩ = some (.slice KA ks.length kc) := hb.cell 1
    have b2 : wr.cell? ⟨b, 2, none⟩ = some (.slice VA ks.length vc) := hb.cell 2
    have b3 : wr.cell? ⟨b, 3, none⟩ = some (.slice NA 0 nc) := hb.cell 3
    by_cases hil : i < ks.length
    · obtain ⟨j, hj⟩ : ∃ j, i = j + 1 := ⟨i - 1, by omega⟩
      obtain ⟨ad, x, eA, _, hx, hrx⟩ := (HK.out.c0 hcq).at_ (k := j) (by omega)
      subst eA
      obtain ⟨ad2, y, eA, _, hy, hry⟩ := (HK.out.c0 hcq).at_ hil
      injection eA with eA
      subst eA
      have hlt := HU.out j (ks[j]'(by omega)) ks[i] (List.getElem?_eq_getElem (by omega)) (by rw [← hj]; exact List.getElem?_eq_getElem hil)
      obtain ⟨xs, hxs⟩ : ∃ xs, xs = ks[j]'(by omega) := ⟨_, rfl⟩
      obtain ⟨ys, hys⟩ : ∃ ys, ys = ks[i] := ⟨_, rfl⟩
      rw [← hxs] at hlt hrx
      rw [← hys] at hlt hry
      obtain ⟨cv, hcv⟩ : ∃ cv, cv = cmpB xs ys := ⟨_, rfl⟩
      have hcmp := fun n => packCompare (hrx.dn n) (hry.dn n)
      rw [← hcv] at hcmp hlt
      have hd : decide ((0 : Int) ≤ cv) = false := decide_eq_false (by omega)
      have hd2 : ¬ 0 ≤ cv := by omega
      have hw1 : IntKind.i64.wrap ((i : Int) - 1) = (j : Int) := by rw [IntWalk.i64_in _ (by omega)]; omega
      have hjl : j < ks.length := by omega
      have HIL := hide hil
      have HI1 := hide h1i
      clear hxs hys hcv hlt hrx hry hj hi h1i b0 b2 b3 hb
      go_upto_region 4 with fail
      go_quiet ((go_at_call 111; exact Calls.quiet_of (hcmp _)))
      clear hw1 hcmp hx hy
      go_wp2_with fail
      go_roundw
      case rel => exact ⟨i + 1, by omega, .inl HIL.out, by go_num, hcq.drewN _⟩
      case measure => (have := HIL.out; simp [intOf]; omega)
    · have HH := hide hi
      have HQ := hide (HC.out.trans0 hcq)
      clear hi hb
      go_wp2_with fail
      go_ret
      exact ⟨rfl, HQ.out⟩
theorem mkLong (w : World) (m : Int) : Calls Tryz.prog 84 #[.int .i64 m] w fun e w' => ∃ g, e = .returned (.func (.func 85) #[] #[.pointer (some ⟨g, 0, none⟩)]) ∧ Blk w' g 3 #[.int .i64 m] ∧ Chg Non w w' := by
  have hmf := hmfL
  go_enter Tryz.func84, Tryz.ntmps84
  go_wp2_with fail
  go_ret
  exact ⟨_, rfl, Blk.new .., (Chg.refl Non w).alloc _⟩
set_option maxHeartbeats 4000000 in
theorem lfCheck {w : World} {F G : Nat → Prop} {KA VA NA : Option Addr} {kn kc vn vc nc : Nat} {ks vs : List (List UInt8)} (hk : RdBB w F (.slice KA kn kc) ks) (hv : RdBB w G (.slice VA vn vc) vs) (hn : vs.length = ks.length) (hu : UpK ks) (h64 : ∀ x ∈ ks, x.length ≤ 64) (h128 : ∀ x ∈ vs, x.length ≤ 128) :
    Calls Tryz.prog 49 #[.agg #[.bool true, .slice KA kn kc, .slice VA vn vc, .slice NA 0 nc]] w fun e w' => e = .returned (.int .i64 0) ∧ Chg Non w w' := by
  have hb := Blk.new w 65 #[.bool true, .slice KA kn kc, .slice VA vn vc, .slice NA 0 nc]
  have hcb := (Chg.refl Non w).alloc (.cells #[.bool true, .slice KA kn kc, .slice VA vn vc, .slice NA 0 nc] 65)
  go_enter Tryz.func49, Tryz.ntmps49
  go_upto_region 2 with fail
  obtain ⟨b, hbe⟩ : ∃ b, b = w.heap.size := ⟨_, rfl⟩
  rw [← hbe] at hb ⊢
  generalize World.alloc _ _ = w1 at hb hcb ⊢
  clear hbe
  have HK := hide (hk.c0 hcb)
  have HV := hide (hv.c0 hcb)
  have HB := hide hb
  have HC := hide hcb
  have hlong := fun (wx : World) => mkLong wx 64
  have hlong2 := fun (wx : World) => mkLong wx 128
  clear hb hcb hk hv
  go_cut [15] from 4 to 15 (fun v wx => v = .bool false ∧ Chg Non w1 wx)
  case first =>
    refine wp_region_T (Chg Non w1) 99 (by kernel_rfl) ?_
    have HS0 := hide ((Chg.refl Non w1).drew)
    generalize World.drew w1 = x0 at HS0 ⊢
    refine AnyT.take (i := 0) (v := ?_) rfl (by kernel_rfl) (by kernel_rfl) (fun _ _ _ h => h) (by kernel_rfl) (by kernel_rfl) (Or.inl ⟨by rfl, ?_⟩) HS0.out ?_
    rotate_left
    · (intro w9 h9; go_simp; try with_reducible rfl)
    try simp only [List.getElem_toArray, List.getElem_cons_succ, List.getElem_cons_zero, Act.put, List.setIfInBounds_toArray, List.set_cons_zero, List.set_cons_succ]
    refine AnyT.take (i := 1) (v := ?_) rfl (by kernel_rfl) (by kernel_rfl) (fun _ _ _ h => h) (by kernel_rfl) (by kernel_rfl) (Or.inl ⟨by rfl, ?_⟩) HS0.out ?_
    rotate_left
    · (intro w9 h9; have y1 : w9.cell? ⟨b, 1, none⟩ = some (.slice KA kn kc) := (HB.out.c0 h9).cell 1; go_simp; try with_reducible rfl)
    try simp only [List.getElem_toArray, List.getElem_cons_succ, List.getElem_cons_zero, Act.put, List.setIfInBounds_toArray, List.set_cons_zero, List.set_cons_succ]
    refine AnyT.take (i := 2) (v := ?_) rfl (by kernel_rfl) (by kernel_rfl) (fun _ _ _ h => h) (by kernel_rfl) (by kernel_rfl) (Or.inl ⟨by rfl, ?_⟩) HS0.out ?_
    rotate_left
    · (intro w9 h9; go_simp; try with_reducible rfl)
    try simp only [List.getElem_toArray, List.getElem_cons_succ, List.getElem_cons_zero, Act.put, List.setIfInBounds_toArray, List.set_cons_zero, List.set_cons_succ]
    refine AnyT.one (i := 3) (by kernel_rfl) rfl (fun K hK => ?_)
    rw [if_pos (by rfl)]
    try simp only [List.getElem_toArray, List.getElem_cons_succ, List.getElem_cons_zero, Act.put, List.setIfInBounds_toArray, List.set_cons_zero, List.set_cons_succ]
    go_wp2_with (go_at_call 84; refine (hlong x0).mono ?_; rintro e x1 ⟨g1, rfl, hb1, hd1⟩)
    have HS1 := hide (HS0.out.trans0 hd1)
    refine hK.out _ _ (fun _ => HS1.out) ?_
    clear hK K
    try simp only [List.getElem_toArray, List.getElem_cons_succ, List.getElem_cons_zero, Act.put, List.setIfInBounds_toArray, List.set_cons_zero, List.set_cons_succ]
    refine AnyT.one (i := 4) (by kernel_rfl) rfl (fun K hK => ?_)
    rw [if_pos (by rfl)]
    try simp only [List.getElem_toArray, List.getElem_cons_succ, List.getElem_cons_zero, Act.put, List.setIfInBounds_toArray, List.set_cons_zero, List.set_cons_succ]
    have hcon2 := conLong (HK.out.c0 HS1.out) (hb1.cell 0) h64
    go_wp2_with (go_at_call 86; refine hcon2.mono ?_; rintro e x2 ⟨rfl, hx2⟩)
    have HS2 := hide (HS1.out.quiet hx2)
    clear hcon2 hx2
    refine hK.out _ _ (fun _ => HS2.out) ?_
    clear hK K
    try simp only [List.getElem_toArray, List.getElem_cons_succ, List.getElem_cons_zero, Act.put, List.setIfInBounds_toArray, List.set_cons_zero, List.set_cons_succ]
    refine AnyT.take (i := 5) (v := ?_) rfl (by kernel_rfl) (by kernel_rfl) (fun _ _ _ h => h) (by kernel_rfl) (by kernel_rfl) (Or.inl ⟨by rfl, ?_⟩) HS2.out ?_
    rotate_left
    · (intro w9 h9; go_simp; try with_reducible rfl)
    try simp only [List.getElem_toArray, List.getElem_cons_succ, List.getElem_cons_zero, Act.put, List.setIfInBounds_toArray, List.set_cons_zero, List.set_cons_succ]
    refine AnyT.take (i := 6) (v := ?_) rfl (by kernel_rfl) (by kernel_rfl) (fun _ _ _ h => h) (by kernel_rfl) (by kernel_rfl) (Or.inl ⟨by rfl, ?_⟩) HS2.out ?_
    rotate_left
    · (intro w9 h9; go_simp; try with_reducible rfl)
    try simp only [List.getElem_toArray, List.getElem_cons_succ, List.getElem_cons_zero, Act.put, List.setIfInBounds_toArray, List.set_cons_zero, List.set_cons_succ]
    refine AnyT.take (i := 7) (v := ?_) rfl (by kernel_rfl) (by kernel_rfl) (fun _ _ _ h => h) (by kernel_rfl) (by kernel_rfl) (Or.inl ⟨by rfl, ?_⟩) HS2.out ?_
    rotate_left
    · (intro w9 h9; have y1 : w9.cell? ⟨b, 2, none⟩ = some (.slice VA vn vc) := (HB.out.c0 h9).cell 2; go_simp; try with_reducible rfl)
    try simp only [List.getElem_toArray, List.getElem_cons_succ, List.getElem_cons_zero, Act.put, List.setIfInBounds_toArray, List.set_cons_zero, List.set_cons_succ]
    refine AnyT.take (i := 8) (v := ?_) rfl (by kernel_rfl) (by kernel_rfl) (fun _ _ _ h => h) (by kernel_rfl) (by kernel_rfl) (Or.inl ⟨by rfl, ?_⟩) HS2.out ?_
    rotate_left
    · (intro w9 h9; go_simp; try with_reducible rfl)
    try simp only [List.getElem_toArray, List.getElem_cons_succ, List.getElem_cons_zero, Act.put, List.setIfInBounds_toArray, List.set_cons_zero, List.set_cons_succ]
    refine AnyT.one (i := 9) (by kernel_rfl) rfl (fun K hK => ?_)
    rw [if_pos (by rfl)]
    try simp only [List.getElem_toArray, List.getElem_cons_succ, List.getElem_cons_zero, Act.put, List.setIfInBounds_toArray, List.set_cons_zero, List.set_cons_succ]
    go_wp2_with (go_at_call 84; refine (hlong2 x2).mono ?_; rintro e x3 ⟨g3, rfl, hb3, hd3⟩)
    have HS3 := hide (HS2.out.trans0 hd3)
    refine hK.out _ _ (fun _ => HS3.out) ?_
    clear hK K
    try simp only [List.getElem_toArray, List.getElem_cons_succ, List.getElem_cons_zero, Act.put, List.setIfInBounds_toArray, List.set_cons_zero, List.set_cons_succ]
    refine AnyT.one (i := 10) (by kernel_rfl) rfl (fun K hK => ?_)
    rw [if_pos (by rfl)]
    try simp only [List.getElem_toArray, List.getElem_cons_succ, List.getElem_cons_zero, Act.put, List.setIfInBounds_toArray, List.set_cons_zero, List.set_cons_succ]
    have hcon4 := conLong (HV.out.c0 HS3.out) (hb3.cell 0) h128
    go_wp2_with (go_at_call 86; refine hcon4.mono ?_; rintro e x4 ⟨rfl, hx4⟩)
    have HS4 := hide (HS3.out.quiet hx4)
    clear hcon4 hx4
    refine hK.out _ _ (fun _ => HS4.out) ?_
    clear hK K
    try simp only [List.getElem_toArray, List.getElem_cons_succ, List.getElem_cons_zero, Act.put, List.setIfInBounds_toArray, List.set_cons_zero, List.set_cons_succ]
    refine AnyT.take (i := 11) (v := ?_) rfl (by kernel_rfl) (by kernel_rfl) (fun _ _ _ h => h) (by kernel_rfl) (by kernel_rfl) (Or.inl ⟨by rfl, ?_⟩) HS4.out ?_
    rotate_left
    · (intro w9 h9; go_simp; try with_reducible rfl)
    try simp only [List.getElem_toArray, List.getElem_cons_succ, List.getElem_cons_zero, Act.put, List.setIfInBounds_toArray, List.set_cons_zero, List.set_cons_succ]
    refine AnyT.nil (by kernel_rfl) ?_
    go_wp2_with fail
    go_meet
    exact ⟨rfl, HS4.out⟩
  case rest =>
    obtain ⟨rfl, hcw⟩ := hcut
    obtain ⟨w2, rfl⟩ : ∃ w', w' = wc := ⟨_, rfl⟩
    have hb2 := HB.out.c0 hcw
    have b0 : w2.cell? ⟨b, 0, none⟩ = some (.bool true) := hb2.cell 0
    have b1 : w2.cell? ⟨b, 1, none⟩ = some (.slice KA kn kc) := hb2.cell 1
    have b2 : w2.cell? ⟨b, 2, none⟩ = some (.slice VA vn vc) := hb2.cell 2
    have b3 : w2.cell? ⟨b, 3, none⟩ = some (.slice NA 0 nc) := hb2.cell 3
    have hf := lfFormed (NA := NA) (nc := nc) (HK.out.c0 hcw) (HV.out.c0 hcw) hn hu
    clear hb2 hlong hlong2
    go_wp2_with fail
    refine hf.mono ?_
    rintro e w3 ⟨rfl, hc3⟩
    clear hf
    go_wp2_with fail
    go_ret
    exact ⟨rfl, (HC.out.trans0 hcw).trans0 hc3⟩
end Go.Proofs.YtfgecgmgbngeaaaGreat
