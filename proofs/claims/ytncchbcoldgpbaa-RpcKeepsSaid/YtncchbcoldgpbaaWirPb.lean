/- rpc's wire, where it writes: a packet. -/
import Derived.Test.YtncchbcoldgpbaaWjM
open List (getElem_toArray getElem_cons_succ getElem_cons_zero setIfInBounds_toArray set_cons_zero set_cons_succ)
namespace Go.Proofs.Ytncchbcoldgpbaa
open Go.RowKit
set_option linter.unusedVariables false
set_option linter.unusedSimpArgs false

set_option maxHeartbeats 16000000 in
set_option maxRecDepth 100000 in
theorem wirPAsk {base g b : Nat} {v : Value} {l : List UInt8} {fr tt : Nat} {F : Nat → Prop} {w : World} {x : AskS} {vo vr : Value} {xs : List (Value × Value)}
    (h : Wir w base g v l) (hnb : ¬ WB g v b) (hF : ∀ k, F k → ¬ WB g v k) (hFl : ∀ k, F k → k < w.heap.size)
    (c0 : w.cell? ⟨b, 0, none⟩ = some (.int .i64 1)) (f0 : w.frozen? ⟨b, 0, none⟩ = false) (c1 : w.cell? ⟨b, 1, none⟩ = some (.int .u64 (fr : Int))) (u1 : U64 fr) (c2 : w.cell? ⟨b, 2, none⟩ = some (.int .u64 (tt : Int))) (u2 : U64 tt)
    (hA : AskAt w b 3 F x vo vr xs) (hO1 : ∀ k, vo.ownBlock = some k → F k)
    (hb : l.length + (askB x).length + 600 ≤ 140737488355328) :
    Calls Try.prog 26 #[.pointer (some ⟨g, 0, none⟩), .pointer (some ⟨b, 0, none⟩)] w fun e w' =>
      e = .returned (.bool true) ∧ ∃ v', Wir w' base g v' (l ++ (numB (wz 1) ++ (numsB [fr, tt] ++ (askB x)))) ∧ Chg (WB g v) w w' ∧ Grew w v v' := by
  have hbl : b < w.heap.size := World.block_lt_of_cell? w _ c0
  have hn2 := numsB_length [fr, tt]
  have hn1 := numB_length (wz 1)
  simp only [List.length_cons, List.length_nil] at hn2
  have hcw0 := Chg.refl (WB g v) w
  have hG0 := Grew.refl w v
  have hnb0 := hnb
  have hF0 := hF
  have hpt := RdPt.lit w 133 #[.pointer (some ⟨b, 0, none⟩)] [⟨b, 0, none⟩] 1 rfl rfl (by simp [maxLen])
  have hcL := (Chg.refl Non w).alloc (.cells #[.pointer (some ⟨b, 0, none⟩)] 133)
  have hWL : Wir _ base g v l := h.al (.cells #[.pointer (some ⟨b, 0, none⟩)] 133)
  have hFp : ∀ k, k = w.heap.size → ¬ WB g v k := fun k e hb => by have := (h.lt k hb).2; omega
  have hcz := whole_one (hcL.cell c0 (fun h => h)) (hcL.frz c0 (fun h => h) f0) hnb (by omega)
  have HCZ := hide hcz
  clear hcz
  have hbd : l.length + 9 * [(1 : Int)].length ≤ 140737488355328 := by simp only [List.length_cons, List.length_nil]; omega
  go_enter Try.func26, Try.ntmps26
  go_upto_region 2 with (go_at_call 52; refine (wirWhole hWL hpt hFp rfl HCZ.out hbd).mono ?_; rintro e w1 ⟨rfl, v1, hWx, hcx, hGx⟩)
  have hWx : Wir w1 base g v1 (l ++ numB (wz 1)) := by rw [← numsB_one]; exact hWx
  have hcw1 := hcw0.wtr hG0 ((chgX (S := WB g v) hcL).trans hcx fun _ _ h => h)
  have hG1 := hG0.trans hcw0.size (hGx.low hcL.size)
  have HW1 := hide (show Wir w1 base g v1 (l ++ numB (wz 1)) from hWx)
  have hnb1 : ¬ WB g v1 b := fun hb => hnb (hG1.wb hbl hb)
  have hF1 : ∀ k, F k → ¬ WB g v1 k := fun k hk hb => hF k hk (hG1.wb (hFl k hk) hb)
  clear hWx hcx hGx
  clear hcL hWL hpt hFp HCZ hbd
  have hcd : Chg Non w1 w1.drew := (Chg.refl Non w1).drew
  have hWD : Wir w1.drew base g v1 (l ++ numB (wz 1)) := (HW1.out).c0 hcd
  have hpt := RdPt.lit w1.drew 135 #[.pointer (some ⟨b, 1, none⟩), .pointer (some ⟨b, 2, none⟩)] [⟨b, 1, none⟩, ⟨b, 2, none⟩] 2 rfl rfl (by simp [maxLen])
  have hcM := (Chg.refl Non w1.drew).alloc (.cells #[.pointer (some ⟨b, 1, none⟩), .pointer (some ⟨b, 2, none⟩)] 135)
  have hWA : Wir _ base g v1 (l ++ numB (wz 1)) := hWD.al (.cells #[.pointer (some ⟨b, 1, none⟩), .pointer (some ⟨b, 2, none⟩)] 135)
  have hFp : ∀ k, k = w1.drew.heap.size → ¬ WB g v1 k := fun k e hb => by have := (hWD.lt k hb).2; omega
  have hcy := hcd.trans0 hcM
  have hcz : ∀ (j : Nat) (a : Addr) (n : Nat), ([⟨b, 1, none⟩, ⟨b, 2, none⟩] : List Addr)[j]? = some a → [fr, tt][j]? = some n → (w1.drew.alloc (.cells #[.pointer (some ⟨b, 1, none⟩), .pointer (some ⟨b, 2, none⟩)] 135)).cell? a = some (.int .u64 (n : Int)) ∧ ¬ WB g v1 a.block ∧ U64 n := by
    intro j a n h1 h2
    match j, h1, h2 with
    | 0, h1, h2 => simp at h1 h2; subst h1; subst h2; exact ⟨hcy.cell (hcw1.cell c1 hnb) (fun h => h), hnb1, u1⟩
    | 1, h1, h2 => simp at h1 h2; subst h1; subst h2; exact ⟨hcy.cell (hcw1.cell c2 hnb) (fun h => h), hnb1, u2⟩
    | j + 2, h1, h2 => simp at h1
  have HCZ := hide hcz
  clear hcz
  have hbd : (l ++ numB (wz 1)).length + 9 * [fr, tt].length ≤ 140737488355328 := by simp only [List.length_append, List.length_cons, List.length_nil]; omega
  refine wp_region_T (fun _ => True) 99 (by kernel_rfl) ?_
  have HS := hide True.intro
  refine AnyT.take (i := 0) (v := ?_) rfl (by kernel_rfl) (by kernel_rfl) (fun _ _ _ h => h) (by kernel_rfl) (by kernel_rfl) (Or.inl ⟨by rfl, ?_⟩) HS.out ?_
  rotate_left
  · (intro w9 h9; go_simp; try with_reducible rfl)
  try simp only [getElem_toArray, getElem_cons_succ, getElem_cons_zero, Act.put, setIfInBounds_toArray, set_cons_zero, set_cons_succ]
  refine AnyT.take (i := 1) (v := ?_) rfl (by kernel_rfl) (by kernel_rfl) (fun _ _ _ h => h) (by kernel_rfl) (by kernel_rfl) (Or.inl ⟨by rfl, ?_⟩) HS.out ?_
  rotate_left
  · (intro w9 h9; go_simp; try with_reducible rfl)
  try simp only [getElem_toArray, getElem_cons_succ, getElem_cons_zero, Act.put, setIfInBounds_toArray, set_cons_zero, set_cons_succ]
  refine AnyT.take (i := 2) (v := ?_) rfl (by kernel_rfl) (by kernel_rfl) (fun _ _ _ h => h) (by kernel_rfl) (by kernel_rfl) (Or.inl ⟨by rfl, ?_⟩) HS.out ?_
  rotate_left
  · (intro w9 h9; go_simp; try with_reducible rfl)
  try simp only [getElem_toArray, getElem_cons_succ, getElem_cons_zero, Act.put, setIfInBounds_toArray, set_cons_zero, set_cons_succ]
  refine AnyT.take (i := 3) (v := ?_) rfl (by kernel_rfl) (by kernel_rfl) (fun _ _ _ h => h) (by kernel_rfl) (by kernel_rfl) (Or.inl ⟨by rfl, ?_⟩) HS.out ?_
  rotate_left
  · (intro w9 h9; go_simp; try with_reducible rfl)
  try simp only [getElem_toArray, getElem_cons_succ, getElem_cons_zero, Act.put, setIfInBounds_toArray, set_cons_zero, set_cons_succ]
  refine AnyT.take (i := 4) (v := ?_) rfl (by kernel_rfl) (by kernel_rfl) (fun _ _ _ h => h) (by kernel_rfl) (by kernel_rfl) (Or.inl ⟨by rfl, ?_⟩) HS.out ?_
  rotate_left
  · (intro w9 h9; go_simp; try with_reducible rfl)
  try simp only [getElem_toArray, getElem_cons_succ, getElem_cons_zero, Act.put, setIfInBounds_toArray, set_cons_zero, set_cons_succ]
  refine AnyT.take (i := 5) (v := ?_) rfl (by kernel_rfl) (by kernel_rfl) (fun _ _ _ h => h) (by kernel_rfl) (by kernel_rfl) (Or.inl ⟨by rfl, ?_⟩) HS.out ?_
  rotate_left
  · (intro w9 h9; go_simp; try with_reducible rfl)
  try simp only [getElem_toArray, getElem_cons_succ, getElem_cons_zero, Act.put, setIfInBounds_toArray, set_cons_zero, set_cons_succ]
  refine AnyT.take (i := 6) (v := ?_) rfl (by kernel_rfl) (by kernel_rfl) (fun _ _ _ h => h) (by kernel_rfl) (by kernel_rfl) (Or.inl ⟨by rfl, ?_⟩) HS.out ?_
  rotate_left
  · (intro w9 h9; go_simp; try with_reducible rfl)
  try simp only [getElem_toArray, getElem_cons_succ, getElem_cons_zero, Act.put, setIfInBounds_toArray, set_cons_zero, set_cons_succ]
  refine AnyT.one (i := 7) (by kernel_rfl) rfl (fun K hK => ?_)
  go_simp
  refine hK.out _ _ (fun _ => trivial) ?_
  clear hK K
  try simp only [getElem_toArray, getElem_cons_succ, getElem_cons_zero, Act.put, setIfInBounds_toArray, set_cons_zero, set_cons_succ]
  refine AnyT.one (i := 8) (by kernel_rfl) rfl (fun K hK => ?_)
  go_simp
  go_wp2_with (go_at_call 53; refine (wirNum (G := Non) hWA hpt hFp rfl HCZ.out hbd).mono ?_; rintro e w2 ⟨rfl, v2, hWx, hcx, hGx⟩)
  refine hK.out _ _ (fun _ => trivial) ?_
  clear hK K
  try simp only [getElem_toArray, getElem_cons_succ, getElem_cons_zero, Act.put, setIfInBounds_toArray, set_cons_zero, set_cons_succ]
  refine AnyT.nil (by kernel_rfl) ?_
  have hcw2 := hcw1.wtr hG1 ((chgX (S := WB g v1) hcy).trans hcx fun _ _ h => h)
  have hG2 := hG1.trans hcw1.size (hGx.low hcy.size)
  have HW2 := hide (show Wir w2 base g v2 ((l ++ numB (wz 1)) ++ numsB [fr, tt]) from hWx)
  have hnb2 : ¬ WB g v2 b := fun hb => hnb (hG2.wb hbl hb)
  have hF2 : ∀ k, F k → ¬ WB g v2 k := fun k hk hb => hF k hk (hG2.wb (hFl k hk) hb)
  clear hWx hcx hGx
  clear hpt hcy hWA hFp HCZ hbd hcd hWD hcM HS HW1
  have k0 := hcw2.cell c0 hnb
  go_upto_region 6 with fail
  have hbd : ((l ++ numB (wz 1)) ++ numsB [fr, tt]).length + (askB x).length + 200 ≤ 140737488355328 := by simp only [List.length_append, List.length_cons, List.length_nil]; omega
  have hA3 := hA.chg hcw2 hnb (fun k hk => hF k (hO1 k hk)) hF
  go_upto_region 37 with (go_at_call 54; refine (wirAsk HW2.out hA3 hnb2 (fun k hk => hF2 k (hO1 k hk)) hF2 hbd).mono ?_; rintro e w3 ⟨rfl, v3, hWx, hcx, hGx⟩)
  have hcw3 := hcw2.wtr hG2 (hcx)
  have hG3 := hG2.trans hcw2.size (hGx.low (Nat.le_refl _))
  have HW3 := hide (show Wir w3 base g v3 (((l ++ numB (wz 1)) ++ numsB [fr, tt]) ++ askB x) from hWx)
  have hnb3 : ¬ WB g v3 b := fun hb => hnb (hG3.wb hbl hb)
  have hF3 : ∀ k, F k → ¬ WB g v3 k := fun k hk hb => hF k hk (hG3.wb (hFl k hk) hb)
  clear hWx hcx hGx
  clear hbd hA3 HW2
  go_wp2_with fail
  go_ret
  refine ⟨rfl, v3, ?_, hcw3, hG3⟩
  have he : l ++ (numB (wz 1) ++ (numsB [fr, tt] ++ (askB x))) = ((l ++ numB (wz 1)) ++ numsB [fr, tt]) ++ askB x := by simp only [List.append_assoc, List.append_nil]
  rw [he]; exact HW3.out

set_option maxHeartbeats 16000000 in
set_option maxRecDepth 100000 in
theorem wirPAnswer {base g b : Nat} {v : Value} {l : List UInt8} {fr tt : Nat} {F : Nat → Prop} {w : World} {x : AnsS} {vr vw vp : Value}
    (h : Wir w base g v l) (hnb : ¬ WB g v b) (hF : ∀ k, F k → ¬ WB g v k) (hFl : ∀ k, F k → k < w.heap.size)
    (c0 : w.cell? ⟨b, 0, none⟩ = some (.int .i64 2)) (f0 : w.frozen? ⟨b, 0, none⟩ = false) (c1 : w.cell? ⟨b, 1, none⟩ = some (.int .u64 (fr : Int))) (u1 : U64 fr) (c2 : w.cell? ⟨b, 2, none⟩ = some (.int .u64 (tt : Int))) (u2 : U64 tt)
    (hA : AnsAt w b 15 F x vr vw vp)
    (hb : l.length + (ansB x).length + 600 ≤ 140737488355328) :
    Calls Try.prog 26 #[.pointer (some ⟨g, 0, none⟩), .pointer (some ⟨b, 0, none⟩)] w fun e w' =>
      e = .returned (.bool true) ∧ ∃ v', Wir w' base g v' (l ++ (numB (wz 2) ++ (numsB [fr, tt] ++ (ansB x)))) ∧ Chg (WB g v) w w' ∧ Grew w v v' := by
  have hbl : b < w.heap.size := World.block_lt_of_cell? w _ c0
  have hn2 := numsB_length [fr, tt]
  have hn1 := numB_length (wz 2)
  simp only [List.length_cons, List.length_nil] at hn2
  have hcw0 := Chg.refl (WB g v) w
  have hG0 := Grew.refl w v
  have hnb0 := hnb
  have hF0 := hF
  have hpt := RdPt.lit w 133 #[.pointer (some ⟨b, 0, none⟩)] [⟨b, 0, none⟩] 1 rfl rfl (by simp [maxLen])
  have hcL := (Chg.refl Non w).alloc (.cells #[.pointer (some ⟨b, 0, none⟩)] 133)
  have hWL : Wir _ base g v l := h.al (.cells #[.pointer (some ⟨b, 0, none⟩)] 133)
  have hFp : ∀ k, k = w.heap.size → ¬ WB g v k := fun k e hb => by have := (h.lt k hb).2; omega
  have hcz := whole_one (hcL.cell c0 (fun h => h)) (hcL.frz c0 (fun h => h) f0) hnb (by omega)
  have HCZ := hide hcz
  clear hcz
  have hbd : l.length + 9 * [(2 : Int)].length ≤ 140737488355328 := by simp only [List.length_cons, List.length_nil]; omega
  go_enter Try.func26, Try.ntmps26
  go_upto_region 2 with (go_at_call 52; refine (wirWhole hWL hpt hFp rfl HCZ.out hbd).mono ?_; rintro e w1 ⟨rfl, v1, hWx, hcx, hGx⟩)
  have hWx : Wir w1 base g v1 (l ++ numB (wz 2)) := by rw [← numsB_one]; exact hWx
  have hcw1 := hcw0.wtr hG0 ((chgX (S := WB g v) hcL).trans hcx fun _ _ h => h)
  have hG1 := hG0.trans hcw0.size (hGx.low hcL.size)
  have HW1 := hide (show Wir w1 base g v1 (l ++ numB (wz 2)) from hWx)
  have hnb1 : ¬ WB g v1 b := fun hb => hnb (hG1.wb hbl hb)
  have hF1 : ∀ k, F k → ¬ WB g v1 k := fun k hk hb => hF k hk (hG1.wb (hFl k hk) hb)
  clear hWx hcx hGx
  clear hcL hWL hpt hFp HCZ hbd
  have hcd : Chg Non w1 w1.drew := (Chg.refl Non w1).drew
  have hWD : Wir w1.drew base g v1 (l ++ numB (wz 2)) := (HW1.out).c0 hcd
  have hpt := RdPt.lit w1.drew 135 #[.pointer (some ⟨b, 1, none⟩), .pointer (some ⟨b, 2, none⟩)] [⟨b, 1, none⟩, ⟨b, 2, none⟩] 2 rfl rfl (by simp [maxLen])
  have hcM := (Chg.refl Non w1.drew).alloc (.cells #[.pointer (some ⟨b, 1, none⟩), .pointer (some ⟨b, 2, none⟩)] 135)
  have hWA : Wir _ base g v1 (l ++ numB (wz 2)) := hWD.al (.cells #[.pointer (some ⟨b, 1, none⟩), .pointer (some ⟨b, 2, none⟩)] 135)
  have hFp : ∀ k, k = w1.drew.heap.size → ¬ WB g v1 k := fun k e hb => by have := (hWD.lt k hb).2; omega
  have hcy := hcd.trans0 hcM
  have hcz : ∀ (j : Nat) (a : Addr) (n : Nat), ([⟨b, 1, none⟩, ⟨b, 2, none⟩] : List Addr)[j]? = some a → [fr, tt][j]? = some n → (w1.drew.alloc (.cells #[.pointer (some ⟨b, 1, none⟩), .pointer (some ⟨b, 2, none⟩)] 135)).cell? a = some (.int .u64 (n : Int)) ∧ ¬ WB g v1 a.block ∧ U64 n := by
    intro j a n h1 h2
    match j, h1, h2 with
    | 0, h1, h2 => simp at h1 h2; subst h1; subst h2; exact ⟨hcy.cell (hcw1.cell c1 hnb) (fun h => h), hnb1, u1⟩
    | 1, h1, h2 => simp at h1 h2; subst h1; subst h2; exact ⟨hcy.cell (hcw1.cell c2 hnb) (fun h => h), hnb1, u2⟩
    | j + 2, h1, h2 => simp at h1
  have HCZ := hide hcz
  clear hcz
  have hbd : (l ++ numB (wz 2)).length + 9 * [fr, tt].length ≤ 140737488355328 := by simp only [List.length_append, List.length_cons, List.length_nil]; omega
  refine wp_region_T (fun _ => True) 99 (by kernel_rfl) ?_
  have HS := hide True.intro
  refine AnyT.take (i := 0) (v := ?_) rfl (by kernel_rfl) (by kernel_rfl) (fun _ _ _ h => h) (by kernel_rfl) (by kernel_rfl) (Or.inl ⟨by rfl, ?_⟩) HS.out ?_
  rotate_left
  · (intro w9 h9; go_simp; try with_reducible rfl)
  try simp only [getElem_toArray, getElem_cons_succ, getElem_cons_zero, Act.put, setIfInBounds_toArray, set_cons_zero, set_cons_succ]
  refine AnyT.take (i := 1) (v := ?_) rfl (by kernel_rfl) (by kernel_rfl) (fun _ _ _ h => h) (by kernel_rfl) (by kernel_rfl) (Or.inl ⟨by rfl, ?_⟩) HS.out ?_
  rotate_left
  · (intro w9 h9; go_simp; try with_reducible rfl)
  try simp only [getElem_toArray, getElem_cons_succ, getElem_cons_zero, Act.put, setIfInBounds_toArray, set_cons_zero, set_cons_succ]
  refine AnyT.take (i := 2) (v := ?_) rfl (by kernel_rfl) (by kernel_rfl) (fun _ _ _ h => h) (by kernel_rfl) (by kernel_rfl) (Or.inl ⟨by rfl, ?_⟩) HS.out ?_
  rotate_left
  · (intro w9 h9; go_simp; try with_reducible rfl)
  try simp only [getElem_toArray, getElem_cons_succ, getElem_cons_zero, Act.put, setIfInBounds_toArray, set_cons_zero, set_cons_succ]
  refine AnyT.take (i := 3) (v := ?_) rfl (by kernel_rfl) (by kernel_rfl) (fun _ _ _ h => h) (by kernel_rfl) (by kernel_rfl) (Or.inl ⟨by rfl, ?_⟩) HS.out ?_
  rotate_left
  · (intro w9 h9; go_simp; try with_reducible rfl)
  try simp only [getElem_toArray, getElem_cons_succ, getElem_cons_zero, Act.put, setIfInBounds_toArray, set_cons_zero, set_cons_succ]
  refine AnyT.take (i := 4) (v := ?_) rfl (by kernel_rfl) (by kernel_rfl) (fun _ _ _ h => h) (by kernel_rfl) (by kernel_rfl) (Or.inl ⟨by rfl, ?_⟩) HS.out ?_
  rotate_left
  · (intro w9 h9; go_simp; try with_reducible rfl)
  try simp only [getElem_toArray, getElem_cons_succ, getElem_cons_zero, Act.put, setIfInBounds_toArray, set_cons_zero, set_cons_succ]
  refine AnyT.take (i := 5) (v := ?_) rfl (by kernel_rfl) (by kernel_rfl) (fun _ _ _ h => h) (by kernel_rfl) (by kernel_rfl) (Or.inl ⟨by rfl, ?_⟩) HS.out ?_
  rotate_left
  · (intro w9 h9; go_simp; try with_reducible rfl)
  try simp only [getElem_toArray, getElem_cons_succ, getElem_cons_zero, Act.put, setIfInBounds_toArray, set_cons_zero, set_cons_succ]
  refine AnyT.take (i := 6) (v := ?_) rfl (by kernel_rfl) (by kernel_rfl) (fun _ _ _ h => h) (by kernel_rfl) (by kernel_rfl) (Or.inl ⟨by rfl, ?_⟩) HS.out ?_
  rotate_left
  · (intro w9 h9; go_simp; try with_reducible rfl)
  try simp only [getElem_toArray, getElem_cons_succ, getElem_cons_zero, Act.put, setIfInBounds_toArray, set_cons_zero, set_cons_succ]
  refine AnyT.one (i := 7) (by kernel_rfl) rfl (fun K hK => ?_)
  go_simp
  refine hK.out _ _ (fun _ => trivial) ?_
  clear hK K
  try simp only [getElem_toArray, getElem_cons_succ, getElem_cons_zero, Act.put, setIfInBounds_toArray, set_cons_zero, set_cons_succ]
  refine AnyT.one (i := 8) (by kernel_rfl) rfl (fun K hK => ?_)
  go_simp
  go_wp2_with (go_at_call 53; refine (wirNum (G := Non) hWA hpt hFp rfl HCZ.out hbd).mono ?_; rintro e w2 ⟨rfl, v2, hWx, hcx, hGx⟩)
  refine hK.out _ _ (fun _ => trivial) ?_
  clear hK K
  try simp only [getElem_toArray, getElem_cons_succ, getElem_cons_zero, Act.put, setIfInBounds_toArray, set_cons_zero, set_cons_succ]
  refine AnyT.nil (by kernel_rfl) ?_
  have hcw2 := hcw1.wtr hG1 ((chgX (S := WB g v1) hcy).trans hcx fun _ _ h => h)
  have hG2 := hG1.trans hcw1.size (hGx.low hcy.size)
  have HW2 := hide (show Wir w2 base g v2 ((l ++ numB (wz 2)) ++ numsB [fr, tt]) from hWx)
  have hnb2 : ¬ WB g v2 b := fun hb => hnb (hG2.wb hbl hb)
  have hF2 : ∀ k, F k → ¬ WB g v2 k := fun k hk hb => hF k hk (hG2.wb (hFl k hk) hb)
  clear hWx hcx hGx
  clear hpt hcy hWA hFp HCZ hbd hcd hWD hcM HS HW1
  have k0 := hcw2.cell c0 hnb
  go_upto_region 8 with fail
  have hbd : ((l ++ numB (wz 2)) ++ numsB [fr, tt]).length + (ansB x).length + 400 ≤ 140737488355328 := by simp only [List.length_append, List.length_cons, List.length_nil]; omega
  have hA3 := hA.chg hcw2 hnb hF
  have hFl3 : ∀ k, F k → k < w2.heap.size := fun k hk => Nat.lt_of_lt_of_le (hFl k hk) hcw2.size
  go_upto_region 37 with (go_at_call 55; refine (wirAnswer HW2.out hA3 hnb2 hF2 hFl3 hbd).mono ?_; rintro e w3 ⟨rfl, v3, hWx, hcx, hGx⟩)
  have hcw3 := hcw2.wtr hG2 (hcx)
  have hG3 := hG2.trans hcw2.size (hGx.low (Nat.le_refl _))
  have HW3 := hide (show Wir w3 base g v3 (((l ++ numB (wz 2)) ++ numsB [fr, tt]) ++ ansB x) from hWx)
  have hnb3 : ¬ WB g v3 b := fun hb => hnb (hG3.wb hbl hb)
  have hF3 : ∀ k, F k → ¬ WB g v3 k := fun k hk hb => hF k hk (hG3.wb (hFl k hk) hb)
  clear hWx hcx hGx
  clear hbd hA3 hFl3 HW2
  go_wp2_with fail
  go_ret
  refine ⟨rfl, v3, ?_, hcw3, hG3⟩
  have he : l ++ (numB (wz 2) ++ (numsB [fr, tt] ++ (ansB x))) = ((l ++ numB (wz 2)) ++ numsB [fr, tt]) ++ ansB x := by simp only [List.append_assoc, List.append_nil]
  rw [he]; exact HW3.out

set_option maxHeartbeats 16000000 in
set_option maxRecDepth 100000 in
theorem wirPCall {base g b : Nat} {v : Value} {l : List UInt8} {fr tt : Nat} {F : Nat → Prop} {w : World} {inc tb ts tq : Nat} {ops : List OpS} {vo : Value} {xs : List (Value × Value)}
    (h : Wir w base g v l) (hnb : ¬ WB g v b) (hF : ∀ k, F k → ¬ WB g v k) (hFl : ∀ k, F k → k < w.heap.size)
    (c0 : w.cell? ⟨b, 0, none⟩ = some (.int .i64 6)) (f0 : w.frozen? ⟨b, 0, none⟩ = false) (c1 : w.cell? ⟨b, 1, none⟩ = some (.int .u64 (fr : Int))) (u1 : U64 fr) (c2 : w.cell? ⟨b, 2, none⟩ = some (.int .u64 (tt : Int))) (u2 : U64 tt)
    (c38 : w.cell? ⟨b, 38, none⟩ = some (.int .u64 (inc : Int))) (u38 : U64 inc) (c39 : w.cell? ⟨b, 39, none⟩ = some (.int .u64 (tb : Int))) (u39 : U64 tb) (c40 : w.cell? ⟨b, 40, none⟩ = some (.int .u64 (ts : Int))) (u40 : U64 ts) (c41 : w.cell? ⟨b, 41, none⟩ = some (.int .u64 (tq : Int))) (u41 : U64 tq) (c42 : w.cell? ⟨b, 42, none⟩ = some vo) (hops : OwnO w 0 F vo ops xs) (hO1 : ∀ k, vo.ownBlock = some k → F k) (hwf : ∀ o ∈ ops, I64 o.kind ∧ I64 o.most) (hon : ops.length ≤ 1000000000)
    (hb : l.length + (numsB [inc] ++ (numsB [tb, ts, tq] ++ ((numB ops.length ++ opsB ops)))).length + 600 ≤ 140737488355328) :
    Calls Try.prog 26 #[.pointer (some ⟨g, 0, none⟩), .pointer (some ⟨b, 0, none⟩)] w fun e w' =>
      e = .returned (.bool true) ∧ ∃ v', Wir w' base g v' (l ++ (numB (wz 6) ++ (numsB [fr, tt] ++ (numsB [inc] ++ (numsB [tb, ts, tq] ++ ((numB ops.length ++ opsB ops))))))) ∧ Chg (WB g v) w w' ∧ Grew w v v' := by
  have hbl : b < w.heap.size := World.block_lt_of_cell? w _ c0
  have hn2 := numsB_length [fr, tt]
  have hn1 := numB_length (wz 6)
  simp only [List.length_cons, List.length_nil] at hn2
  have hm0 := numsB_length [inc]
  simp only [List.length_cons, List.length_nil] at hm0
  have hm1 := numsB_length [tb, ts, tq]
  simp only [List.length_cons, List.length_nil] at hm1
  have hm2 := numB_length ops.length
  simp only [List.length_append] at hb
  have hcw0 := Chg.refl (WB g v) w
  have hG0 := Grew.refl w v
  have hnb0 := hnb
  have hF0 := hF
  have hpt := RdPt.lit w 133 #[.pointer (some ⟨b, 0, none⟩)] [⟨b, 0, none⟩] 1 rfl rfl (by simp [maxLen])
  have hcL := (Chg.refl Non w).alloc (.cells #[.pointer (some ⟨b, 0, none⟩)] 133)
  have hWL : Wir _ base g v l := h.al (.cells #[.pointer (some ⟨b, 0, none⟩)] 133)
  have hFp : ∀ k, k = w.heap.size → ¬ WB g v k := fun k e hb => by have := (h.lt k hb).2; omega
  have hcz := whole_one (hcL.cell c0 (fun h => h)) (hcL.frz c0 (fun h => h) f0) hnb (by omega)
  have HCZ := hide hcz
  clear hcz
  have hbd : l.length + 9 * [(6 : Int)].length ≤ 140737488355328 := by simp only [List.length_cons, List.length_nil]; omega
  go_enter Try.func26, Try.ntmps26
  go_upto_region 2 with (go_at_call 52; refine (wirWhole hWL hpt hFp rfl HCZ.out hbd).mono ?_; rintro e w1 ⟨rfl, v1, hWx, hcx, hGx⟩)
  have hWx : Wir w1 base g v1 (l ++ numB (wz 6)) := by rw [← numsB_one]; exact hWx
  have hcw1 := hcw0.wtr hG0 ((chgX (S := WB g v) hcL).trans hcx fun _ _ h => h)
  have hG1 := hG0.trans hcw0.size (hGx.low hcL.size)
  have HW1 := hide (show Wir w1 base g v1 (l ++ numB (wz 6)) from hWx)
  have hnb1 : ¬ WB g v1 b := fun hb => hnb (hG1.wb hbl hb)
  have hF1 : ∀ k, F k → ¬ WB g v1 k := fun k hk hb => hF k hk (hG1.wb (hFl k hk) hb)
  clear hWx hcx hGx
  clear hcL hWL hpt hFp HCZ hbd
  have hcd : Chg Non w1 w1.drew := (Chg.refl Non w1).drew
  have hWD : Wir w1.drew base g v1 (l ++ numB (wz 6)) := (HW1.out).c0 hcd
  have hpt := RdPt.lit w1.drew 135 #[.pointer (some ⟨b, 1, none⟩), .pointer (some ⟨b, 2, none⟩)] [⟨b, 1, none⟩, ⟨b, 2, none⟩] 2 rfl rfl (by simp [maxLen])
  have hcM := (Chg.refl Non w1.drew).alloc (.cells #[.pointer (some ⟨b, 1, none⟩), .pointer (some ⟨b, 2, none⟩)] 135)
  have hWA : Wir _ base g v1 (l ++ numB (wz 6)) := hWD.al (.cells #[.pointer (some ⟨b, 1, none⟩), .pointer (some ⟨b, 2, none⟩)] 135)
  have hFp : ∀ k, k = w1.drew.heap.size → ¬ WB g v1 k := fun k e hb => by have := (hWD.lt k hb).2; omega
  have hcy := hcd.trans0 hcM
  have hcz : ∀ (j : Nat) (a : Addr) (n : Nat), ([⟨b, 1, none⟩, ⟨b, 2, none⟩] : List Addr)[j]? = some a → [fr, tt][j]? = some n → (w1.drew.alloc (.cells #[.pointer (some ⟨b, 1, none⟩), .pointer (some ⟨b, 2, none⟩)] 135)).cell? a = some (.int .u64 (n : Int)) ∧ ¬ WB g v1 a.block ∧ U64 n := by
    intro j a n h1 h2
    match j, h1, h2 with
    | 0, h1, h2 => simp at h1 h2; subst h1; subst h2; exact ⟨hcy.cell (hcw1.cell c1 hnb) (fun h => h), hnb1, u1⟩
    | 1, h1, h2 => simp at h1 h2; subst h1; subst h2; exact ⟨hcy.cell (hcw1.cell c2 hnb) (fun h => h), hnb1, u2⟩
    | j + 2, h1, h2 => simp at h1
  have HCZ := hide hcz
  clear hcz
  have hbd : (l ++ numB (wz 6)).length + 9 * [fr, tt].length ≤ 140737488355328 := by simp only [List.length_append, List.length_cons, List.length_nil]; omega
  refine wp_region_T (fun _ => True) 99 (by kernel_rfl) ?_
  have HS := hide True.intro
  refine AnyT.take (i := 0) (v := ?_) rfl (by kernel_rfl) (by kernel_rfl) (fun _ _ _ h => h) (by kernel_rfl) (by kernel_rfl) (Or.inl ⟨by rfl, ?_⟩) HS.out ?_
  rotate_left
  · (intro w9 h9; go_simp; try with_reducible rfl)
  try simp only [getElem_toArray, getElem_cons_succ, getElem_cons_zero, Act.put, setIfInBounds_toArray, set_cons_zero, set_cons_succ]
  refine AnyT.take (i := 1) (v := ?_) rfl (by kernel_rfl) (by kernel_rfl) (fun _ _ _ h => h) (by kernel_rfl) (by kernel_rfl) (Or.inl ⟨by rfl, ?_⟩) HS.out ?_
  rotate_left
  · (intro w9 h9; go_simp; try with_reducible rfl)
  try simp only [getElem_toArray, getElem_cons_succ, getElem_cons_zero, Act.put, setIfInBounds_toArray, set_cons_zero, set_cons_succ]
  refine AnyT.take (i := 2) (v := ?_) rfl (by kernel_rfl) (by kernel_rfl) (fun _ _ _ h => h) (by kernel_rfl) (by kernel_rfl) (Or.inl ⟨by rfl, ?_⟩) HS.out ?_
  rotate_left
  · (intro w9 h9; go_simp; try with_reducible rfl)
  try simp only [getElem_toArray, getElem_cons_succ, getElem_cons_zero, Act.put, setIfInBounds_toArray, set_cons_zero, set_cons_succ]
  refine AnyT.take (i := 3) (v := ?_) rfl (by kernel_rfl) (by kernel_rfl) (fun _ _ _ h => h) (by kernel_rfl) (by kernel_rfl) (Or.inl ⟨by rfl, ?_⟩) HS.out ?_
  rotate_left
  · (intro w9 h9; go_simp; try with_reducible rfl)
  try simp only [getElem_toArray, getElem_cons_succ, getElem_cons_zero, Act.put, setIfInBounds_toArray, set_cons_zero, set_cons_succ]
  refine AnyT.take (i := 4) (v := ?_) rfl (by kernel_rfl) (by kernel_rfl) (fun _ _ _ h => h) (by kernel_rfl) (by kernel_rfl) (Or.inl ⟨by rfl, ?_⟩) HS.out ?_
  rotate_left
  · (intro w9 h9; go_simp; try with_reducible rfl)
  try simp only [getElem_toArray, getElem_cons_succ, getElem_cons_zero, Act.put, setIfInBounds_toArray, set_cons_zero, set_cons_succ]
  refine AnyT.take (i := 5) (v := ?_) rfl (by kernel_rfl) (by kernel_rfl) (fun _ _ _ h => h) (by kernel_rfl) (by kernel_rfl) (Or.inl ⟨by rfl, ?_⟩) HS.out ?_
  rotate_left
  · (intro w9 h9; go_simp; try with_reducible rfl)
  try simp only [getElem_toArray, getElem_cons_succ, getElem_cons_zero, Act.put, setIfInBounds_toArray, set_cons_zero, set_cons_succ]
  refine AnyT.take (i := 6) (v := ?_) rfl (by kernel_rfl) (by kernel_rfl) (fun _ _ _ h => h) (by kernel_rfl) (by kernel_rfl) (Or.inl ⟨by rfl, ?_⟩) HS.out ?_
  rotate_left
  · (intro w9 h9; go_simp; try with_reducible rfl)
  try simp only [getElem_toArray, getElem_cons_succ, getElem_cons_zero, Act.put, setIfInBounds_toArray, set_cons_zero, set_cons_succ]
  refine AnyT.one (i := 7) (by kernel_rfl) rfl (fun K hK => ?_)
  go_simp
  refine hK.out _ _ (fun _ => trivial) ?_
  clear hK K
  try simp only [getElem_toArray, getElem_cons_succ, getElem_cons_zero, Act.put, setIfInBounds_toArray, set_cons_zero, set_cons_succ]
  refine AnyT.one (i := 8) (by kernel_rfl) rfl (fun K hK => ?_)
  go_simp
  go_wp2_with (go_at_call 53; refine (wirNum (G := Non) hWA hpt hFp rfl HCZ.out hbd).mono ?_; rintro e w2 ⟨rfl, v2, hWx, hcx, hGx⟩)
  refine hK.out _ _ (fun _ => trivial) ?_
  clear hK K
  try simp only [getElem_toArray, getElem_cons_succ, getElem_cons_zero, Act.put, setIfInBounds_toArray, set_cons_zero, set_cons_succ]
  refine AnyT.nil (by kernel_rfl) ?_
  have hcw2 := hcw1.wtr hG1 ((chgX (S := WB g v1) hcy).trans hcx fun _ _ h => h)
  have hG2 := hG1.trans hcw1.size (hGx.low hcy.size)
  have HW2 := hide (show Wir w2 base g v2 ((l ++ numB (wz 6)) ++ numsB [fr, tt]) from hWx)
  have hnb2 : ¬ WB g v2 b := fun hb => hnb (hG2.wb hbl hb)
  have hF2 : ∀ k, F k → ¬ WB g v2 k := fun k hk hb => hF k hk (hG2.wb (hFl k hk) hb)
  clear hWx hcx hGx
  clear hpt hcy hWA hFp HCZ hbd hcd hWD hcM HS HW1
  have k0 := hcw2.cell c0 hnb
  go_upto_region 18 with fail
  have hpt := RdPt.lit w2 135 #[.pointer (some ⟨b, 38, none⟩)] [⟨b, 38, none⟩] 1 rfl rfl (by simp [maxLen])
  have hcy := (Chg.refl Non w2).alloc (.cells #[.pointer (some ⟨b, 38, none⟩)] 135)
  have hWA : Wir _ base g v2 ((l ++ numB (wz 6)) ++ numsB [fr, tt]) := (HW2.out).al (.cells #[.pointer (some ⟨b, 38, none⟩)] 135)
  have hFp : ∀ k, k = w2.heap.size → ¬ WB g v2 k := fun k e hb => by have := ((HW2.out).lt k hb).2; omega
  have hcz : ∀ (j : Nat) (a : Addr) (n : Nat), ([⟨b, 38, none⟩] : List Addr)[j]? = some a → [inc][j]? = some n → (w2.alloc (.cells #[.pointer (some ⟨b, 38, none⟩)] 135)).cell? a = some (.int .u64 (n : Int)) ∧ ¬ WB g v2 a.block ∧ U64 n := by
    intro j a n h1 h2
    match j, h1, h2 with
    | 0, h1, h2 => simp at h1 h2; subst h1; subst h2; exact ⟨hcy.cell (hcw2.cell c38 hnb) (fun h => h), hnb2, u38⟩
    | j + 1, h1, h2 => simp at h1
  have HCZ := hide hcz
  clear hcz
  have hbd : ((l ++ numB (wz 6)) ++ numsB [fr, tt]).length + 9 * [inc].length ≤ 140737488355328 := by simp only [List.length_append, List.length_cons, List.length_nil]; omega
  go_upto_region 19 with (go_at_call 53; refine (wirNum (G := Non) hWA hpt hFp rfl HCZ.out hbd).mono ?_; rintro e w3 ⟨rfl, v3, hWx, hcx, hGx⟩)
  have hcw3 := hcw2.wtr hG2 ((chgX (S := WB g v2) hcy).trans hcx fun _ _ h => h)
  have hG3 := hG2.trans hcw2.size (hGx.low hcy.size)
  have HW3 := hide (show Wir w3 base g v3 (((l ++ numB (wz 6)) ++ numsB [fr, tt]) ++ numsB [inc]) from hWx)
  have hnb3 : ¬ WB g v3 b := fun hb => hnb (hG3.wb hbl hb)
  have hF3 : ∀ k, F k → ¬ WB g v3 k := fun k hk hb => hF k hk (hG3.wb (hFl k hk) hb)
  clear hWx hcx hGx
  clear hpt hcy hWA hFp HCZ hbd HW2
  have hbd : (((l ++ numB (wz 6)) ++ numsB [fr, tt]) ++ numsB [inc]).length + 9 * [tb, ts, tq].length ≤ 140737488355328 := by simp only [List.length_append, List.length_cons, List.length_nil]; omega
  go_upto_region 20 with (go_at_call 56; refine (wirTxn HW3.out (hcw3.cell c39 hnb) (hcw3.cell c40 hnb) (hcw3.cell c41 hnb) u39 u40 u41 hnb3 hbd).mono ?_; rintro e w4 ⟨rfl, v4, hWx, hcx, hGx⟩)
  have hcw4 := hcw3.wtr hG3 (hcx)
  have hG4 := hG3.trans hcw3.size (hGx.low (Nat.le_refl _))
  have HW4 := hide (show Wir w4 base g v4 ((((l ++ numB (wz 6)) ++ numsB [fr, tt]) ++ numsB [inc]) ++ numsB [tb, ts, tq]) from hWx)
  have hnb4 : ¬ WB g v4 b := fun hb => hnb (hG4.wb hbl hb)
  have hF4 : ∀ k, F k → ¬ WB g v4 k := fun k hk hb => hF k hk (hG4.wb (hFl k hk) hb)
  clear hWx hcx hGx
  clear hbd HW3
  have hbd : ((((l ++ numB (wz 6)) ++ numsB [fr, tt]) ++ numsB [inc]) ++ numsB [tb, ts, tq]).length + (opsB ops).length + 100 ≤ 140737488355328 := by simp only [List.length_append, List.length_cons, List.length_nil]; omega
  have hO3 := hops.lt.chg hcw4 (fun k hk => hF k (hO1 k hk)) (fun k hk => hF k hk.1)
  go_upto_region 37 with (go_at_call 58; refine (wirOps HW4.out (hcw4.cell c42 hnb) hnb4 hO3 (fun k hk => hF4 k (hO1 k hk)) (fun k hk => hF4 k hk.1) hwf hon hbd).mono ?_; rintro e w5 ⟨rfl, v5, hWx, hcx, hGx⟩)
  have hcw5 := hcw4.wtr hG4 (hcx)
  have hG5 := hG4.trans hcw4.size (hGx.low (Nat.le_refl _))
  have HW5 := hide (show Wir w5 base g v5 (((((l ++ numB (wz 6)) ++ numsB [fr, tt]) ++ numsB [inc]) ++ numsB [tb, ts, tq]) ++ (numB ops.length ++ opsB ops)) from hWx)
  have hnb5 : ¬ WB g v5 b := fun hb => hnb (hG5.wb hbl hb)
  have hF5 : ∀ k, F k → ¬ WB g v5 k := fun k hk hb => hF k hk (hG5.wb (hFl k hk) hb)
  clear hWx hcx hGx
  clear hbd hO3 HW4
  go_wp2_with fail
  go_ret
  refine ⟨rfl, v5, ?_, hcw5, hG5⟩
  have he : l ++ (numB (wz 6) ++ (numsB [fr, tt] ++ (numsB [inc] ++ (numsB [tb, ts, tq] ++ ((numB ops.length ++ opsB ops)))))) = ((((l ++ numB (wz 6)) ++ numsB [fr, tt]) ++ numsB [inc]) ++ numsB [tb, ts, tq]) ++ (numB ops.length ++ opsB ops) := by simp only [List.append_assoc, List.append_nil]
  rw [he]; exact HW5.out

set_option maxHeartbeats 16000000 in
set_option maxRecDepth 100000 in
theorem wirPReply {base g b : Nat} {v : Value} {l : List UInt8} {fr tt : Nat} {F : Nat → Prop} {w : World} {inc boot tb ts tq : Nat} {code : Int} {data : List UInt8} {vr : Value}
    (h : Wir w base g v l) (hnb : ¬ WB g v b) (hF : ∀ k, F k → ¬ WB g v k) (hFl : ∀ k, F k → k < w.heap.size)
    (c0 : w.cell? ⟨b, 0, none⟩ = some (.int .i64 7)) (f0 : w.frozen? ⟨b, 0, none⟩ = false) (c1 : w.cell? ⟨b, 1, none⟩ = some (.int .u64 (fr : Int))) (u1 : U64 fr) (c2 : w.cell? ⟨b, 2, none⟩ = some (.int .u64 (tt : Int))) (u2 : U64 tt)
    (c43 : w.cell? ⟨b, 43, none⟩ = some (.int .u64 (inc : Int))) (u43 : U64 inc) (c44 : w.cell? ⟨b, 44, none⟩ = some (.int .u64 (boot : Int))) (u44 : U64 boot) (c45 : w.cell? ⟨b, 45, none⟩ = some (.int .u64 (tb : Int))) (u45 : U64 tb) (c46 : w.cell? ⟨b, 46, none⟩ = some (.int .u64 (ts : Int))) (u46 : U64 ts) (c47 : w.cell? ⟨b, 47, none⟩ = some (.int .u64 (tq : Int))) (u47 : U64 tq) (c48 : w.cell? ⟨b, 48, none⟩ = some (.int .i64 code)) (f48 : w.frozen? ⟨b, 48, none⟩ = false) (hi : I64 code) (c49 : w.cell? ⟨b, 49, none⟩ = some vr) (hdat : RdB w F vr data)
    (hb : l.length + (numsB [inc, boot] ++ (numsB [tb, ts, tq] ++ (numB (wz code) ++ (flatB [data])))).length + 600 ≤ 140737488355328) :
    Calls Try.prog 26 #[.pointer (some ⟨g, 0, none⟩), .pointer (some ⟨b, 0, none⟩)] w fun e w' =>
      e = .returned (.bool true) ∧ ∃ v', Wir w' base g v' (l ++ (numB (wz 7) ++ (numsB [fr, tt] ++ (numsB [inc, boot] ++ (numsB [tb, ts, tq] ++ (numB (wz code) ++ (flatB [data]))))))) ∧ Chg (WB g v) w w' ∧ Grew w v v' := by
  have hbl : b < w.heap.size := World.block_lt_of_cell? w _ c0
  have hn2 := numsB_length [fr, tt]
  have hn1 := numB_length (wz 7)
  simp only [List.length_cons, List.length_nil] at hn2
  have hm0 := numsB_length [inc, boot]
  simp only [List.length_cons, List.length_nil] at hm0
  have hm1 := numsB_length [tb, ts, tq]
  simp only [List.length_cons, List.length_nil] at hm1
  have hm2 := numB_length (wz code)
  simp only [List.length_append] at hb
  have hcw0 := Chg.refl (WB g v) w
  have hG0 := Grew.refl w v
  have hnb0 := hnb
  have hF0 := hF
  have hpt := RdPt.lit w 133 #[.pointer (some ⟨b, 0, none⟩)] [⟨b, 0, none⟩] 1 rfl rfl (by simp [maxLen])
  have hcL := (Chg.refl Non w).alloc (.cells #[.pointer (some ⟨b, 0, none⟩)] 133)
  have hWL : Wir _ base g v l := h.al (.cells #[.pointer (some ⟨b, 0, none⟩)] 133)
  have hFp : ∀ k, k = w.heap.size → ¬ WB g v k := fun k e hb => by have := (h.lt k hb).2; omega
  have hcz := whole_one (hcL.cell c0 (fun h => h)) (hcL.frz c0 (fun h => h) f0) hnb (by omega)
  have HCZ := hide hcz
  clear hcz
  have hbd : l.length + 9 * [(7 : Int)].length ≤ 140737488355328 := by simp only [List.length_cons, List.length_nil]; omega
  go_enter Try.func26, Try.ntmps26
  go_upto_region 2 with (go_at_call 52; refine (wirWhole hWL hpt hFp rfl HCZ.out hbd).mono ?_; rintro e w1 ⟨rfl, v1, hWx, hcx, hGx⟩)
  have hWx : Wir w1 base g v1 (l ++ numB (wz 7)) := by rw [← numsB_one]; exact hWx
  have hcw1 := hcw0.wtr hG0 ((chgX (S := WB g v) hcL).trans hcx fun _ _ h => h)
  have hG1 := hG0.trans hcw0.size (hGx.low hcL.size)
  have HW1 := hide (show Wir w1 base g v1 (l ++ numB (wz 7)) from hWx)
  have hnb1 : ¬ WB g v1 b := fun hb => hnb (hG1.wb hbl hb)
  have hF1 : ∀ k, F k → ¬ WB g v1 k := fun k hk hb => hF k hk (hG1.wb (hFl k hk) hb)
  clear hWx hcx hGx
  clear hcL hWL hpt hFp HCZ hbd
  have hcd : Chg Non w1 w1.drew := (Chg.refl Non w1).drew
  have hWD : Wir w1.drew base g v1 (l ++ numB (wz 7)) := (HW1.out).c0 hcd
  have hpt := RdPt.lit w1.drew 135 #[.pointer (some ⟨b, 1, none⟩), .pointer (some ⟨b, 2, none⟩)] [⟨b, 1, none⟩, ⟨b, 2, none⟩] 2 rfl rfl (by simp [maxLen])
  have hcM := (Chg.refl Non w1.drew).alloc (.cells #[.pointer (some ⟨b, 1, none⟩), .pointer (some ⟨b, 2, none⟩)] 135)
  have hWA : Wir _ base g v1 (l ++ numB (wz 7)) := hWD.al (.cells #[.pointer (some ⟨b, 1, none⟩), .pointer (some ⟨b, 2, none⟩)] 135)
  have hFp : ∀ k, k = w1.drew.heap.size → ¬ WB g v1 k := fun k e hb => by have := (hWD.lt k hb).2; omega
  have hcy := hcd.trans0 hcM
  have hcz : ∀ (j : Nat) (a : Addr) (n : Nat), ([⟨b, 1, none⟩, ⟨b, 2, none⟩] : List Addr)[j]? = some a → [fr, tt][j]? = some n → (w1.drew.alloc (.cells #[.pointer (some ⟨b, 1, none⟩), .pointer (some ⟨b, 2, none⟩)] 135)).cell? a = some (.int .u64 (n : Int)) ∧ ¬ WB g v1 a.block ∧ U64 n := by
    intro j a n h1 h2
    match j, h1, h2 with
    | 0, h1, h2 => simp at h1 h2; subst h1; subst h2; exact ⟨hcy.cell (hcw1.cell c1 hnb) (fun h => h), hnb1, u1⟩
    | 1, h1, h2 => simp at h1 h2; subst h1; subst h2; exact ⟨hcy.cell (hcw1.cell c2 hnb) (fun h => h), hnb1, u2⟩
    | j + 2, h1, h2 => simp at h1
  have HCZ := hide hcz
  clear hcz
  have hbd : (l ++ numB (wz 7)).length + 9 * [fr, tt].length ≤ 140737488355328 := by simp only [List.length_append, List.length_cons, List.length_nil]; omega
  refine wp_region_T (fun _ => True) 99 (by kernel_rfl) ?_
  have HS := hide True.intro
  refine AnyT.take (i := 0) (v := ?_) rfl (by kernel_rfl) (by kernel_rfl) (fun _ _ _ h => h) (by kernel_rfl) (by kernel_rfl) (Or.inl ⟨by rfl, ?_⟩) HS.out ?_
  rotate_left
  · (intro w9 h9; go_simp; try with_reducible rfl)
  try simp only [getElem_toArray, getElem_cons_succ, getElem_cons_zero, Act.put, setIfInBounds_toArray, set_cons_zero, set_cons_succ]
  refine AnyT.take (i := 1) (v := ?_) rfl (by kernel_rfl) (by kernel_rfl) (fun _ _ _ h => h) (by kernel_rfl) (by kernel_rfl) (Or.inl ⟨by rfl, ?_⟩) HS.out ?_
  rotate_left
  · (intro w9 h9; go_simp; try with_reducible rfl)
  try simp only [getElem_toArray, getElem_cons_succ, getElem_cons_zero, Act.put, setIfInBounds_toArray, set_cons_zero, set_cons_succ]
  refine AnyT.take (i := 2) (v := ?_) rfl (by kernel_rfl) (by kernel_rfl) (fun _ _ _ h => h) (by kernel_rfl) (by kernel_rfl) (Or.inl ⟨by rfl, ?_⟩) HS.out ?_
  rotate_left
  · (intro w9 h9; go_simp; try with_reducible rfl)
  try simp only [getElem_toArray, getElem_cons_succ, getElem_cons_zero, Act.put, setIfInBounds_toArray, set_cons_zero, set_cons_succ]
  refine AnyT.take (i := 3) (v := ?_) rfl (by kernel_rfl) (by kernel_rfl) (fun _ _ _ h => h) (by kernel_rfl) (by kernel_rfl) (Or.inl ⟨by rfl, ?_⟩) HS.out ?_
  rotate_left
  · (intro w9 h9; go_simp; try with_reducible rfl)
  try simp only [getElem_toArray, getElem_cons_succ, getElem_cons_zero, Act.put, setIfInBounds_toArray, set_cons_zero, set_cons_succ]
  refine AnyT.take (i := 4) (v := ?_) rfl (by kernel_rfl) (by kernel_rfl) (fun _ _ _ h => h) (by kernel_rfl) (by kernel_rfl) (Or.inl ⟨by rfl, ?_⟩) HS.out ?_
  rotate_left
  · (intro w9 h9; go_simp; try with_reducible rfl)
  try simp only [getElem_toArray, getElem_cons_succ, getElem_cons_zero, Act.put, setIfInBounds_toArray, set_cons_zero, set_cons_succ]
  refine AnyT.take (i := 5) (v := ?_) rfl (by kernel_rfl) (by kernel_rfl) (fun _ _ _ h => h) (by kernel_rfl) (by kernel_rfl) (Or.inl ⟨by rfl, ?_⟩) HS.out ?_
  rotate_left
  · (intro w9 h9; go_simp; try with_reducible rfl)
  try simp only [getElem_toArray, getElem_cons_succ, getElem_cons_zero, Act.put, setIfInBounds_toArray, set_cons_zero, set_cons_succ]
  refine AnyT.take (i := 6) (v := ?_) rfl (by kernel_rfl) (by kernel_rfl) (fun _ _ _ h => h) (by kernel_rfl) (by kernel_rfl) (Or.inl ⟨by rfl, ?_⟩) HS.out ?_
  rotate_left
  · (intro w9 h9; go_simp; try with_reducible rfl)
  try simp only [getElem_toArray, getElem_cons_succ, getElem_cons_zero, Act.put, setIfInBounds_toArray, set_cons_zero, set_cons_succ]
  refine AnyT.one (i := 7) (by kernel_rfl) rfl (fun K hK => ?_)
  go_simp
  refine hK.out _ _ (fun _ => trivial) ?_
  clear hK K
  try simp only [getElem_toArray, getElem_cons_succ, getElem_cons_zero, Act.put, setIfInBounds_toArray, set_cons_zero, set_cons_succ]
  refine AnyT.one (i := 8) (by kernel_rfl) rfl (fun K hK => ?_)
  go_simp
  go_wp2_with (go_at_call 53; refine (wirNum (G := Non) hWA hpt hFp rfl HCZ.out hbd).mono ?_; rintro e w2 ⟨rfl, v2, hWx, hcx, hGx⟩)
  refine hK.out _ _ (fun _ => trivial) ?_
  clear hK K
  try simp only [getElem_toArray, getElem_cons_succ, getElem_cons_zero, Act.put, setIfInBounds_toArray, set_cons_zero, set_cons_succ]
  refine AnyT.nil (by kernel_rfl) ?_
  have hcw2 := hcw1.wtr hG1 ((chgX (S := WB g v1) hcy).trans hcx fun _ _ h => h)
  have hG2 := hG1.trans hcw1.size (hGx.low hcy.size)
  have HW2 := hide (show Wir w2 base g v2 ((l ++ numB (wz 7)) ++ numsB [fr, tt]) from hWx)
  have hnb2 : ¬ WB g v2 b := fun hb => hnb (hG2.wb hbl hb)
  have hF2 : ∀ k, F k → ¬ WB g v2 k := fun k hk hb => hF k hk (hG2.wb (hFl k hk) hb)
  clear hWx hcx hGx
  clear hpt hcy hWA hFp HCZ hbd hcd hWD hcM HS HW1
  have k0 := hcw2.cell c0 hnb
  go_upto_region 22 with fail
  have hcd : Chg Non w2 w2.drew := (Chg.refl Non w2).drew
  have hWD : Wir w2.drew base g v2 ((l ++ numB (wz 7)) ++ numsB [fr, tt]) := (HW2.out).c0 hcd
  have hpt := RdPt.lit w2.drew 135 #[.pointer (some ⟨b, 43, none⟩), .pointer (some ⟨b, 44, none⟩)] [⟨b, 43, none⟩, ⟨b, 44, none⟩] 2 rfl rfl (by simp [maxLen])
  have hcM := (Chg.refl Non w2.drew).alloc (.cells #[.pointer (some ⟨b, 43, none⟩), .pointer (some ⟨b, 44, none⟩)] 135)
  have hWA : Wir _ base g v2 ((l ++ numB (wz 7)) ++ numsB [fr, tt]) := hWD.al (.cells #[.pointer (some ⟨b, 43, none⟩), .pointer (some ⟨b, 44, none⟩)] 135)
  have hFp : ∀ k, k = w2.drew.heap.size → ¬ WB g v2 k := fun k e hb => by have := (hWD.lt k hb).2; omega
  have hcy := hcd.trans0 hcM
  have hcz : ∀ (j : Nat) (a : Addr) (n : Nat), ([⟨b, 43, none⟩, ⟨b, 44, none⟩] : List Addr)[j]? = some a → [inc, boot][j]? = some n → (w2.drew.alloc (.cells #[.pointer (some ⟨b, 43, none⟩), .pointer (some ⟨b, 44, none⟩)] 135)).cell? a = some (.int .u64 (n : Int)) ∧ ¬ WB g v2 a.block ∧ U64 n := by
    intro j a n h1 h2
    match j, h1, h2 with
    | 0, h1, h2 => simp at h1 h2; subst h1; subst h2; exact ⟨hcy.cell (hcw2.cell c43 hnb) (fun h => h), hnb2, u43⟩
    | 1, h1, h2 => simp at h1 h2; subst h1; subst h2; exact ⟨hcy.cell (hcw2.cell c44 hnb) (fun h => h), hnb2, u44⟩
    | j + 2, h1, h2 => simp at h1
  have HCZ := hide hcz
  clear hcz
  have hbd : ((l ++ numB (wz 7)) ++ numsB [fr, tt]).length + 9 * [inc, boot].length ≤ 140737488355328 := by simp only [List.length_append, List.length_cons, List.length_nil]; omega
  refine wp_region_T (fun _ => True) 99 (by kernel_rfl) ?_
  have HS := hide True.intro
  refine AnyT.take (i := 0) (v := ?_) rfl (by kernel_rfl) (by kernel_rfl) (fun _ _ _ h => h) (by kernel_rfl) (by kernel_rfl) (Or.inl ⟨by rfl, ?_⟩) HS.out ?_
  rotate_left
  · (intro w9 h9; go_simp; try with_reducible rfl)
  try simp only [getElem_toArray, getElem_cons_succ, getElem_cons_zero, Act.put, setIfInBounds_toArray, set_cons_zero, set_cons_succ]
  refine AnyT.take (i := 1) (v := ?_) rfl (by kernel_rfl) (by kernel_rfl) (fun _ _ _ h => h) (by kernel_rfl) (by kernel_rfl) (Or.inl ⟨by rfl, ?_⟩) HS.out ?_
  rotate_left
  · (intro w9 h9; go_simp; try with_reducible rfl)
  try simp only [getElem_toArray, getElem_cons_succ, getElem_cons_zero, Act.put, setIfInBounds_toArray, set_cons_zero, set_cons_succ]
  refine AnyT.take (i := 2) (v := ?_) rfl (by kernel_rfl) (by kernel_rfl) (fun _ _ _ h => h) (by kernel_rfl) (by kernel_rfl) (Or.inl ⟨by rfl, ?_⟩) HS.out ?_
  rotate_left
  · (intro w9 h9; go_simp; try with_reducible rfl)
  try simp only [getElem_toArray, getElem_cons_succ, getElem_cons_zero, Act.put, setIfInBounds_toArray, set_cons_zero, set_cons_succ]
  refine AnyT.take (i := 3) (v := ?_) rfl (by kernel_rfl) (by kernel_rfl) (fun _ _ _ h => h) (by kernel_rfl) (by kernel_rfl) (Or.inl ⟨by rfl, ?_⟩) HS.out ?_
  rotate_left
  · (intro w9 h9; go_simp; try with_reducible rfl)
  try simp only [getElem_toArray, getElem_cons_succ, getElem_cons_zero, Act.put, setIfInBounds_toArray, set_cons_zero, set_cons_succ]
  refine AnyT.take (i := 4) (v := ?_) rfl (by kernel_rfl) (by kernel_rfl) (fun _ _ _ h => h) (by kernel_rfl) (by kernel_rfl) (Or.inl ⟨by rfl, ?_⟩) HS.out ?_
  rotate_left
  · (intro w9 h9; go_simp; try with_reducible rfl)
  try simp only [getElem_toArray, getElem_cons_succ, getElem_cons_zero, Act.put, setIfInBounds_toArray, set_cons_zero, set_cons_succ]
  refine AnyT.take (i := 5) (v := ?_) rfl (by kernel_rfl) (by kernel_rfl) (fun _ _ _ h => h) (by kernel_rfl) (by kernel_rfl) (Or.inl ⟨by rfl, ?_⟩) HS.out ?_
  rotate_left
  · (intro w9 h9; go_simp; try with_reducible rfl)
  try simp only [getElem_toArray, getElem_cons_succ, getElem_cons_zero, Act.put, setIfInBounds_toArray, set_cons_zero, set_cons_succ]
  refine AnyT.take (i := 6) (v := ?_) rfl (by kernel_rfl) (by kernel_rfl) (fun _ _ _ h => h) (by kernel_rfl) (by kernel_rfl) (Or.inl ⟨by rfl, ?_⟩) HS.out ?_
  rotate_left
  · (intro w9 h9; go_simp; try with_reducible rfl)
  try simp only [getElem_toArray, getElem_cons_succ, getElem_cons_zero, Act.put, setIfInBounds_toArray, set_cons_zero, set_cons_succ]
  refine AnyT.take (i := 7) (v := ?_) rfl (by kernel_rfl) (by kernel_rfl) (fun _ _ _ h => h) (by kernel_rfl) (by kernel_rfl) (Or.inl ⟨by rfl, ?_⟩) HS.out ?_
  rotate_left
  · (intro w9 h9; go_simp; try with_reducible rfl)
  try simp only [getElem_toArray, getElem_cons_succ, getElem_cons_zero, Act.put, setIfInBounds_toArray, set_cons_zero, set_cons_succ]
  refine AnyT.take (i := 8) (v := ?_) rfl (by kernel_rfl) (by kernel_rfl) (fun _ _ _ h => h) (by kernel_rfl) (by kernel_rfl) (Or.inl ⟨by rfl, ?_⟩) HS.out ?_
  rotate_left
  · (intro w9 h9; go_simp; try with_reducible rfl)
  try simp only [getElem_toArray, getElem_cons_succ, getElem_cons_zero, Act.put, setIfInBounds_toArray, set_cons_zero, set_cons_succ]
  refine AnyT.one (i := 9) (by kernel_rfl) rfl (fun K hK => ?_)
  go_simp
  refine hK.out _ _ (fun _ => trivial) ?_
  clear hK K
  try simp only [getElem_toArray, getElem_cons_succ, getElem_cons_zero, Act.put, setIfInBounds_toArray, set_cons_zero, set_cons_succ]
  refine AnyT.one (i := 10) (by kernel_rfl) rfl (fun K hK => ?_)
  go_simp
  go_wp2_with (go_at_call 53; refine (wirNum (G := Non) hWA hpt hFp rfl HCZ.out hbd).mono ?_; rintro e w3 ⟨rfl, v3, hWx, hcx, hGx⟩)
  refine hK.out _ _ (fun _ => trivial) ?_
  clear hK K
  try simp only [getElem_toArray, getElem_cons_succ, getElem_cons_zero, Act.put, setIfInBounds_toArray, set_cons_zero, set_cons_succ]
  refine AnyT.nil (by kernel_rfl) ?_
  have hcw3 := hcw2.wtr hG2 ((chgX (S := WB g v2) hcy).trans hcx fun _ _ h => h)
  have hG3 := hG2.trans hcw2.size (hGx.low hcy.size)
  have HW3 := hide (show Wir w3 base g v3 (((l ++ numB (wz 7)) ++ numsB [fr, tt]) ++ numsB [inc, boot]) from hWx)
  have hnb3 : ¬ WB g v3 b := fun hb => hnb (hG3.wb hbl hb)
  have hF3 : ∀ k, F k → ¬ WB g v3 k := fun k hk hb => hF k hk (hG3.wb (hFl k hk) hb)
  clear hWx hcx hGx
  clear hpt hcy hWA hFp HCZ hbd hcd hWD hcM HS HW2
  have hbd : (((l ++ numB (wz 7)) ++ numsB [fr, tt]) ++ numsB [inc, boot]).length + 9 * [tb, ts, tq].length ≤ 140737488355328 := by simp only [List.length_append, List.length_cons, List.length_nil]; omega
  go_upto_region 24 with (go_at_call 56; refine (wirTxn HW3.out (hcw3.cell c45 hnb) (hcw3.cell c46 hnb) (hcw3.cell c47 hnb) u45 u46 u47 hnb3 hbd).mono ?_; rintro e w4 ⟨rfl, v4, hWx, hcx, hGx⟩)
  have hcw4 := hcw3.wtr hG3 (hcx)
  have hG4 := hG3.trans hcw3.size (hGx.low (Nat.le_refl _))
  have HW4 := hide (show Wir w4 base g v4 ((((l ++ numB (wz 7)) ++ numsB [fr, tt]) ++ numsB [inc, boot]) ++ numsB [tb, ts, tq]) from hWx)
  have hnb4 : ¬ WB g v4 b := fun hb => hnb (hG4.wb hbl hb)
  have hF4 : ∀ k, F k → ¬ WB g v4 k := fun k hk hb => hF k hk (hG4.wb (hFl k hk) hb)
  clear hWx hcx hGx
  clear hbd HW3
  have hbd : ((((l ++ numB (wz 7)) ++ numsB [fr, tt]) ++ numsB [inc, boot]) ++ numsB [tb, ts, tq]).length + 9 * [code].length ≤ 140737488355328 := by simp only [List.length_append, List.length_cons, List.length_nil]; omega
  go_upto_region 25 with (go_at_call 59; refine (wirErrno HW4.out (hcw4.cell c48 hnb) (hcw4.frz c48 hnb f48) hnb4 hi hbd).mono ?_; rintro e w5 ⟨rfl, v5, hWx, hcx, hGx⟩)
  have hcw5 := hcw4.wtr hG4 (hcx)
  have hG5 := hG4.trans hcw4.size (hGx.low (Nat.le_refl _))
  have HW5 := hide (show Wir w5 base g v5 (((((l ++ numB (wz 7)) ++ numsB [fr, tt]) ++ numsB [inc, boot]) ++ numsB [tb, ts, tq]) ++ numB (wz code)) from hWx)
  have hnb5 : ¬ WB g v5 b := fun hb => hnb (hG5.wb hbl hb)
  have hF5 : ∀ k, F k → ¬ WB g v5 k := fun k hk hb => hF k hk (hG5.wb (hFl k hk) hb)
  clear hWx hcx hGx
  clear hbd HW4
  obtain ⟨RR, rn, rc, rfl⟩ : ∃ A m c, vr = .slice A m c := by obtain ⟨A, c, e, _⟩ := hdat.shape; exact ⟨A, _, c, e⟩
  have hpt := RdPt.lit w5 149 #[.pointer (some ⟨b, 49, none⟩)] [⟨b, 49, none⟩] 1 rfl rfl (by simp [maxLen])
  have hcL := (Chg.refl Non w5).alloc (.cells #[.pointer (some ⟨b, 49, none⟩)] 149)
  have hWL : Wir _ base g v5 (((((l ++ numB (wz 7)) ++ numsB [fr, tt]) ++ numsB [inc, boot]) ++ numsB [tb, ts, tq]) ++ numB (wz code)) := HW5.out.al (.cells #[.pointer (some ⟨b, 49, none⟩)] 149)
  have hFp : ∀ k, k = w5.heap.size → ¬ WB g v5 k := fun k e hb => by have := (HW5.out.lt k hb).2; omega
  have hrp := hdat.chg hcw5 hF
  have hcz : ∀ (j : Nat) (a : Addr) (n : List UInt8), ([⟨b, 49, none⟩] : List Addr)[j]? = some a → [data][j]? = some n → ∃ u, (w5.alloc (.cells #[.pointer (some ⟨b, 49, none⟩)] 149)).cell? a = some u ∧ ¬ WB g v5 a.block ∧ RdB (w5.alloc (.cells #[.pointer (some ⟨b, 49, none⟩)] 149)) F u n := by
    intro j a n h1 h2
    match j, h1, h2 with
    | 0, h1, h2 => simp at h1 h2; subst h1; subst h2; exact ⟨_, hcL.cell (hcw5.cell c49 hnb) (fun h => h), hnb5, hrp.c0 hcL⟩
    | j + 1, h1, h2 => simp at h1
  have HCZ := hide hcz
  clear hcz
  have hbd : (((((l ++ numB (wz 7)) ++ numsB [fr, tt]) ++ numsB [inc, boot]) ++ numsB [tb, ts, tq]) ++ numB (wz code)).length + (flatB [data]).length + 9 ≤ 140737488355328 := by simp only [List.length_append, List.length_cons, List.length_nil]; omega
  go_upto_region 37 with (go_at_call 60; refine (wirData hWL hpt hFp rfl HCZ.out hF5 hbd).mono ?_; rintro e w6 ⟨rfl, v6, hWx, hcx, hGx⟩)
  have hcw6 := hcw5.wtr hG5 ((chgX (S := WB g v5) hcL).trans hcx fun _ _ h => h)
  have hG6 := hG5.trans hcw5.size (hGx.low hcL.size)
  have HW6 := hide (show Wir w6 base g v6 ((((((l ++ numB (wz 7)) ++ numsB [fr, tt]) ++ numsB [inc, boot]) ++ numsB [tb, ts, tq]) ++ numB (wz code)) ++ flatB [data]) from hWx)
  have hnb6 : ¬ WB g v6 b := fun hb => hnb (hG6.wb hbl hb)
  have hF6 : ∀ k, F k → ¬ WB g v6 k := fun k hk hb => hF k hk (hG6.wb (hFl k hk) hb)
  clear hWx hcx hGx
  clear hpt hcL hWL hFp HCZ hbd hrp HW5
  go_wp2_with fail
  go_ret
  refine ⟨rfl, v6, ?_, hcw6, hG6⟩
  have he : l ++ (numB (wz 7) ++ (numsB [fr, tt] ++ (numsB [inc, boot] ++ (numsB [tb, ts, tq] ++ (numB (wz code) ++ (flatB [data])))))) = (((((l ++ numB (wz 7)) ++ numsB [fr, tt]) ++ numsB [inc, boot]) ++ numsB [tb, ts, tq]) ++ numB (wz code)) ++ flatB [data] := by simp only [List.append_assoc, List.append_nil]
  rw [he]; exact HW6.out

end Go.Proofs.Ytncchbcoldgpbaa
