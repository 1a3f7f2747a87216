/- rpc's wire, where it writes: a packet. -/
import Derived.Test.YtncchbcoldgpbaaWjM
open List (getElem_toArray getElem_cons_succ getElem_cons_zero setIfInBounds_toArray set_cons_zero set_cons_succ)
namespace Go.Proofs.Ytncchbcoldgpbaa
open Go.RowKit
set_option linter.unusedVariables false
set_option linter.unusedSimpArgs false

set_option maxHeartbeats 16000000 in
set_option maxRecDepth 100000 in
theorem wirPOrder {base g b : Nat} {v : Value} {l : List UInt8} {fr tt : Nat} {F : Nat → Prop} {w : World} {inc boot session seq id parent : Nat} {name : ByteArray} {what : Int}
    (h : Wir w base g v l) (hnb : ¬ WB g v b) (hF : ∀ k, F k → ¬ WB g v k) (hFl : ∀ k, F k → k < w.heap.size)
    (c0 : w.cell? ⟨b, 0, none⟩ = some (.int .i64 8)) (f0 : w.frozen? ⟨b, 0, none⟩ = false) (c1 : w.cell? ⟨b, 1, none⟩ = some (.int .u64 (fr : Int))) (u1 : U64 fr) (c2 : w.cell? ⟨b, 2, none⟩ = some (.int .u64 (tt : Int))) (u2 : U64 tt)
    (c50 : w.cell? ⟨b, 50, none⟩ = some (.int .u64 (inc : Int))) (u50 : U64 inc) (c51 : w.cell? ⟨b, 51, none⟩ = some (.int .u64 (boot : Int))) (u51 : U64 boot) (c53 : w.cell? ⟨b, 53, none⟩ = some (.int .u64 (session : Int))) (u53 : U64 session) (c54 : w.cell? ⟨b, 54, none⟩ = some (.int .u64 (seq : Int))) (u54 : U64 seq) (c56 : w.cell? ⟨b, 56, none⟩ = some (.int .u64 (id : Int))) (u56 : U64 id) (c57 : w.cell? ⟨b, 57, none⟩ = some (.int .u64 (parent : Int))) (u57 : U64 parent) (c52 : w.cell? ⟨b, 52, none⟩ = some (.string name)) (f52 : w.frozen? ⟨b, 52, none⟩ = false) (hs : name.size ≤ 1000000000) (c55 : w.cell? ⟨b, 55, none⟩ = some (.int .i64 what)) (f55 : w.frozen? ⟨b, 55, none⟩ = false) (hi : I64 what)
    (hb : l.length + (numsB [inc, boot, session, seq, id, parent] ++ (flatB [name.data.toList] ++ (numB (wz what)))).length + 600 ≤ 140737488355328) :
    Calls Try.prog 26 #[.pointer (some ⟨g, 0, none⟩), .pointer (some ⟨b, 0, none⟩)] w fun e w' =>
      e = .returned (.bool true) ∧ ∃ v', Wir w' base g v' (l ++ (numB (wz 8) ++ (numsB [fr, tt] ++ (numsB [inc, boot, session, seq, id, parent] ++ (flatB [name.data.toList] ++ (numB (wz what))))))) ∧ Chg (WB g v) w w' ∧ Grew w v v' := by
  have hbl : b < w.heap.size := World.block_lt_of_cell? w _ c0
  have hn2 := numsB_length [fr, tt]
  have hn1 := numB_length (wz 8)
  simp only [List.length_cons, List.length_nil] at hn2
  have hm0 := numsB_length [inc, boot, session, seq, id, parent]
  simp only [List.length_cons, List.length_nil] at hm0
  have hm2 := numB_length (wz what)
  simp only [List.length_append] at hb
  have hcw0 := Chg.refl (WB g v) w
  have hG0 := Grew.refl w v
  have hnb0 := hnb
  have hF0 := hF
  have hpt := RdPt.lit w 133 #[.pointer (some ⟨b, 0, none⟩)] [⟨b, 0, none⟩] 1 rfl rfl (by simp [maxLen])
  have hcL := (Chg.refl Non w).alloc (.cells #[.pointer (some ⟨b, 0, none⟩)] 133)
  have hWL : Wir _ base g v l := h.al (.cells #[.pointer (some ⟨b, 0, none⟩)] 133)
  have hFp : ∀ k, k = w.heap.size → ¬ WB g v k := fun k e hb => by have := (h.lt k hb).2; omega
  have hcz := whole_one (hcL.cell c0 (fun h => h)) (hcL.frz c0 (fun h => h) f0) hnb (by omega)
  have HCZ := hide hcz
  clear hcz
  have hbd : l.length + 9 * [(8 : Int)].length ≤ 140737488355328 := by simp only [List.length_cons, List.length_nil]; omega
  go_enter Try.func26, Try.ntmps26
  go_upto_region 2 with (go_at_call 52; refine (wirWhole hWL hpt hFp rfl HCZ.out hbd).mono ?_; rintro e w1 ⟨rfl, v1, hWx, hcx, hGx⟩)
  have hWx : Wir w1 base g v1 (l ++ numB (wz 8)) := by rw [← numsB_one]; exact hWx
  have hcw1 := hcw0.wtr hG0 ((chgX (S := WB g v) hcL).trans hcx fun _ _ h => h)
  have hG1 := hG0.trans hcw0.size (hGx.low hcL.size)
  have HW1 := hide (show Wir w1 base g v1 (l ++ numB (wz 8)) from hWx)
  have hnb1 : ¬ WB g v1 b := fun hb => hnb (hG1.wb hbl hb)
  have hF1 : ∀ k, F k → ¬ WB g v1 k := fun k hk hb => hF k hk (hG1.wb (hFl k hk) hb)
  clear hWx hcx hGx
  clear hcL hWL hpt hFp HCZ hbd
  have hcd : Chg Non w1 w1.drew := (Chg.refl Non w1).drew
  have hWD : Wir w1.drew base g v1 (l ++ numB (wz 8)) := (HW1.out).c0 hcd
  have hpt := RdPt.lit w1.drew 135 #[.pointer (some ⟨b, 1, none⟩), .pointer (some ⟨b, 2, none⟩)] [⟨b, 1, none⟩, ⟨b, 2, none⟩] 2 rfl rfl (by simp [maxLen])
  have hcM := (Chg.refl Non w1.drew).alloc (.cells #[.pointer (some ⟨b, 1, none⟩), .pointer (some ⟨b, 2, none⟩)] 135)
  have hWA : Wir _ base g v1 (l ++ numB (wz 8)) := hWD.al (.cells #[.pointer (some ⟨b, 1, none⟩), .pointer (some ⟨b, 2, none⟩)] 135)
  have hFp : ∀ k, k = w1.drew.heap.size → ¬ WB g v1 k := fun k e hb => by have := (hWD.lt k hb).2; omega
  have hcy := hcd.trans0 hcM
  have hcz : ∀ (j : Nat) (a : Addr) (n : Nat), ([⟨b, 1, none⟩, ⟨b, 2, none⟩] : List Addr)[j]? = some a → [fr, tt][j]? = some n → (w1.drew.alloc (.cells #[.pointer (some ⟨b, 1, none⟩), .pointer (some ⟨b, 2, none⟩)] 135)).cell? a = some (.int .u64 (n : Int)) ∧ ¬ WB g v1 a.block ∧ U64 n := by
    intro j a n h1 h2
    match j, h1, h2 with
    | 0, h1, h2 => simp at h1 h2; subst h1; subst h2; exact ⟨hcy.cell (hcw1.cell c1 hnb) (fun h => h), hnb1, u1⟩
    | 1, h1, h2 => simp at h1 h2; subst h1; subst h2; exact ⟨hcy.cell (hcw1.cell c2 hnb) (fun h => h), hnb1, u2⟩
    | j + 2, h1, h2 => simp at h1
  have HCZ := hide hcz
  clear hcz
  have hbd : (l ++ numB (wz 8)).length + 9 * [fr, tt].length ≤ 140737488355328 := by simp only [List.length_append, List.length_cons, List.length_nil]; omega
  refine wp_region_T (fun _ => True) 99 (by kernel_rfl) ?_
  have HS := hide True.intro
  refine AnyT.take (i := 0) (v := ?_) rfl (by kernel_rfl) (by kernel_rfl) (fun _ _ _ h => h) (by kernel_rfl) (by kernel_rfl) (Or.inl ⟨by rfl, ?_⟩) HS.out ?_
  rotate_left
  · (intro w9 h9; go_simp; try with_reducible rfl)
  try simp only [getElem_toArray, getElem_cons_succ, getElem_cons_zero, Act.put, setIfInBounds_toArray, set_cons_zero, set_cons_succ]
  refine AnyT.take (i := 1) (v := ?_) rfl (by kernel_rfl) (by kernel_rfl) (fun _ _ _ h => h) (by kernel_rfl) (by kernel_rfl) (Or.inl ⟨by rfl, ?_⟩) HS.out ?_
  rotate_left
  · (intro w9 h9; go_simp; try with_reducible rfl)
  try simp only [getElem_toArray, getElem_cons_succ, getElem_cons_zero, Act.put, setIfInBounds_toArray, set_cons_zero, set_cons_succ]
  refine AnyT.take (i := 2) (v := ?_) rfl (by kernel_rfl) (by kernel_rfl) (fun _ _ _ h => h) (by kernel_rfl) (by kernel_rfl) (Or.inl ⟨by rfl, ?_⟩) HS.out ?_
  rotate_left
  · (intro w9 h9; go_simp; try with_reducible rfl)
  try simp only [getElem_toArray, getElem_cons_succ, getElem_cons_zero, Act.put, setIfInBounds_toArray, set_cons_zero, set_cons_succ]
  refine AnyT.take (i := 3) (v := ?_) rfl (by kernel_rfl) (by kernel_rfl) (fun _ _ _ h => h) (by kernel_rfl) (by kernel_rfl) (Or.inl ⟨by rfl, ?_⟩) HS.out ?_
  rotate_left
  · (intro w9 h9; go_simp; try with_reducible rfl)
  try simp only [getElem_toArray, getElem_cons_succ, getElem_cons_zero, Act.put, setIfInBounds_toArray, set_cons_zero, set_cons_succ]
  refine AnyT.take (i := 4) (v := ?_) rfl (by kernel_rfl) (by kernel_rfl) (fun _ _ _ h => h) (by kernel_rfl) (by kernel_rfl) (Or.inl ⟨by rfl, ?_⟩) HS.out ?_
  rotate_left
  · (intro w9 h9; go_simp; try with_reducible rfl)
  try simp only [getElem_toArray, getElem_cons_succ, getElem_cons_zero, Act.put, setIfInBounds_toArray, set_cons_zero, set_cons_succ]
  refine AnyT.take (i := 5) (v := ?_) rfl (by kernel_rfl) (by kernel_rfl) (fun _ _ _ h => h) (by kernel_rfl) (by kernel_rfl) (Or.inl ⟨by rfl, ?_⟩) HS.out ?_
  rotate_left
  · (intro w9 h9; go_simp; try with_reducible rfl)
  try simp only [getElem_toArray, getElem_cons_succ, getElem_cons_zero, Act.put, setIfInBounds_toArray, set_cons_zero, set_cons_succ]
  refine AnyT.take (i := 6) (v := ?_) rfl (by kernel_rfl) (by kernel_rfl) (fun _ _ _ h => h) (by kernel_rfl) (by kernel_rfl) (Or.inl ⟨by rfl, ?_⟩) HS.out ?_
  rotate_left
  · (intro w9 h9; go_simp; try with_reducible rfl)
  try simp only [getElem_toArray, getElem_cons_succ, getElem_cons_zero, Act.put, setIfInBounds_toArray, set_cons_zero, set_cons_succ]
  refine AnyT.one (i := 7) (by kernel_rfl) rfl (fun K hK => ?_)
  go_simp
  refine hK.out _ _ (fun _ => trivial) ?_
  clear hK K
  try simp only [getElem_toArray, getElem_cons_succ, getElem_cons_zero, Act.put, setIfInBounds_toArray, set_cons_zero, set_cons_succ]
  refine AnyT.one (i := 8) (by kernel_rfl) rfl (fun K hK => ?_)
  go_simp
  go_wp2_with (go_at_call 53; refine (wirNum (G := Non) hWA hpt hFp rfl HCZ.out hbd).mono ?_; rintro e w2 ⟨rfl, v2, hWx, hcx, hGx⟩)
  refine hK.out _ _ (fun _ => trivial) ?_
  clear hK K
  try simp only [getElem_toArray, getElem_cons_succ, getElem_cons_zero, Act.put, setIfInBounds_toArray, set_cons_zero, set_cons_succ]
  refine AnyT.nil (by kernel_rfl) ?_
  have hcw2 := hcw1.wtr hG1 ((chgX (S := WB g v1) hcy).trans hcx fun _ _ h => h)
  have hG2 := hG1.trans hcw1.size (hGx.low hcy.size)
  have HW2 := hide (show Wir w2 base g v2 ((l ++ numB (wz 8)) ++ numsB [fr, tt]) from hWx)
  have hnb2 : ¬ WB g v2 b := fun hb => hnb (hG2.wb hbl hb)
  have hF2 : ∀ k, F k → ¬ WB g v2 k := fun k hk hb => hF k hk (hG2.wb (hFl k hk) hb)
  clear hWx hcx hGx
  clear hpt hcy hWA hFp HCZ hbd hcd hWD hcM HS HW1
  have k0 := hcw2.cell c0 hnb
  go_upto_region 28 with fail
  have hcd : Chg Non w2 w2.drew := (Chg.refl Non w2).drew
  have hWD : Wir w2.drew base g v2 ((l ++ numB (wz 8)) ++ numsB [fr, tt]) := (HW2.out).c0 hcd
  have hpt := RdPt.lit w2.drew 135 #[.pointer (some ⟨b, 50, none⟩), .pointer (some ⟨b, 51, none⟩), .pointer (some ⟨b, 53, none⟩), .pointer (some ⟨b, 54, none⟩), .pointer (some ⟨b, 56, none⟩), .pointer (some ⟨b, 57, none⟩)] [⟨b, 50, none⟩, ⟨b, 51, none⟩, ⟨b, 53, none⟩, ⟨b, 54, none⟩, ⟨b, 56, none⟩, ⟨b, 57, none⟩] 6 rfl rfl (by simp [maxLen])
  have hcM := (Chg.refl Non w2.drew).alloc (.cells #[.pointer (some ⟨b, 50, none⟩), .pointer (some ⟨b, 51, none⟩), .pointer (some ⟨b, 53, none⟩), .pointer (some ⟨b, 54, none⟩), .pointer (some ⟨b, 56, none⟩), .pointer (some ⟨b, 57, none⟩)] 135)
  have hWA : Wir _ base g v2 ((l ++ numB (wz 8)) ++ numsB [fr, tt]) := hWD.al (.cells #[.pointer (some ⟨b, 50, none⟩), .pointer (some ⟨b, 51, none⟩), .pointer (some ⟨b, 53, none⟩), .pointer (some ⟨b, 54, none⟩), .pointer (some ⟨b, 56, none⟩), .pointer (some ⟨b, 57, none⟩)] 135)
  have hFp : ∀ k, k = w2.drew.heap.size → ¬ WB g v2 k := fun k e hb => by have := (hWD.lt k hb).2; omega
  have hcy := hcd.trans0 hcM
  have hcz : ∀ (j : Nat) (a : Addr) (n : Nat), ([⟨b, 50, none⟩, ⟨b, 51, none⟩, ⟨b, 53, none⟩, ⟨b, 54, none⟩, ⟨b, 56, none⟩, ⟨b, 57, none⟩] : List Addr)[j]? = some a → [inc, boot, session, seq, id, parent][j]? = some n → (w2.drew.alloc (.cells #[.pointer (some ⟨b, 50, none⟩), .pointer (some ⟨b, 51, none⟩), .pointer (some ⟨b, 53, none⟩), .pointer (some ⟨b, 54, none⟩), .pointer (some ⟨b, 56, none⟩), .pointer (some ⟨b, 57, none⟩)] 135)).cell? a = some (.int .u64 (n : Int)) ∧ ¬ WB g v2 a.block ∧ U64 n := by
    intro j a n h1 h2
    match j, h1, h2 with
    | 0, h1, h2 => simp at h1 h2; subst h1; subst h2; exact ⟨hcy.cell (hcw2.cell c50 hnb) (fun h => h), hnb2, u50⟩
    | 1, h1, h2 => simp at h1 h2; subst h1; subst h2; exact ⟨hcy.cell (hcw2.cell c51 hnb) (fun h => h), hnb2, u51⟩
    | 2, h1, h2 => simp at h1 h2; subst h1; subst h2; exact ⟨hcy.cell (hcw2.cell c53 hnb) (fun h => h), hnb2, u53⟩
    | 3, h1, h2 => simp at h1 h2; subst h1; subst h2; exact ⟨hcy.cell (hcw2.cell c54 hnb) (fun h => h), hnb2, u54⟩
    | 4, h1, h2 => simp at h1 h2; subst h1; subst h2; exact ⟨hcy.cell (hcw2.cell c56 hnb) (fun h => h), hnb2, u56⟩
    | 5, h1, h2 => simp at h1 h2; subst h1; subst h2; exact ⟨hcy.cell (hcw2.cell c57 hnb) (fun h => h), hnb2, u57⟩
    | j + 6, h1, h2 => simp at h1
  have HCZ := hide hcz
  clear hcz
  have hbd : ((l ++ numB (wz 8)) ++ numsB [fr, tt]).length + 9 * [inc, boot, session, seq, id, parent].length ≤ 140737488355328 := by simp only [List.length_append, List.length_cons, List.length_nil]; omega
  refine wp_region_T (fun _ => True) 99 (by kernel_rfl) ?_
  have HS := hide True.intro
  refine AnyT.take (i := 0) (v := ?_) rfl (by kernel_rfl) (by kernel_rfl) (fun _ _ _ h => h) (by kernel_rfl) (by kernel_rfl) (Or.inl ⟨by rfl, ?_⟩) HS.out ?_
  rotate_left
  · (intro w9 h9; go_simp; try with_reducible rfl)
  try simp only [getElem_toArray, getElem_cons_succ, getElem_cons_zero, Act.put, setIfInBounds_toArray, set_cons_zero, set_cons_succ]
  refine AnyT.take (i := 1) (v := ?_) rfl (by kernel_rfl) (by kernel_rfl) (fun _ _ _ h => h) (by kernel_rfl) (by kernel_rfl) (Or.inl ⟨by rfl, ?_⟩) HS.out ?_
  rotate_left
  · (intro w9 h9; go_simp; try with_reducible rfl)
  try simp only [getElem_toArray, getElem_cons_succ, getElem_cons_zero, Act.put, setIfInBounds_toArray, set_cons_zero, set_cons_succ]
  refine AnyT.take (i := 2) (v := ?_) rfl (by kernel_rfl) (by kernel_rfl) (fun _ _ _ h => h) (by kernel_rfl) (by kernel_rfl) (Or.inl ⟨by rfl, ?_⟩) HS.out ?_
  rotate_left
  · (intro w9 h9; go_simp; try with_reducible rfl)
  try simp only [getElem_toArray, getElem_cons_succ, getElem_cons_zero, Act.put, setIfInBounds_toArray, set_cons_zero, set_cons_succ]
  refine AnyT.take (i := 3) (v := ?_) rfl (by kernel_rfl) (by kernel_rfl) (fun _ _ _ h => h) (by kernel_rfl) (by kernel_rfl) (Or.inl ⟨by rfl, ?_⟩) HS.out ?_
  rotate_left
  · (intro w9 h9; go_simp; try with_reducible rfl)
  try simp only [getElem_toArray, getElem_cons_succ, getElem_cons_zero, Act.put, setIfInBounds_toArray, set_cons_zero, set_cons_succ]
  refine AnyT.take (i := 4) (v := ?_) rfl (by kernel_rfl) (by kernel_rfl) (fun _ _ _ h => h) (by kernel_rfl) (by kernel_rfl) (Or.inl ⟨by rfl, ?_⟩) HS.out ?_
  rotate_left
  · (intro w9 h9; go_simp; try with_reducible rfl)
  try simp only [getElem_toArray, getElem_cons_succ, getElem_cons_zero, Act.put, setIfInBounds_toArray, set_cons_zero, set_cons_succ]
  refine AnyT.take (i := 5) (v := ?_) rfl (by kernel_rfl) (by kernel_rfl) (fun _ _ _ h => h) (by kernel_rfl) (by kernel_rfl) (Or.inl ⟨by rfl, ?_⟩) HS.out ?_
  rotate_left
  · (intro w9 h9; go_simp; try with_reducible rfl)
  try simp only [getElem_toArray, getElem_cons_succ, getElem_cons_zero, Act.put, setIfInBounds_toArray, set_cons_zero, set_cons_succ]
  refine AnyT.take (i := 6) (v := ?_) rfl (by kernel_rfl) (by kernel_rfl) (fun _ _ _ h => h) (by kernel_rfl) (by kernel_rfl) (Or.inl ⟨by rfl, ?_⟩) HS.out ?_
  rotate_left
  · (intro w9 h9; go_simp; try with_reducible rfl)
  try simp only [getElem_toArray, getElem_cons_succ, getElem_cons_zero, Act.put, setIfInBounds_toArray, set_cons_zero, set_cons_succ]
  refine AnyT.take (i := 7) (v := ?_) rfl (by kernel_rfl) (by kernel_rfl) (fun _ _ _ h => h) (by kernel_rfl) (by kernel_rfl) (Or.inl ⟨by rfl, ?_⟩) HS.out ?_
  rotate_left
  · (intro w9 h9; go_simp; try with_reducible rfl)
  try simp only [getElem_toArray, getElem_cons_succ, getElem_cons_zero, Act.put, setIfInBounds_toArray, set_cons_zero, set_cons_succ]
  refine AnyT.take (i := 8) (v := ?_) rfl (by kernel_rfl) (by kernel_rfl) (fun _ _ _ h => h) (by kernel_rfl) (by kernel_rfl) (Or.inl ⟨by rfl, ?_⟩) HS.out ?_
  rotate_left
  · (intro w9 h9; go_simp; try with_reducible rfl)
  try simp only [getElem_toArray, getElem_cons_succ, getElem_cons_zero, Act.put, setIfInBounds_toArray, set_cons_zero, set_cons_succ]
  refine AnyT.take (i := 9) (v := ?_) rfl (by kernel_rfl) (by kernel_rfl) (fun _ _ _ h => h) (by kernel_rfl) (by kernel_rfl) (Or.inl ⟨by rfl, ?_⟩) HS.out ?_
  rotate_left
  · (intro w9 h9; go_simp; try with_reducible rfl)
  try simp only [getElem_toArray, getElem_cons_succ, getElem_cons_zero, Act.put, setIfInBounds_toArray, set_cons_zero, set_cons_succ]
  refine AnyT.take (i := 10) (v := ?_) rfl (by kernel_rfl) (by kernel_rfl) (fun _ _ _ h => h) (by kernel_rfl) (by kernel_rfl) (Or.inl ⟨by rfl, ?_⟩) HS.out ?_
  rotate_left
  · (intro w9 h9; go_simp; try with_reducible rfl)
  try simp only [getElem_toArray, getElem_cons_succ, getElem_cons_zero, Act.put, setIfInBounds_toArray, set_cons_zero, set_cons_succ]
  refine AnyT.take (i := 11) (v := ?_) rfl (by kernel_rfl) (by kernel_rfl) (fun _ _ _ h => h) (by kernel_rfl) (by kernel_rfl) (Or.inl ⟨by rfl, ?_⟩) HS.out ?_
  rotate_left
  · (intro w9 h9; go_simp; try with_reducible rfl)
  try simp only [getElem_toArray, getElem_cons_succ, getElem_cons_zero, Act.put, setIfInBounds_toArray, set_cons_zero, set_cons_succ]
  refine AnyT.take (i := 12) (v := ?_) rfl (by kernel_rfl) (by kernel_rfl) (fun _ _ _ h => h) (by kernel_rfl) (by kernel_rfl) (Or.inl ⟨by rfl, ?_⟩) HS.out ?_
  rotate_left
  · (intro w9 h9; go_simp; try with_reducible rfl)
  try simp only [getElem_toArray, getElem_cons_succ, getElem_cons_zero, Act.put, setIfInBounds_toArray, set_cons_zero, set_cons_succ]
  refine AnyT.take (i := 13) (v := ?_) rfl (by kernel_rfl) (by kernel_rfl) (fun _ _ _ h => h) (by kernel_rfl) (by kernel_rfl) (Or.inl ⟨by rfl, ?_⟩) HS.out ?_
  rotate_left
  · (intro w9 h9; go_simp; try with_reducible rfl)
  try simp only [getElem_toArray, getElem_cons_succ, getElem_cons_zero, Act.put, setIfInBounds_toArray, set_cons_zero, set_cons_succ]
  refine AnyT.take (i := 14) (v := ?_) rfl (by kernel_rfl) (by kernel_rfl) (fun _ _ _ h => h) (by kernel_rfl) (by kernel_rfl) (Or.inl ⟨by rfl, ?_⟩) HS.out ?_
  rotate_left
  · (intro w9 h9; go_simp; try with_reducible rfl)
  try simp only [getElem_toArray, getElem_cons_succ, getElem_cons_zero, Act.put, setIfInBounds_toArray, set_cons_zero, set_cons_succ]
  refine AnyT.take (i := 15) (v := ?_) rfl (by kernel_rfl) (by kernel_rfl) (fun _ _ _ h => h) (by kernel_rfl) (by kernel_rfl) (Or.inl ⟨by rfl, ?_⟩) HS.out ?_
  rotate_left
  · (intro w9 h9; go_simp; try with_reducible rfl)
  try simp only [getElem_toArray, getElem_cons_succ, getElem_cons_zero, Act.put, setIfInBounds_toArray, set_cons_zero, set_cons_succ]
  refine AnyT.take (i := 16) (v := ?_) rfl (by kernel_rfl) (by kernel_rfl) (fun _ _ _ h => h) (by kernel_rfl) (by kernel_rfl) (Or.inl ⟨by rfl, ?_⟩) HS.out ?_
  rotate_left
  · (intro w9 h9; go_simp; try with_reducible rfl)
  try simp only [getElem_toArray, getElem_cons_succ, getElem_cons_zero, Act.put, setIfInBounds_toArray, set_cons_zero, set_cons_succ]
  refine AnyT.take (i := 17) (v := ?_) rfl (by kernel_rfl) (by kernel_rfl) (fun _ _ _ h => h) (by kernel_rfl) (by kernel_rfl) (Or.inl ⟨by rfl, ?_⟩) HS.out ?_
  rotate_left
  · (intro w9 h9; go_simp; try with_reducible rfl)
  try simp only [getElem_toArray, getElem_cons_succ, getElem_cons_zero, Act.put, setIfInBounds_toArray, set_cons_zero, set_cons_succ]
  refine AnyT.take (i := 18) (v := ?_) rfl (by kernel_rfl) (by kernel_rfl) (fun _ _ _ h => h) (by kernel_rfl) (by kernel_rfl) (Or.inl ⟨by rfl, ?_⟩) HS.out ?_
  rotate_left
  · (intro w9 h9; go_simp; try with_reducible rfl)
  try simp only [getElem_toArray, getElem_cons_succ, getElem_cons_zero, Act.put, setIfInBounds_toArray, set_cons_zero, set_cons_succ]
  refine AnyT.take (i := 19) (v := ?_) rfl (by kernel_rfl) (by kernel_rfl) (fun _ _ _ h => h) (by kernel_rfl) (by kernel_rfl) (Or.inl ⟨by rfl, ?_⟩) HS.out ?_
  rotate_left
  · (intro w9 h9; go_simp; try with_reducible rfl)
  try simp only [getElem_toArray, getElem_cons_succ, getElem_cons_zero, Act.put, setIfInBounds_toArray, set_cons_zero, set_cons_succ]
  refine AnyT.take (i := 20) (v := ?_) rfl (by kernel_rfl) (by kernel_rfl) (fun _ _ _ h => h) (by kernel_rfl) (by kernel_rfl) (Or.inl ⟨by rfl, ?_⟩) HS.out ?_
  rotate_left
  · (intro w9 h9; go_simp; try with_reducible rfl)
  try simp only [getElem_toArray, getElem_cons_succ, getElem_cons_zero, Act.put, setIfInBounds_toArray, set_cons_zero, set_cons_succ]
  refine AnyT.take (i := 21) (v := ?_) rfl (by kernel_rfl) (by kernel_rfl) (fun _ _ _ h => h) (by kernel_rfl) (by kernel_rfl) (Or.inl ⟨by rfl, ?_⟩) HS.out ?_
  rotate_left
  · (intro w9 h9; go_simp; try with_reducible rfl)
  try simp only [getElem_toArray, getElem_cons_succ, getElem_cons_zero, Act.put, setIfInBounds_toArray, set_cons_zero, set_cons_succ]
  refine AnyT.take (i := 22) (v := ?_) rfl (by kernel_rfl) (by kernel_rfl) (fun _ _ _ h => h) (by kernel_rfl) (by kernel_rfl) (Or.inl ⟨by rfl, ?_⟩) HS.out ?_
  rotate_left
  · (intro w9 h9; go_simp; try with_reducible rfl)
  try simp only [getElem_toArray, getElem_cons_succ, getElem_cons_zero, Act.put, setIfInBounds_toArray, set_cons_zero, set_cons_succ]
  refine AnyT.one (i := 23) (by kernel_rfl) rfl (fun K hK => ?_)
  go_simp
  refine hK.out _ _ (fun _ => trivial) ?_
  clear hK K
  try simp only [getElem_toArray, getElem_cons_succ, getElem_cons_zero, Act.put, setIfInBounds_toArray, set_cons_zero, set_cons_succ]
  refine AnyT.one (i := 24) (by kernel_rfl) rfl (fun K hK => ?_)
  go_simp
  go_wp2_with (go_at_call 53; refine (wirNum (G := Non) hWA hpt hFp rfl HCZ.out hbd).mono ?_; rintro e w3 ⟨rfl, v3, hWx, hcx, hGx⟩)
  refine hK.out _ _ (fun _ => trivial) ?_
  clear hK K
  try simp only [getElem_toArray, getElem_cons_succ, getElem_cons_zero, Act.put, setIfInBounds_toArray, set_cons_zero, set_cons_succ]
  refine AnyT.nil (by kernel_rfl) ?_
  have hcw3 := hcw2.wtr hG2 ((chgX (S := WB g v2) hcy).trans hcx fun _ _ h => h)
  have hG3 := hG2.trans hcw2.size (hGx.low hcy.size)
  have HW3 := hide (show Wir w3 base g v3 (((l ++ numB (wz 8)) ++ numsB [fr, tt]) ++ numsB [inc, boot, session, seq, id, parent]) from hWx)
  have hnb3 : ¬ WB g v3 b := fun hb => hnb (hG3.wb hbl hb)
  have hF3 : ∀ k, F k → ¬ WB g v3 k := fun k hk hb => hF k hk (hG3.wb (hFl k hk) hb)
  clear hWx hcx hGx
  clear hpt hcy hWA hFp HCZ hbd hcd hWD hcM HS HW2
  have hbd : (((l ++ numB (wz 8)) ++ numsB [fr, tt]) ++ numsB [inc, boot, session, seq, id, parent]).length + (flatB [name.data.toList]).length + 9 ≤ 140737488355328 := by simp only [List.length_append, List.length_cons, List.length_nil]; omega
  go_upto_region 30 with (go_at_call 57; refine (wirText HW3.out (hcw3.cell c52 hnb) (hcw3.frz c52 hnb f52) hnb3 hs hbd).mono ?_; rintro e w4 ⟨rfl, v4, hWx, hcx, hGx⟩)
  have hcw4 := hcw3.wtr hG3 (hcx)
  have hG4 := hG3.trans hcw3.size (hGx.low (Nat.le_refl _))
  have HW4 := hide (show Wir w4 base g v4 ((((l ++ numB (wz 8)) ++ numsB [fr, tt]) ++ numsB [inc, boot, session, seq, id, parent]) ++ flatB [name.data.toList]) from hWx)
  have hnb4 : ¬ WB g v4 b := fun hb => hnb (hG4.wb hbl hb)
  have hF4 : ∀ k, F k → ¬ WB g v4 k := fun k hk hb => hF k hk (hG4.wb (hFl k hk) hb)
  clear hWx hcx hGx
  clear hbd HW3
  have hpt := RdPt.lit w4 133 #[.pointer (some ⟨b, 55, none⟩)] [⟨b, 55, none⟩] 1 rfl rfl (by simp [maxLen])
  have hcL := (Chg.refl Non w4).alloc (.cells #[.pointer (some ⟨b, 55, none⟩)] 133)
  have hWL : Wir _ base g v4 ((((l ++ numB (wz 8)) ++ numsB [fr, tt]) ++ numsB [inc, boot, session, seq, id, parent]) ++ flatB [name.data.toList]) := HW4.out.al (.cells #[.pointer (some ⟨b, 55, none⟩)] 133)
  have hFp : ∀ k, k = w4.heap.size → ¬ WB g v4 k := fun k e hb => by have := (HW4.out.lt k hb).2; omega
  have hcz := whole_one (hcL.cell (hcw4.cell c55 hnb) (fun h => h)) (hcL.frz (hcw4.cell c55 hnb) (fun h => h) (hcw4.frz c55 hnb f55)) hnb4 hi
  have HCZ := hide hcz
  clear hcz
  have hbd : ((((l ++ numB (wz 8)) ++ numsB [fr, tt]) ++ numsB [inc, boot, session, seq, id, parent]) ++ flatB [name.data.toList]).length + 9 * [what].length ≤ 140737488355328 := by simp only [List.length_append, List.length_cons, List.length_nil]; omega
  go_upto_region 37 with (go_at_call 52; refine (wirWhole hWL hpt hFp rfl HCZ.out hbd).mono ?_; rintro e w5 ⟨rfl, v5, hWx, hcx, hGx⟩)
  have hWx : Wir w5 base g v5 (((((l ++ numB (wz 8)) ++ numsB [fr, tt]) ++ numsB [inc, boot, session, seq, id, parent]) ++ flatB [name.data.toList]) ++ numB (wz what)) := by rw [← numsB_one (wz what)]; exact hWx
  have hcw5 := hcw4.wtr hG4 ((chgX (S := WB g v4) hcL).trans hcx fun _ _ h => h)
  have hG5 := hG4.trans hcw4.size (hGx.low hcL.size)
  have HW5 := hide (show Wir w5 base g v5 (((((l ++ numB (wz 8)) ++ numsB [fr, tt]) ++ numsB [inc, boot, session, seq, id, parent]) ++ flatB [name.data.toList]) ++ numB (wz what)) from hWx)
  have hnb5 : ¬ WB g v5 b := fun hb => hnb (hG5.wb hbl hb)
  have hF5 : ∀ k, F k → ¬ WB g v5 k := fun k hk hb => hF k hk (hG5.wb (hFl k hk) hb)
  clear hWx hcx hGx
  clear hpt hcL hWL hFp HCZ hbd HW4
  go_wp2_with fail
  go_ret
  refine ⟨rfl, v5, ?_, hcw5, hG5⟩
  have he : l ++ (numB (wz 8) ++ (numsB [fr, tt] ++ (numsB [inc, boot, session, seq, id, parent] ++ (flatB [name.data.toList] ++ (numB (wz what)))))) = ((((l ++ numB (wz 8)) ++ numsB [fr, tt]) ++ numsB [inc, boot, session, seq, id, parent]) ++ flatB [name.data.toList]) ++ numB (wz what) := by simp only [List.append_assoc, List.append_nil]
  rw [he]; exact HW5.out

set_option maxHeartbeats 16000000 in
set_option maxRecDepth 100000 in
theorem wirPResult {base g b : Nat} {v : Value} {l : List UInt8} {fr tt : Nat} {F : Nat → Prop} {w : World} {inc boot session seq : Nat} {err : Int}
    (h : Wir w base g v l) (hnb : ¬ WB g v b) (hF : ∀ k, F k → ¬ WB g v k) (hFl : ∀ k, F k → k < w.heap.size)
    (c0 : w.cell? ⟨b, 0, none⟩ = some (.int .i64 9)) (f0 : w.frozen? ⟨b, 0, none⟩ = false) (c1 : w.cell? ⟨b, 1, none⟩ = some (.int .u64 (fr : Int))) (u1 : U64 fr) (c2 : w.cell? ⟨b, 2, none⟩ = some (.int .u64 (tt : Int))) (u2 : U64 tt)
    (c58 : w.cell? ⟨b, 58, none⟩ = some (.int .u64 (inc : Int))) (u58 : U64 inc) (c59 : w.cell? ⟨b, 59, none⟩ = some (.int .u64 (boot : Int))) (u59 : U64 boot) (c60 : w.cell? ⟨b, 60, none⟩ = some (.int .u64 (session : Int))) (u60 : U64 session) (c61 : w.cell? ⟨b, 61, none⟩ = some (.int .u64 (seq : Int))) (u61 : U64 seq) (c62 : w.cell? ⟨b, 62, none⟩ = some (.int .i64 err)) (f62 : w.frozen? ⟨b, 62, none⟩ = false) (hi : I64 err)
    (hb : l.length + (numsB [inc, boot, session, seq] ++ (numB (wz err))).length + 600 ≤ 140737488355328) :
    Calls Try.prog 26 #[.pointer (some ⟨g, 0, none⟩), .pointer (some ⟨b, 0, none⟩)] w fun e w' =>
      e = .returned (.bool true) ∧ ∃ v', Wir w' base g v' (l ++ (numB (wz 9) ++ (numsB [fr, tt] ++ (numsB [inc, boot, session, seq] ++ (numB (wz err)))))) ∧ Chg (WB g v) w w' ∧ Grew w v v' := by
  have hbl : b < w.heap.size := World.block_lt_of_cell? w _ c0
  have hn2 := numsB_length [fr, tt]
  have hn1 := numB_length (wz 9)
  simp only [List.length_cons, List.length_nil] at hn2
  have hm0 := numsB_length [inc, boot, session, seq]
  simp only [List.length_cons, List.length_nil] at hm0
  have hm1 := numB_length (wz err)
  simp only [List.length_append] at hb
  have hcw0 := Chg.refl (WB g v) w
  have hG0 := Grew.refl w v
  have hnb0 := hnb
  have hF0 := hF
  have hpt := RdPt.lit w 133 #[.pointer (some ⟨b, 0, none⟩)] [⟨b, 0, none⟩] 1 rfl rfl (by simp [maxLen])
  have hcL := (Chg.refl Non w).alloc (.cells #[.pointer (some ⟨b, 0, none⟩)] 133)
  have hWL : Wir _ base g v l := h.al (.cells #[.pointer (some ⟨b, 0, none⟩)] 133)
  have hFp : ∀ k, k = w.heap.size → ¬ WB g v k := fun k e hb => by have := (h.lt k hb).2; omega
  have hcz := whole_one (hcL.cell c0 (fun h => h)) (hcL.frz c0 (fun h => h) f0) hnb (by omega)
  have HCZ := hide hcz
  clear hcz
  have hbd : l.length + 9 * [(9 : Int)].length ≤ 140737488355328 := by simp only [List.length_cons, List.length_nil]; omega
  go_enter Try.func26, Try.ntmps26
  go_upto_region 2 with (go_at_call 52; refine (wirWhole hWL hpt hFp rfl HCZ.out hbd).mono ?_; rintro e w1 ⟨rfl, v1, hWx, hcx, hGx⟩)
  have hWx : Wir w1 base g v1 (l ++ numB (wz 9)) := by rw [← numsB_one]; exact hWx
  have hcw1 := hcw0.wtr hG0 ((chgX (S := WB g v) hcL).trans hcx fun _ _ h => h)
  have hG1 := hG0.trans hcw0.size (hGx.low hcL.size)
  have HW1 := hide (show Wir w1 base g v1 (l ++ numB (wz 9)) from hWx)
  have hnb1 : ¬ WB g v1 b := fun hb => hnb (hG1.wb hbl hb)
  have hF1 : ∀ k, F k → ¬ WB g v1 k := fun k hk hb => hF k hk (hG1.wb (hFl k hk) hb)
  clear hWx hcx hGx
  clear hcL hWL hpt hFp HCZ hbd
  have hcd : Chg Non w1 w1.drew := (Chg.refl Non w1).drew
  have hWD : Wir w1.drew base g v1 (l ++ numB (wz 9)) := (HW1.out).c0 hcd
  have hpt := RdPt.lit w1.drew 135 #[.pointer (some ⟨b, 1, none⟩), .pointer (some ⟨b, 2, none⟩)] [⟨b, 1, none⟩, ⟨b, 2, none⟩] 2 rfl rfl (by simp [maxLen])
  have hcM := (Chg.refl Non w1.drew).alloc (.cells #[.pointer (some ⟨b, 1, none⟩), .pointer (some ⟨b, 2, none⟩)] 135)
  have hWA : Wir _ base g v1 (l ++ numB (wz 9)) := hWD.al (.cells #[.pointer (some ⟨b, 1, none⟩), .pointer (some ⟨b, 2, none⟩)] 135)
  have hFp : ∀ k, k = w1.drew.heap.size → ¬ WB g v1 k := fun k e hb => by have := (hWD.lt k hb).2; omega
  have hcy := hcd.trans0 hcM
  have hcz : ∀ (j : Nat) (a : Addr) (n : Nat), ([⟨b, 1, none⟩, ⟨b, 2, none⟩] : List Addr)[j]? = some a → [fr, tt][j]? = some n → (w1.drew.alloc (.cells #[.pointer (some ⟨b, 1, none⟩), .pointer (some ⟨b, 2, none⟩)] 135)).cell? a = some (.int .u64 (n : Int)) ∧ ¬ WB g v1 a.block ∧ U64 n := by
    intro j a n h1 h2
    match j, h1, h2 with
    | 0, h1, h2 => simp at h1 h2; subst h1; subst h2; exact ⟨hcy.cell (hcw1.cell c1 hnb) (fun h => h), hnb1, u1⟩
    | 1, h1, h2 => simp at h1 h2; subst h1; subst h2; exact ⟨hcy.cell (hcw1.cell c2 hnb) (fun h => h), hnb1, u2⟩
    | j + 2, h1, h2 => simp at h1
  have HCZ := hide hcz
  clear hcz
  have hbd : (l ++ numB (wz 9)).length + 9 * [fr, tt].length ≤ 140737488355328 := by simp only [List.length_append, List.length_cons, List.length_nil]; omega
  refine wp_region_T (fun _ => True) 99 (by kernel_rfl) ?_
  have HS := hide True.intro
  refine AnyT.take (i := 0) (v := ?_) rfl (by kernel_rfl) (by kernel_rfl) (fun _ _ _ h => h) (by kernel_rfl) (by kernel_rfl) (Or.inl ⟨by rfl, ?_⟩) HS.out ?_
  rotate_left
  · (intro w9 h9; go_simp; try with_reducible rfl)
  try simp only [getElem_toArray, getElem_cons_succ, getElem_cons_zero, Act.put, setIfInBounds_toArray, set_cons_zero, set_cons_succ]
  refine AnyT.take (i := 1) (v := ?_) rfl (by kernel_rfl) (by kernel_rfl) (fun _ _ _ h => h) (by kernel_rfl) (by kernel_rfl) (Or.inl ⟨by rfl, ?_⟩) HS.out ?_
  rotate_left
  · (intro w9 h9; go_simp; try with_reducible rfl)
  try simp only [getElem_toArray, getElem_cons_succ, getElem_cons_zero, Act.put, setIfInBounds_toArray, set_cons_zero, set_cons_succ]
  refine AnyT.take (i := 2) (v := ?_) rfl (by kernel_rfl) (by kernel_rfl) (fun _ _ _ h => h) (by kernel_rfl) (by kernel_rfl) (Or.inl ⟨by rfl, ?_⟩) HS.out ?_
  rotate_left
  · (intro w9 h9; go_simp; try with_reducible rfl)
  try simp only [getElem_toArray, getElem_cons_succ, getElem_cons_zero, Act.put, setIfInBounds_toArray, set_cons_zero, set_cons_succ]
  refine AnyT.take (i := 3) (v := ?_) rfl (by kernel_rfl) (by kernel_rfl) (fun _ _ _ h => h) (by kernel_rfl) (by kernel_rfl) (Or.inl ⟨by rfl, ?_⟩) HS.out ?_
  rotate_left
  · (intro w9 h9; go_simp; try with_reducible rfl)
  try simp only [getElem_toArray, getElem_cons_succ, getElem_cons_zero, Act.put, setIfInBounds_toArray, set_cons_zero, set_cons_succ]
  refine AnyT.take (i := 4) (v := ?_) rfl (by kernel_rfl) (by kernel_rfl) (fun _ _ _ h => h) (by kernel_rfl) (by kernel_rfl) (Or.inl ⟨by rfl, ?_⟩) HS.out ?_
  rotate_left
  · (intro w9 h9; go_simp; try with_reducible rfl)
  try simp only [getElem_toArray, getElem_cons_succ, getElem_cons_zero, Act.put, setIfInBounds_toArray, set_cons_zero, set_cons_succ]
  refine AnyT.take (i := 5) (v := ?_) rfl (by kernel_rfl) (by kernel_rfl) (fun _ _ _ h => h) (by kernel_rfl) (by kernel_rfl) (Or.inl ⟨by rfl, ?_⟩) HS.out ?_
  rotate_left
  · (intro w9 h9; go_simp; try with_reducible rfl)
  try simp only [getElem_toArray, getElem_cons_succ, getElem_cons_zero, Act.put, setIfInBounds_toArray, set_cons_zero, set_cons_succ]
  refine AnyT.take (i := 6) (v := ?_) rfl (by kernel_rfl) (by kernel_rfl) (fun _ _ _ h => h) (by kernel_rfl) (by kernel_rfl) (Or.inl ⟨by rfl, ?_⟩) HS.out ?_
  rotate_left
  · (intro w9 h9; go_simp; try with_reducible rfl)
  try simp only [getElem_toArray, getElem_cons_succ, getElem_cons_zero, Act.put, setIfInBounds_toArray, set_cons_zero, set_cons_succ]
  refine AnyT.one (i := 7) (by kernel_rfl) rfl (fun K hK => ?_)
  go_simp
  refine hK.out _ _ (fun _ => trivial) ?_
  clear hK K
  try simp only [getElem_toArray, getElem_cons_succ, getElem_cons_zero, Act.put, setIfInBounds_toArray, set_cons_zero, set_cons_succ]
  refine AnyT.one (i := 8) (by kernel_rfl) rfl (fun K hK => ?_)
  go_simp
  go_wp2_with (go_at_call 53; refine (wirNum (G := Non) hWA hpt hFp rfl HCZ.out hbd).mono ?_; rintro e w2 ⟨rfl, v2, hWx, hcx, hGx⟩)
  refine hK.out _ _ (fun _ => trivial) ?_
  clear hK K
  try simp only [getElem_toArray, getElem_cons_succ, getElem_cons_zero, Act.put, setIfInBounds_toArray, set_cons_zero, set_cons_succ]
  refine AnyT.nil (by kernel_rfl) ?_
  have hcw2 := hcw1.wtr hG1 ((chgX (S := WB g v1) hcy).trans hcx fun _ _ h => h)
  have hG2 := hG1.trans hcw1.size (hGx.low hcy.size)
  have HW2 := hide (show Wir w2 base g v2 ((l ++ numB (wz 9)) ++ numsB [fr, tt]) from hWx)
  have hnb2 : ¬ WB g v2 b := fun hb => hnb (hG2.wb hbl hb)
  have hF2 : ∀ k, F k → ¬ WB g v2 k := fun k hk hb => hF k hk (hG2.wb (hFl k hk) hb)
  clear hWx hcx hGx
  clear hpt hcy hWA hFp HCZ hbd hcd hWD hcM HS HW1
  have k0 := hcw2.cell c0 hnb
  go_upto_region 32 with fail
  have hcd : Chg Non w2 w2.drew := (Chg.refl Non w2).drew
  have hWD : Wir w2.drew base g v2 ((l ++ numB (wz 9)) ++ numsB [fr, tt]) := (HW2.out).c0 hcd
  have hpt := RdPt.lit w2.drew 135 #[.pointer (some ⟨b, 58, none⟩), .pointer (some ⟨b, 59, none⟩), .pointer (some ⟨b, 60, none⟩), .pointer (some ⟨b, 61, none⟩)] [⟨b, 58, none⟩, ⟨b, 59, none⟩, ⟨b, 60, none⟩, ⟨b, 61, none⟩] 4 rfl rfl (by simp [maxLen])
  have hcM := (Chg.refl Non w2.drew).alloc (.cells #[.pointer (some ⟨b, 58, none⟩), .pointer (some ⟨b, 59, none⟩), .pointer (some ⟨b, 60, none⟩), .pointer (some ⟨b, 61, none⟩)] 135)
  have hWA : Wir _ base g v2 ((l ++ numB (wz 9)) ++ numsB [fr, tt]) := hWD.al (.cells #[.pointer (some ⟨b, 58, none⟩), .pointer (some ⟨b, 59, none⟩), .pointer (some ⟨b, 60, none⟩), .pointer (some ⟨b, 61, none⟩)] 135)
  have hFp : ∀ k, k = w2.drew.heap.size → ¬ WB g v2 k := fun k e hb => by have := (hWD.lt k hb).2; omega
  have hcy := hcd.trans0 hcM
  have hcz : ∀ (j : Nat) (a : Addr) (n : Nat), ([⟨b, 58, none⟩, ⟨b, 59, none⟩, ⟨b, 60, none⟩, ⟨b, 61, none⟩] : List Addr)[j]? = some a → [inc, boot, session, seq][j]? = some n → (w2.drew.alloc (.cells #[.pointer (some ⟨b, 58, none⟩), .pointer (some ⟨b, 59, none⟩), .pointer (some ⟨b, 60, none⟩), .pointer (some ⟨b, 61, none⟩)] 135)).cell? a = some (.int .u64 (n : Int)) ∧ ¬ WB g v2 a.block ∧ U64 n := by
    intro j a n h1 h2
    match j, h1, h2 with
    | 0, h1, h2 => simp at h1 h2; subst h1; subst h2; exact ⟨hcy.cell (hcw2.cell c58 hnb) (fun h => h), hnb2, u58⟩
    | 1, h1, h2 => simp at h1 h2; subst h1; subst h2; exact ⟨hcy.cell (hcw2.cell c59 hnb) (fun h => h), hnb2, u59⟩
    | 2, h1, h2 => simp at h1 h2; subst h1; subst h2; exact ⟨hcy.cell (hcw2.cell c60 hnb) (fun h => h), hnb2, u60⟩
    | 3, h1, h2 => simp at h1 h2; subst h1; subst h2; exact ⟨hcy.cell (hcw2.cell c61 hnb) (fun h => h), hnb2, u61⟩
    | j + 4, h1, h2 => simp at h1
  have HCZ := hide hcz
  clear hcz
  have hbd : ((l ++ numB (wz 9)) ++ numsB [fr, tt]).length + 9 * [inc, boot, session, seq].length ≤ 140737488355328 := by simp only [List.length_append, List.length_cons, List.length_nil]; omega
  refine wp_region_T (fun _ => True) 99 (by kernel_rfl) ?_
  have HS := hide True.intro
  refine AnyT.take (i := 0) (v := ?_) rfl (by kernel_rfl) (by kernel_rfl) (fun _ _ _ h => h) (by kernel_rfl) (by kernel_rfl) (Or.inl ⟨by rfl, ?_⟩) HS.out ?_
  rotate_left
  · (intro w9 h9; go_simp; try with_reducible rfl)
  try simp only [getElem_toArray, getElem_cons_succ, getElem_cons_zero, Act.put, setIfInBounds_toArray, set_cons_zero, set_cons_succ]
  refine AnyT.take (i := 1) (v := ?_) rfl (by kernel_rfl) (by kernel_rfl) (fun _ _ _ h => h) (by kernel_rfl) (by kernel_rfl) (Or.inl ⟨by rfl, ?_⟩) HS.out ?_
  rotate_left
  · (intro w9 h9; go_simp; try with_reducible rfl)
  try simp only [getElem_toArray, getElem_cons_succ, getElem_cons_zero, Act.put, setIfInBounds_toArray, set_cons_zero, set_cons_succ]
  refine AnyT.take (i := 2) (v := ?_) rfl (by kernel_rfl) (by kernel_rfl) (fun _ _ _ h => h) (by kernel_rfl) (by kernel_rfl) (Or.inl ⟨by rfl, ?_⟩) HS.out ?_
  rotate_left
  · (intro w9 h9; go_simp; try with_reducible rfl)
  try simp only [getElem_toArray, getElem_cons_succ, getElem_cons_zero, Act.put, setIfInBounds_toArray, set_cons_zero, set_cons_succ]
  refine AnyT.take (i := 3) (v := ?_) rfl (by kernel_rfl) (by kernel_rfl) (fun _ _ _ h => h) (by kernel_rfl) (by kernel_rfl) (Or.inl ⟨by rfl, ?_⟩) HS.out ?_
  rotate_left
  · (intro w9 h9; go_simp; try with_reducible rfl)
  try simp only [getElem_toArray, getElem_cons_succ, getElem_cons_zero, Act.put, setIfInBounds_toArray, set_cons_zero, set_cons_succ]
  refine AnyT.take (i := 4) (v := ?_) rfl (by kernel_rfl) (by kernel_rfl) (fun _ _ _ h => h) (by kernel_rfl) (by kernel_rfl) (Or.inl ⟨by rfl, ?_⟩) HS.out ?_
  rotate_left
  · (intro w9 h9; go_simp; try with_reducible rfl)
  try simp only [getElem_toArray, getElem_cons_succ, getElem_cons_zero, Act.put, setIfInBounds_toArray, set_cons_zero, set_cons_succ]
  refine AnyT.take (i := 5) (v := ?_) rfl (by kernel_rfl) (by kernel_rfl) (fun _ _ _ h => h) (by kernel_rfl) (by kernel_rfl) (Or.inl ⟨by rfl, ?_⟩) HS.out ?_
  rotate_left
  · (intro w9 h9; go_simp; try with_reducible rfl)
  try simp only [getElem_toArray, getElem_cons_succ, getElem_cons_zero, Act.put, setIfInBounds_toArray, set_cons_zero, set_cons_succ]
  refine AnyT.take (i := 6) (v := ?_) rfl (by kernel_rfl) (by kernel_rfl) (fun _ _ _ h => h) (by kernel_rfl) (by kernel_rfl) (Or.inl ⟨by rfl, ?_⟩) HS.out ?_
  rotate_left
  · (intro w9 h9; go_simp; try with_reducible rfl)
  try simp only [getElem_toArray, getElem_cons_succ, getElem_cons_zero, Act.put, setIfInBounds_toArray, set_cons_zero, set_cons_succ]
  refine AnyT.take (i := 7) (v := ?_) rfl (by kernel_rfl) (by kernel_rfl) (fun _ _ _ h => h) (by kernel_rfl) (by kernel_rfl) (Or.inl ⟨by rfl, ?_⟩) HS.out ?_
  rotate_left
  · (intro w9 h9; go_simp; try with_reducible rfl)
  try simp only [getElem_toArray, getElem_cons_succ, getElem_cons_zero, Act.put, setIfInBounds_toArray, set_cons_zero, set_cons_succ]
  refine AnyT.take (i := 8) (v := ?_) rfl (by kernel_rfl) (by kernel_rfl) (fun _ _ _ h => h) (by kernel_rfl) (by kernel_rfl) (Or.inl ⟨by rfl, ?_⟩) HS.out ?_
  rotate_left
  · (intro w9 h9; go_simp; try with_reducible rfl)
  try simp only [getElem_toArray, getElem_cons_succ, getElem_cons_zero, Act.put, setIfInBounds_toArray, set_cons_zero, set_cons_succ]
  refine AnyT.take (i := 9) (v := ?_) rfl (by kernel_rfl) (by kernel_rfl) (fun _ _ _ h => h) (by kernel_rfl) (by kernel_rfl) (Or.inl ⟨by rfl, ?_⟩) HS.out ?_
  rotate_left
  · (intro w9 h9; go_simp; try with_reducible rfl)
  try simp only [getElem_toArray, getElem_cons_succ, getElem_cons_zero, Act.put, setIfInBounds_toArray, set_cons_zero, set_cons_succ]
  refine AnyT.take (i := 10) (v := ?_) rfl (by kernel_rfl) (by kernel_rfl) (fun _ _ _ h => h) (by kernel_rfl) (by kernel_rfl) (Or.inl ⟨by rfl, ?_⟩) HS.out ?_
  rotate_left
  · (intro w9 h9; go_simp; try with_reducible rfl)
  try simp only [getElem_toArray, getElem_cons_succ, getElem_cons_zero, Act.put, setIfInBounds_toArray, set_cons_zero, set_cons_succ]
  refine AnyT.take (i := 11) (v := ?_) rfl (by kernel_rfl) (by kernel_rfl) (fun _ _ _ h => h) (by kernel_rfl) (by kernel_rfl) (Or.inl ⟨by rfl, ?_⟩) HS.out ?_
  rotate_left
  · (intro w9 h9; go_simp; try with_reducible rfl)
  try simp only [getElem_toArray, getElem_cons_succ, getElem_cons_zero, Act.put, setIfInBounds_toArray, set_cons_zero, set_cons_succ]
  refine AnyT.take (i := 12) (v := ?_) rfl (by kernel_rfl) (by kernel_rfl) (fun _ _ _ h => h) (by kernel_rfl) (by kernel_rfl) (Or.inl ⟨by rfl, ?_⟩) HS.out ?_
  rotate_left
  · (intro w9 h9; go_simp; try with_reducible rfl)
  try simp only [getElem_toArray, getElem_cons_succ, getElem_cons_zero, Act.put, setIfInBounds_toArray, set_cons_zero, set_cons_succ]
  refine AnyT.take (i := 13) (v := ?_) rfl (by kernel_rfl) (by kernel_rfl) (fun _ _ _ h => h) (by kernel_rfl) (by kernel_rfl) (Or.inl ⟨by rfl, ?_⟩) HS.out ?_
  rotate_left
  · (intro w9 h9; go_simp; try with_reducible rfl)
  try simp only [getElem_toArray, getElem_cons_succ, getElem_cons_zero, Act.put, setIfInBounds_toArray, set_cons_zero, set_cons_succ]
  refine AnyT.take (i := 14) (v := ?_) rfl (by kernel_rfl) (by kernel_rfl) (fun _ _ _ h => h) (by kernel_rfl) (by kernel_rfl) (Or.inl ⟨by rfl, ?_⟩) HS.out ?_
  rotate_left
  · (intro w9 h9; go_simp; try with_reducible rfl)
  try simp only [getElem_toArray, getElem_cons_succ, getElem_cons_zero, Act.put, setIfInBounds_toArray, set_cons_zero, set_cons_succ]
  refine AnyT.take (i := 15) (v := ?_) rfl (by kernel_rfl) (by kernel_rfl) (fun _ _ _ h => h) (by kernel_rfl) (by kernel_rfl) (Or.inl ⟨by rfl, ?_⟩) HS.out ?_
  rotate_left
  · (intro w9 h9; go_simp; try with_reducible rfl)
  try simp only [getElem_toArray, getElem_cons_succ, getElem_cons_zero, Act.put, setIfInBounds_toArray, set_cons_zero, set_cons_succ]
  refine AnyT.take (i := 16) (v := ?_) rfl (by kernel_rfl) (by kernel_rfl) (fun _ _ _ h => h) (by kernel_rfl) (by kernel_rfl) (Or.inl ⟨by rfl, ?_⟩) HS.out ?_
  rotate_left
  · (intro w9 h9; go_simp; try with_reducible rfl)
  try simp only [getElem_toArray, getElem_cons_succ, getElem_cons_zero, Act.put, setIfInBounds_toArray, set_cons_zero, set_cons_succ]
  refine AnyT.one (i := 17) (by kernel_rfl) rfl (fun K hK => ?_)
  go_simp
  refine hK.out _ _ (fun _ => trivial) ?_
  clear hK K
  try simp only [getElem_toArray, getElem_cons_succ, getElem_cons_zero, Act.put, setIfInBounds_toArray, set_cons_zero, set_cons_succ]
  refine AnyT.one (i := 18) (by kernel_rfl) rfl (fun K hK => ?_)
  go_simp
  go_wp2_with (go_at_call 53; refine (wirNum (G := Non) hWA hpt hFp rfl HCZ.out hbd).mono ?_; rintro e w3 ⟨rfl, v3, hWx, hcx, hGx⟩)
  refine hK.out _ _ (fun _ => trivial) ?_
  clear hK K
  try simp only [getElem_toArray, getElem_cons_succ, getElem_cons_zero, Act.put, setIfInBounds_toArray, set_cons_zero, set_cons_succ]
  refine AnyT.nil (by kernel_rfl) ?_
  have hcw3 := hcw2.wtr hG2 ((chgX (S := WB g v2) hcy).trans hcx fun _ _ h => h)
  have hG3 := hG2.trans hcw2.size (hGx.low hcy.size)
  have HW3 := hide (show Wir w3 base g v3 (((l ++ numB (wz 9)) ++ numsB [fr, tt]) ++ numsB [inc, boot, session, seq]) from hWx)
  have hnb3 : ¬ WB g v3 b := fun hb => hnb (hG3.wb hbl hb)
  have hF3 : ∀ k, F k → ¬ WB g v3 k := fun k hk hb => hF k hk (hG3.wb (hFl k hk) hb)
  clear hWx hcx hGx
  clear hpt hcy hWA hFp HCZ hbd hcd hWD hcM HS HW2
  have hbd : (((l ++ numB (wz 9)) ++ numsB [fr, tt]) ++ numsB [inc, boot, session, seq]).length + 9 * [err].length ≤ 140737488355328 := by simp only [List.length_append, List.length_cons, List.length_nil]; omega
  go_upto_region 37 with (go_at_call 59; refine (wirErrno HW3.out (hcw3.cell c62 hnb) (hcw3.frz c62 hnb f62) hnb3 hi hbd).mono ?_; rintro e w4 ⟨rfl, v4, hWx, hcx, hGx⟩)
  have hcw4 := hcw3.wtr hG3 (hcx)
  have hG4 := hG3.trans hcw3.size (hGx.low (Nat.le_refl _))
  have HW4 := hide (show Wir w4 base g v4 ((((l ++ numB (wz 9)) ++ numsB [fr, tt]) ++ numsB [inc, boot, session, seq]) ++ numB (wz err)) from hWx)
  have hnb4 : ¬ WB g v4 b := fun hb => hnb (hG4.wb hbl hb)
  have hF4 : ∀ k, F k → ¬ WB g v4 k := fun k hk hb => hF k hk (hG4.wb (hFl k hk) hb)
  clear hWx hcx hGx
  clear hbd HW3
  go_wp2_with fail
  go_ret
  refine ⟨rfl, v4, ?_, hcw4, hG4⟩
  have he : l ++ (numB (wz 9) ++ (numsB [fr, tt] ++ (numsB [inc, boot, session, seq] ++ (numB (wz err))))) = (((l ++ numB (wz 9)) ++ numsB [fr, tt]) ++ numsB [inc, boot, session, seq]) ++ numB (wz err) := by simp only [List.append_assoc, List.append_nil]
  rw [he]; exact HW4.out

end Go.Proofs.Ytncchbcoldgpbaa
