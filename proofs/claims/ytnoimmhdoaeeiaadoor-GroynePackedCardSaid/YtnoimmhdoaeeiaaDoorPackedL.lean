/- What the loops of GroynePacked keep, and what is said of its rows. Plain theorems, no walk. -/
import Derived.Test.YtnoimmhdoaeeiaaDoorPackedS
import Derived.Test.YtnoimmhdoaeeiaaDoorConv
import Derived.Test.YtnoimmhdoaeeiaaDoorBB
import Derived.Test.YtnoimmhdoaeeiaaDoorPkSplit
namespace Go.Proofs.YtnoimmhdoaeeiaaDoor
open Go.RowKit

def cutS (s : ByteArray) : ByteArray := if 40 < s.size then s.extract 0 40 else s
theorem cutS_size (s : ByteArray) : (cutS s).size ≤ 40 := by
  unfold cutS
  split
  · rw [ByteArray.size_extract]; omega
  · omega
def byS (s : ByteArray) : List UInt8 := s.data.toList
theorem byS_length (s : ByteArray) : (byS s).length = s.size := by rw [byS, Array.length_toList]; rfl
theorem mkS_byS (s : ByteArray) : mkS (byS s) = s := by
  obtain ⟨a⟩ := s
  simp [mkS, byS]
def cutR (r : List ByteArray) : List ByteArray := (r.take 12).map cutS
theorem cutR_length (r : List ByteArray) : (cutR r).length = (r.take 12).length := by simp [cutR]
theorem cutR_le (r : List ByteArray) : (cutR r).length ≤ 12 := by simp [cutR]; omega
theorem cutR_size (r : List ByteArray) : ∀ s ∈ cutR r, s.size ≤ 40 := by
  intro s hs
  obtain ⟨x, _, rfl⟩ := List.mem_map.1 hs
  exact cutS_size x
def rowB (r : List ByteArray) : List UInt8 := numB r.length ++ flatB (r.map byS)
def fndL (rs : List (List ByteArray)) (pat : ByteArray) : List ByteArray := rs.flatMap fun r => (pickL r pat).map mkS
theorem flatB_len (r : List ByteArray) (hs : ∀ s ∈ r, s.size ≤ 40) : (flatB (r.map byS)).length ≤ 49 * r.length := by
  induction r with
  | nil => simp [flatB]
  | cons s r ih =>
    have h1 := ih fun x hx => hs x (List.mem_cons_of_mem _ hx)
    have h2 := hs s List.mem_cons_self
    have h3 := numB_length (byS s).length
    have h4 := byS_length s
    simp only [flatB, List.map_cons, List.flatMap_cons, List.length_append, List.length_cons] at h1 ⊢
    have h5 : (partB (byS s)).length = (numB (byS s).length).length + (byS s).length := by rw [partB, List.length_append]
    omega
theorem rowB_length (r : List ByteArray) (h : r.length ≤ 12) (hs : ∀ s ∈ r, s.size ≤ 40) : (rowB r).length ≤ 600 := by
  have h1 := flatB_len r hs
  have h2 := numB_length r.length
  rw [rowB, List.length_append]
  omega
theorem dd_len : ∀ l : List (List UInt8), (dd l).length ≤ l.length
  | [] => Nat.le_refl _
  | [x] => Nat.le_refl _
  | x :: y :: r => by
    have h := dd_len (y :: r)
    rw [dd]
    split
    · simp only [List.length_cons] at h ⊢; omega
    · simp only [List.length_cons] at h ⊢; omega
theorem srt_len (l : List (List UInt8)) : (srt l).length ≤ l.length := by
  have h := dd_len (l.mergeSort leS)
  rw [List.length_mergeSort] at h
  exact h
theorem pickL_len (l : List ByteArray) (pat : ByteArray) : (pickL l pat).length ≤ l.length := by
  have h := srt_len ((l.map (·.data.toList)).filter fun s => matS s pat.data.toList)
  have h2 := List.length_filter_le (fun s => matS s pat.data.toList) (l.map (·.data.toList))
  rw [List.length_map] at h2
  exact Nat.le_trans h h2
theorem pickL_size (l : List ByteArray) (pat : ByteArray) (n : Nat) (hs : ∀ s ∈ l, s.size ≤ n) : ∀ s ∈ (pickL l pat).map mkS, s.size ≤ n := by
  intro s hm
  obtain ⟨z, hz, rfl⟩ := List.mem_map.1 hm
  obtain ⟨⟨x, hx, rfl⟩, _⟩ := (mem_pickL l pat z).1 hz
  have := mkS_byS x
  rw [byS] at this
  rw [this]
  exact hs x hx
theorem fndL_len (rs : List (List ByteArray)) (pat : ByteArray) (h : ∀ r ∈ rs, r.length ≤ 12) : (fndL rs pat).length ≤ 12 * rs.length := by
  induction rs with
  | nil => simp [fndL]
  | cons r rs ih =>
    have h1 := ih fun x hx => h x (List.mem_cons_of_mem _ hx)
    have h2 := pickL_len r pat
    have h3 := h r List.mem_cons_self
    simp only [fndL, List.flatMap_cons, List.length_append, List.length_map, List.length_cons] at h1 ⊢
    omega
theorem fndL_size (rs : List (List ByteArray)) (pat : ByteArray) (h : ∀ r ∈ rs, ∀ s ∈ r, s.size ≤ 40) : ∀ s ∈ fndL rs pat, s.size ≤ 40 := by
  intro s hs
  obtain ⟨r, hr, hs⟩ := List.mem_flatMap.1 hs
  exact pickL_size r pat 40 (h r hr) s hs
theorem flat_len (rs : List (List ByteArray)) (h : ∀ r ∈ rs, r.length ≤ 12) : rs.flatten.length ≤ 12 * rs.length := by
  induction rs with
  | nil => simp
  | cons r rs ih =>
    have h1 := ih fun x hx => h x (List.mem_cons_of_mem _ hx)
    have h3 := h r List.mem_cons_self
    simp only [List.flatten_cons, List.length_append, List.length_cons] at h1 ⊢
    omega
theorem flat_size (rs : List (List ByteArray)) (h : ∀ r ∈ rs, ∀ s ∈ r, s.size ≤ 40) : ∀ s ∈ rs.flatten, s.size ≤ 40 := by
  intro s hs
  obtain ⟨r, hr, hs⟩ := List.mem_flatten.1 hs
  exact h r hr s hs

/-- the rows that the first loop has been through -/
def rowsK (ll : List (List ByteArray)) (k : Nat) : List (List ByteArray) := (ll.take k).map cutR
theorem rowsK_succ (ll : List (List ByteArray)) (k : Nat) (h : k < ll.length) : rowsK ll (k + 1) = rowsK ll k ++ [cutR ll[k]] := by
  rw [rowsK, rowsK, List.take_succ_eq_append_getElem h, List.map_append]; rfl
theorem rowsK_length (ll : List (List ByteArray)) (k : Nat) (h : k ≤ ll.length) : (rowsK ll k).length = k := by simp [rowsK]; omega
theorem rowsK_le (ll : List (List ByteArray)) (k : Nat) : ∀ r ∈ rowsK ll k, r.length ≤ 12 := by
  intro r hr
  obtain ⟨x, _, rfl⟩ := List.mem_map.1 hr
  exact cutR_le x
theorem rowsK_size (ll : List (List ByteArray)) (k : Nat) : ∀ r ∈ rowsK ll k, ∀ s ∈ r, s.size ≤ 40 := by
  intro r hr
  obtain ⟨x, _, rfl⟩ := List.mem_map.1 hr
  exact cutR_size x
theorem flatten_snoc (rs : List (List ByteArray)) (r : List ByteArray) : (rs ++ [r]).flatten = rs.flatten ++ r := by simp
theorem fndL_snoc (rs : List (List ByteArray)) (r : List ByteArray) (pat : ByteArray) : fndL (rs ++ [r]) pat = fndL rs pat ++ (pickL r pat).map mkS := by simp [fndL]
theorem map_snoc (rs : List (List ByteArray)) (r : List ByteArray) : (rs ++ [r]).map rowB = rs.map rowB ++ [rowB r] := by simp

/-- what the first loop keeps -/
structure L1 (W wr : World) (F : Nat → Prop) (v5 v6 v7 : Value) (ll : List (List UInt8)) (l6 l7 : List ByteArray) : Prop where
  o : OwnBB wr W.heap.size F v5 ll
  a : OwnS wr W.heap.size v6 l6
  f : OwnS wr W.heap.size v7 l7
  lt : ∀ b, F b → b < wr.heap.size ∧ v5.ownBlock ≠ some b ∧ v6.ownBlock ≠ some b ∧ v7.ownBlock ≠ some b
  p56 : ∀ b, v5.ownBlock = some b → v6.ownBlock ≠ some b ∧ v7.ownBlock ≠ some b
  p67 : ∀ b, v6.ownBlock = some b → v7.ownBlock ≠ some b
  g : Chg Non W wr
section
variable {W wr w' : World} {F : Nat → Prop} {v5 v6 v7 v' : Value} {ll : List (List UInt8)} {l6 l7 m : List ByteArray}
theorem L1.c0 (h : L1 W wr F v5 v6 v7 ll l6 l7) (hc : Chg Non wr w') : L1 W w' F v5 v6 v7 ll l6 l7 :=
  ⟨h.o.c0 hc, h.a.c0 hc, h.f.c0 hc, fun b hb => ⟨Nat.lt_of_lt_of_le (h.lt b hb).1 hc.size, (h.lt b hb).2⟩, h.p56, h.p67, h.g.trans0 hc⟩
theorem L1.nil_ (W : World) : L1 W W Non (.slice none 0 0) (.slice none 0 0) (.slice none 0 0) [] [] [] :=
  ⟨OwnBB.nil_ _ _ _, OwnS.nil_ _ _, OwnS.nil_ _ _, fun _ h => h.elim, fun _ h => by simp [Value.ownBlock] at h, fun _ h => by simp [Value.ownBlock] at h, Chg.refl _ _⟩
theorem L1.put6 (h : L1 W wr F v5 v6 v7 ll l6 l7) (hown : OwnS w' W.heap.size v' m) (hg : wr.grownBy w' v6.ownBlock) (hat : v'.ownBlock = v6.ownBlock ∨ v'.ownBlock = some wr.heap.size) :
    L1 W w' F v5 v' v7 ll m l7 := by
  have hc := Chg.of_grown hg
  have l5 := h.o.lt
  have l7' := h.f.lt
  have hs := hc.size
  have hne : ∀ b, b < wr.heap.size → v6.ownBlock ≠ some b → v'.ownBlock ≠ some b := fun b hb hn => by
    rcases hat with e | e
    · rw [e]; exact hn
    · rw [e]; intro e2; injection e2 with e2; omega
  refine ⟨h.o.chg hc (fun k hk e => (h.p56 k hk).1 e.symm) (fun k hk e => (h.lt k hk).2.2.1 e.symm), hown, h.f.chg hc (fun k hk e => h.p67 k e.symm hk), fun b hb => ?_, fun b hb => ?_, fun b hb => ?_, h.g.grown hg fun k hk hlt => by have := (h.a.lt k hk).1; omega⟩
  · obtain ⟨a1, a2, a3, a4⟩ := h.lt b hb
    exact ⟨by omega, a2, hne b a1 a3, a4⟩
  · obtain ⟨a1, a2⟩ := h.p56 b hb
    exact ⟨hne b (l5 b hb).2 a1, a2⟩
  · intro e
    exact hne b (l7' b e).2 (fun e2 => h.p67 b e2 e) hb
theorem L1.put7 (h : L1 W wr F v5 v6 v7 ll l6 l7) (hown : OwnS w' W.heap.size v' m) (hg : wr.grownBy w' v7.ownBlock) (hat : v'.ownBlock = v7.ownBlock ∨ v'.ownBlock = some wr.heap.size) :
    L1 W w' F v5 v6 v' ll l6 m := by
  have hc := Chg.of_grown hg
  have l5 := h.o.lt
  have l6' := h.a.lt
  have hs := hc.size
  have hne : ∀ b, b < wr.heap.size → v7.ownBlock ≠ some b → v'.ownBlock ≠ some b := fun b hb hn => by
    rcases hat with e | e
    · rw [e]; exact hn
    · rw [e]; intro e2; injection e2 with e2; omega
  refine ⟨h.o.chg hc (fun k hk e => (h.p56 k hk).2 e.symm) (fun k hk e => (h.lt k hk).2.2.2 e.symm), h.a.chg hc (fun k hk e => h.p67 k hk e.symm), hown, fun b hb => ?_, fun b hb => ?_, fun b hb => ?_, h.g.grown hg fun k hk hlt => by have := (h.f.lt k hk).1; omega⟩
  · obtain ⟨a1, a2, a3, a4⟩ := h.lt b hb
    exact ⟨by omega, a2, a3, hne b a1 a4⟩
  · obtain ⟨a1, a2⟩ := h.p56 b hb
    exact ⟨a1, hne b (l5 b hb).2 a2⟩
  · exact hne b (l6' b hb).2 (h.p67 b hb)
theorem L1.put5 {F' : Nat → Prop} {mm : List (List UInt8)} (h : L1 W wr F v5 v6 v7 ll l6 l7) (hown : OwnBB w' W.heap.size F' v' mm) (hg : wr.grownBy w' v5.ownBlock) (hat : v'.ownBlock = v5.ownBlock ∨ v'.ownBlock = some wr.heap.size)
    (hF : ∀ b, F' b → b < wr.heap.size ∧ v5.ownBlock ≠ some b ∧ v6.ownBlock ≠ some b ∧ v7.ownBlock ≠ some b) :
    L1 W w' F' v' v6 v7 mm l6 l7 := by
  have hc := Chg.of_grown hg
  have l6' := h.a.lt
  have l7' := h.f.lt
  have hs := hc.size
  have hne : ∀ b, b < wr.heap.size → v5.ownBlock ≠ some b → v'.ownBlock ≠ some b := fun b hb hn => by
    rcases hat with e | e
    · rw [e]; exact hn
    · rw [e]; intro e2; injection e2 with e2; omega
  refine ⟨hown, h.a.chg hc (fun k hk e => (h.p56 k e.symm).1 hk), h.f.chg hc (fun k hk e => (h.p56 k e.symm).2 hk), fun b hb => ?_, fun b hb => ⟨fun e => ?_, fun e => ?_⟩, h.p67, h.g.grown hg fun k hk hlt => by have := (h.o.lt k hk).1; omega⟩
  · obtain ⟨a1, a2, a3, a4⟩ := hF b hb
    exact ⟨by omega, hne b a1 a2, a3, a4⟩
  · exact hne b (l6' b e).2 (fun e2 => (h.p56 b e2).1 e) hb
  · exact hne b (l7' b e).2 (fun e2 => (h.p56 b e2).2 e) hb
end

theorem text_part (pre l post : List UInt8) (hl : l.length < 18446744073709551616) : textR (pre ++ (partB l ++ post)) pre.length 0 = (l, (pre ++ partB l).length, 0) := by
  have h1 := hd_part (l := l) hl post
  have h2 := numR_ok (l := pre ++ (partB l ++ post)) (a := pre.length) (by rw [List.drop_left]; exact h1)
  have hp : (partB l).length = (numB l.length).length + l.length := by rw [partB, List.length_append]
  rw [textR_ok h2 (by simp only [List.length_append]; omega), ← List.drop_drop, List.drop_left, partB, List.append_assoc, List.drop_left, List.take_left]
  simp only [List.length_append, Nat.add_assoc]
theorem conv_nil (w : World) : (convert 25 9 (.slice none 0 0)).run Tryd.prog w = .ok (.string ⟨#[]⟩) w := by
  have hs := Tryd.underlying25
  have he := Tryd.underlying5
  have hd := Tryd.underlying9
  simp [convert, run_underlying hs, run_underlying he, run_underlying hd, Conv.bytesToString, Result.andThen]
  rfl
theorem conv_own {w : World} {base : Nat} {u : Value} {l : List UInt8} (h : OwnB w base u l) : (convert 25 9 u).run Tryd.prog w = .ok (.string (mkS l)) w := by
  rcases h.2 with ⟨rfl, hn⟩ | ⟨b, cap, cur, rfl, rest⟩
  · have hl : l = [] := List.eq_nil_of_length_eq_zero hn
    subst hl
    exact conv_nil w
  · exact conv_text h.rd

theorem flatRows_len (rs : List (List ByteArray)) (h : ∀ r ∈ rs, r.length ≤ 12) (hs : ∀ r ∈ rs, ∀ s ∈ r, s.size ≤ 40) : (flatB (rs.map rowB)).length ≤ 609 * rs.length := by
  induction rs with
  | nil => simp [flatB]
  | cons r rs ih =>
    have h1 := ih (fun x hx => h x (List.mem_cons_of_mem _ hx)) (fun x hx => hs x (List.mem_cons_of_mem _ hx))
    have h2 := rowB_length r (h r List.mem_cons_self) (hs r List.mem_cons_self)
    have h3 := numB_length (rowB r).length
    simp only [flatB, List.map_cons, List.flatMap_cons, List.length_append, List.length_cons] at h1 ⊢
    have h5 : (partB (rowB r)).length = (numB (rowB r).length).length + (rowB r).length := by rw [partB, List.length_append]
    omega
theorem joinRows_len (rs : List (List ByteArray)) (h : ∀ r ∈ rs, r.length ≤ 12) (hs : ∀ r ∈ rs, ∀ s ∈ r, s.size ≤ 40) : (joinB (rs.map rowB)).length ≤ 9 + 609 * rs.length := by
  have h1 := flatRows_len rs h hs
  have h2 := numB_length (rs.map rowB).length
  rw [joinB, List.length_append]
  omega
theorem splitRows (rs : List (List ByteArray)) (hn : rs.length ≤ 12) (h : ∀ r ∈ rs, r.length ≤ 12) (hs : ∀ r ∈ rs, ∀ s ∈ r, s.size ≤ 40) : splitB (joinB (rs.map rowB)) = (rs.map rowB, 0) := by
  refine splitB_join _ ⟨by rw [List.length_map]; omega, fun l hl => ?_⟩
  obtain ⟨r, hr, rfl⟩ := List.mem_map.1 hl
  have := rowB_length r (h r hr) (hs r hr)
  omega
/-- where a reader of a row stands behind j texts -/
def rowPos (r : List ByteArray) (j : Nat) : Nat := (numB r.length ++ flatB ((r.take j).map byS)).length
theorem row_num (r : List ByteArray) (h : r.length ≤ 12) : numR (rowB r) 0 0 = (r.length, rowPos r 0, 0) := by
  have h1 := hd_numB (n := r.length) (by omega) (flatB (r.map byS))
  have h2 := numR_ok (l := rowB r) (a := 0) (by rw [List.drop_zero, rowB]; exact h1)
  rw [h2]
  simp [rowPos, flatB]
theorem row_split (r : List ByteArray) (j : Nat) (hj : j < r.length) : rowB r = (numB r.length ++ flatB ((r.take j).map byS)) ++ (partB (byS r[j]) ++ flatB ((r.drop (j + 1)).map byS)) := by
  have h : r = r.take j ++ r[j] :: r.drop (j + 1) := by simp
  have h2 : flatB (r.map byS) = flatB ((r.take j).map byS) ++ (partB (byS r[j]) ++ flatB ((r.drop (j + 1)).map byS)) := by
    have h3 : r.map byS = (r.take j).map byS ++ byS r[j] :: (r.drop (j + 1)).map byS := by rw [← List.map_cons, ← List.map_append, ← h]
    rw [h3, flatB, List.flatMap_append, List.flatMap_cons]
    rfl
  rw [rowB, h2, List.append_assoc]
theorem row_text (r : List ByteArray) (j : Nat) (hj : j < r.length) (hs : r[j].size ≤ 40) : textR (rowB r) (rowPos r j) 0 = (byS r[j], rowPos r (j + 1), 0) := by
  have h := text_part (numB r.length ++ flatB ((r.take j).map byS)) (byS r[j]) (flatB ((r.drop (j + 1)).map byS)) (by rw [byS_length]; omega)
  rw [← row_split r j hj] at h
  have e : numB r.length ++ flatB ((r.take (j + 1)).map byS) = numB r.length ++ flatB ((r.take j).map byS) ++ partB (byS r[j]) := by
    rw [List.take_succ_eq_append_getElem hj, List.map_append, flatB, List.flatMap_append, List.append_assoc]
    simp only [flatB, List.map_cons, List.map_nil, List.flatMap_cons, List.flatMap_nil, List.append_nil]
  rw [rowPos, h, rowPos, e]
theorem row_close (r : List ByteArray) : closeR (rowB r) (rowPos r r.length) 0 = 0 := by
  have h : rowPos r r.length = (rowB r).length := by rw [rowPos, List.take_of_length_le (Nat.le_refl _), rowB]
  rw [closeR, if_neg (by omega)]
theorem wrap_less (a : Nat) (h : 0 < a) (h2 : a ≤ 12) : IntKind.u64.wrap ((a : Int) - 1) = ((a - 1 : Nat) : Int) := by
  obtain ⟨m, rfl⟩ : ∃ m, a = m + 1 := ⟨a - 1, by omega⟩
  rw [wrap_pred m (by omega)]
  rfl
end Go.Proofs.YtnoimmhdoaeeiaaDoor
