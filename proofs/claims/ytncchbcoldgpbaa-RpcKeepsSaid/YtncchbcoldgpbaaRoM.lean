/- rpc's wire, where it reads: operations. -/
import Derived.Test.YtncchbcoldgpbaaRnM
open List (getElem_toArray getElem_cons_succ getElem_cons_zero setIfInBounds_toArray set_cons_zero set_cons_succ)
namespace Go.Proofs.Ytncchbcoldgpbaa
open Go.RowKit
set_option linter.unusedVariables false
set_option linter.unusedSimpArgs false

theorem info_op : (Try.prog.info? 85).map (fun i => (i.zero, i.size, i.bytes)) = some (some (.agg #[.int .i64 0, .slice none 0 0, .slice none 0 0, .int .i64 0]), 4, 64) := by kernel_rfl
theorem run_mkOps (n : Nat) (h : n ≤ 1000000000) : ∀ w : World, (Instr.makeSlice 25 (.int .i64 (n : Int)) (.int .i64 (n : Int))).run Try.prog w = .ok (.slice (some ⟨w.heap.size, 0, none⟩) n n) (w.alloc (.cells (List.replicate n [Value.int .i64 0, .slice none 0 0, .slice none 0 0, .int .i64 0]).flatten.toArray 85)) := fun w => by
  obtain ⟨i, hi, hz, h1, h2⟩ := info_parts info_op
  have h := run_make (P := Try.prog) w 25 85 i _ Try.underlying25 hi hz .i64 .i64 n n (by omega) (by omega) (by rw [h2]; omega) (by omega)
  rw [h1, Int.toNat_natCast] at h
  rw [h, ← made_rep [Value.int .i64 0, .slice none 0 0, .slice none 0 0, .int .i64 0] (by simp) n]
  rfl
/-- the pieces of operations -/
def pcO (xs : List (Value × Value)) (l : List OpS) : List (Value × List UInt8) := (xs.zip l).flatMap fun p => [(p.1.1, p.2.key), (p.1.2, p.2.val)]
/-- operations in new memory, each piece apart -/
structure HasO (w : World) (base : Nat) (v : Value) (l : List OpS) (xs : List (Value × Value)) : Prop where
  len : xs.length = l.length
  row : w.ownsRow base 85 4 v l.length (flO xs l)
  own : OwnQs w base (pcO xs l)
  apt : ∀ p ∈ pcO xs l, Apt v p.1
def DOp (o : OpS) : Prop := (I64 o.kind ∧ I64 o.most) ∧ (T64 o.key ∧ T64 o.val)
theorem op_took {l : List UInt8} {a a1 a2 : Nat} {e e1 e2 : Int} {k m : Int} {s t : List UInt8} (h : Took (fun zs : List Int => zs.length = 2 ∧ ∀ z ∈ zs, I64 z) (fun zs => zs.flatMap fun z => numB (wz z)) l a e [k, m] a1 e1)
    (h' : Took (fun ts : List (List UInt8) => ts.length = 2 ∧ ∀ t ∈ ts, T64 t) (fun ts => ts.flatMap partB) l a1 e1 [s, t] a2 e2) : Took DOp opB l a e ⟨k, s, t, m⟩ a2 e2 := by
  refine (h.seq h').iso (fun p : List Int × List (List UInt8) => (⟨p.1.getD 0 0, p.2.getD 0 [], p.2.getD 1 [], p.1.getD 1 0⟩ : OpS)) (fun o : OpS => ([o.kind, o.most], [o.key, o.val])) (fun o _ => rfl) (fun o ho => ?_) (fun p hp => ?_) (fun o _ => ?_) (fun p hp => ?_)
  · exact ⟨⟨rfl, fun z hz => by simp at hz; rcases hz with rfl | rfl; exact ho.1.1; exact ho.1.2⟩, rfl, fun t ht => by simp at ht; rcases ht with rfl | rfl; exact ho.2.1; exact ho.2.2⟩
  · obtain ⟨⟨h1, h2⟩, h3, h4⟩ := hp
    match p, h1, h2, h3, h4 with
    | ([z1, z2], [t1, t2]), _, h2, _, h4 => exact ⟨⟨h2 z1 (by simp), h2 z2 (by simp)⟩, h4 t1 (by simp), h4 t2 (by simp)⟩
  · simp [opB, numsB, flatB]
  · obtain ⟨⟨h1, h2⟩, h3, h4⟩ := hp
    match p, h1, h2, h3, h4 with
    | ([z1, z2], [t1, t2]), _, h2, _, h4 => simp [opB, numsB, flatB]
theorem opB_pos (o : OpS) : 1 ≤ (opB o).length := by
  have : ∀ n, 1 ≤ (numB n).length := fun n => by unfold numB; split <;> simp
  simp only [opB, numsB, List.flatMap_cons, List.length_append]
  have := this (wz o.kind)
  omega
def DOps (l : List OpS) : Prop := l.length < 9223372036854775808 ∧ ∀ x ∈ l, DOp x
def EOps (l : List OpS) : List UInt8 := numB l.length ++ l.flatMap opB
theorem flO_len (xs : List (Value × Value)) (l : List OpS) (h : xs.length = l.length) : (flO xs l).length = l.length * 4 := by
  have : ∀ (ps : List ((Value × Value) × OpS)), (ps.flatMap fun p => [Value.int .i64 p.2.kind, p.1.1, p.1.2, .int .i64 p.2.most]).length = ps.length * 4 := fun ps => by
    induction ps with
    | nil => rfl
    | cons p ps ih => rw [List.flatMap_cons, List.length_append, ih]; simp; omega
  rw [flO, this, List.length_zip]
  omega
theorem flO_snoc {xs : List (Value × Value)} {l : List OpS} (h : xs.length = l.length) (x : Value × Value) (o : OpS) : flO (xs ++ [x]) (l ++ [o]) = flO xs l ++ [.int .i64 o.kind, x.1, x.2, .int .i64 o.most] := by
  rw [flO, List.zip_append h, List.flatMap_append]; rfl
theorem pcO_snoc {xs : List (Value × Value)} {l : List OpS} (h : xs.length = l.length) (x : Value × Value) (o : OpS) : pcO (xs ++ [x]) (l ++ [o]) = pcO xs l ++ [(x.1, o.key), (x.2, o.val)] := by
  rw [pcO, List.zip_append h, List.flatMap_append]; rfl
/-- the made row, k elements of which are there -/
def arO (xs : List (Value × Value)) (l : List OpS) (m : Nat) : Array Value := (flO xs l ++ (List.replicate m [Value.int .i64 0, .slice none 0 0, .slice none 0 0, .int .i64 0]).flatten).toArray
theorem arO_step {xs : List (Value × Value)} {l : List OpS} {m : Nat} (h : xs.length = l.length) (a d : Int) (p q : Value) (s t : List UInt8) {k : Nat} (hk : k = l.length) :
    putL (putL (arO xs l (m + 1)) [k * 4, k * 4 + 3] [iv a, iv d]) [k * 4 + 1, k * 4 + 2] [p, q] = arO (xs ++ [(p, q)]) (l ++ [⟨a, s, t, d⟩]) m := by
  have hl := flO_len xs l h
  unfold arO
  rw [putL_next (flO xs l) _ m [0, 3] _ (by simp) _ (by simp [hl, hk]), flO_snoc h]
  have := putL_row (flO xs l) (List.replicate m [Value.int .i64 0, .slice none 0 0, .slice none 0 0, .int .i64 0]).flatten [1, 2] [p, q] (putL [Value.int .i64 0, .slice none 0 0, .slice none 0 0, .int .i64 0].toArray [0, 3] [iv a, iv d]).toList (by simp [putL])
  rw [show [1, 2].map ((flO xs l).length + ·) = [k * 4 + 1, k * 4 + 2] by simp [hl, hk]] at this
  rw [this, List.append_assoc]
  rfl
theorem arO_at {xs : List (Value × Value)} {l : List OpS} {m : Nat} (h : xs.length = l.length) {k : Nat} (hk : k = l.length) {i : Nat} (hi : i < 4) : (arO xs l (m + 1))[k * 4 + i]? = [Value.int .i64 0, .slice none 0 0, .slice none 0 0, .int .i64 0][i]? := by
  have hl := flO_len xs l h
  unfold arO
  rw [List.getElem?_toArray, List.getElem?_append_right (by omega), List.replicate_succ, List.flatten_cons, List.getElem?_append_left (by simp; omega)]
  congr 1
  omega
theorem size_arO {xs : List (Value × Value)} {l : List OpS} {m : Nat} (h : xs.length = l.length) : (arO xs l m).size = l.length * 4 + m * 4 := by
  simp [arO, flO_len xs l h]

set_option maxHeartbeats 16000000 in
set_option maxRecDepth 100000 in
theorem rvOps {x g a b o : Nat} {er : Int} {l : List UInt8} {F : Nat → Prop} {vs : Array Value} {ty : TypeId} {A0 : Option Addr} {n0 c0 : Nat} {w : World} (h : WRd w F x g l a er) (hB : Blk w b ty vs) (hf : Free F x g b) (ho : vs[o]? = some (.slice A0 n0 c0)) :
    Calls Try.prog 58 #[.pointer (some ⟨x, 0, none⟩), .pointer (some ⟨b, o, none⟩)] w fun e w' =>
      (e = .returned (.tuple #[]) ∧ ∃ (os : List OpS) (xs : List (Value × Value)) (v : Value) (a' : Nat) (e' : Int), WRd w' F x g l a' e' ∧ HasO w' w.heap.size v os xs ∧
        Blk w' b ty (vs.setIfInBounds o v) ∧ Chg (fun k => k = g ∨ k = b) w w' ∧ Took DOps EOps l a er os a' e') ∨
      (∃ er' : Int, er' ≠ 0 ∧ e = .panicked [{ v := .iface 39 (.int .i64 er'), recovered := false }] ∧ Fell DOps EOps l a er ∧ (∃ q, Blk w' b ty q ∧ q.size = vs.size) ∧ Chg (fun k => k = g ∨ k = b) w w') := by
  have ca := (hB.cell o).trans ho
  have hgl := h.rd.lt
  have hbl := hB.lt
  have hol : o < vs.size := (Array.getElem?_eq_some_iff.1 ho).1
  go_enter Try.func58, Try.ntmps58
  go_upto_region 1 with (go_at_call 78; refine (rvCount h).mono ?_; rintro e w1 (⟨n, a1, rfl, hW1, hC, hc1⟩ | ⟨er1, he1, rfl, hno, hc1⟩))
  rotate_left
  · exact ⟨rfl, .inr ⟨er1, he1, rfl, hno.fell opB_pos, ⟨_, hB.chg hc1 hf.2.2, rfl⟩, hc1.mono fun _ _ h => .inl h⟩⟩
  have k1 := hW1.k1
  have hB1 := hB.chg hc1 hf.2.2
  have c1 := (hB1.cell o).trans ho
  have f1 := hB1.frozen o
  have hn : n ≤ 1000000000 := by have := hC.le; have := hW1.lim; omega
  have hmk := run_mkOps n hn
  have hc1s := hc1.size
  clear ca ho hB
  have hcA := (Chg.refl Non w1).alloc (.cells (List.replicate n [Value.int .i64 0, .slice none 0 0, .slice none 0 0, .int .i64 0]).flatten.toArray 85)
  have c1A := hcA.cell c1 (fun h => h)
  have f1A := hcA.frz c1 (fun h => h) f1
  go_upto_region 3 with fail
  clear hmk k1 c1 f1 c1A f1A
  obtain ⟨B, hBk⟩ : ∃ B, B = w1.heap.size := ⟨_, rfl⟩
  have hX := Blk.new w1 85 (List.replicate n [Value.int .i64 0, .slice none 0 0, .slice none 0 0, .int .i64 0]).flatten.toArray
  obtain ⟨ad, had⟩ : ∃ ad : Addr, ad = ⟨w1.heap.size, 0, none⟩ := ⟨_, rfl⟩
  rw [← hBk] at hX
  rw [← had]
  have hWA := hW1.c0 hcA
  have hBA := hB1.c0 hcA
  have hXs := hX.lt
  generalize World.alloc _ _ = wA at hX hcA hWA hBA hXs ⊢
  have hBb : B ≠ b := by omega
  have hW2 := hWA.set (i := o) hf (.slice (some ad) n n)
  have hB2 := hBA.set_ o (.slice (some ad) n n)
  have hX2 := hX.far (p := ⟨b, o, none⟩) hBb (.slice (some ad) n n)
  have hc2 : Chg (fun k => k = g ∨ k = b) w (wA.setCell ⟨b, o, none⟩ (.slice (some ad) n n)) := chg_gb (hc1.trans0 hcA) _
  have hsz : (wA.setCell ⟨b, o, none⟩ (.slice (some ad) n n)).heap.size = wA.heap.size := by simp [World.setCell]
  generalize World.setCell _ _ _ = w2 at hW2 hB2 hX2 hc2 hsz ⊢
  have hB2s : B < w2.heap.size := by omega
  have hBw : w.heap.size ≤ B := by omega
  have HAD := hide (And.intro had (And.intro hB2s (And.intro hBw hBk)))
  have hpt : ∀ k : Nat, ad.add (k * 4) = ⟨B, k * 4, none⟩ := fun k => by rw [had, ← hBk, add_none, Nat.zero_add]
  have HPT := hide hpt
  have hfB : Free F x g B := hW1.free (by omega)
  have hBg : B ≠ g := hfB.2.2
  clear hWA hBA hX hcA hXs had hBk hpt hsz hB2s hBw hB1 hW1
  have c1 := (hB2.cell o).trans (Array.getElem?_setIfInBounds_self_of_lt hol)
  have HW2 := hide hW2
  have HB2 := hide hB2
  have HX2 := hide hX2
  clear hW2 hB2 hX2
  go_wp2_with fail
  clear c1
  go_loopw [23] (fun jv wr => ∃ (os : List OpS) (xs : List (Value × Value)) (ac : Nat) (ec : Int), jv = .int .i64 (os.length : Int) ∧ os.length ≤ n ∧ Hid (xs.length = os.length) ∧ Hid (WRd wr F x g l ac ec) ∧ Hid (Blk wr b ty (vs.setIfInBounds o (.slice (some ad) n n))) ∧ Hid (Blk wr B 85 (arO xs os (n - os.length))) ∧
    Hid (OwnQs wr w2.heap.size (pcO xs os)) ∧ Chg (fun k => k = g ∨ k = b) w wr ∧ Chg (fun k => k = g ∨ k = B) w2 wr ∧ Took (fun os' : List OpS => os'.length = os.length ∧ ∀ z ∈ os', DOp z) (fun os => os.flatMap opB) l a1 0 os ac ec) (fun jv _ => n - (intOf jv).toNat)
  case atStart => exact ⟨[], [], a1, 0, rfl, Nat.zero_le _, hide rfl, HW2, HB2, HX2, hide (OwnQs.nil_ _ _), hc2, Chg.refl _ _, Took.nil_⟩
  case round =>
    obtain ⟨os, xs, ac, ec, rfl, hk, HL, HW, HBr, HXr, HQ, hcw, hcv, hT⟩ := hrel
    obtain ⟨k, hkn⟩ : ∃ k, k = os.length := ⟨_, rfl⟩
    rw [← hkn] at hk HXr ⊢
    by_cases hkl : k < n
    · have hki : (k : Int) < (n : Int) := by omega
      have h0i : (0 : Int) ≤ (k : Int) := by omega
      obtain ⟨m, hm⟩ : ∃ m, n - k = m + 1 := ⟨n - k - 1, by omega⟩
      have hmn : n - (k + 1) = m := by omega
      rw [hm] at HXr
      have c1 := (HBr.out.cell o).trans (Array.getElem?_setIfInBounds_self_of_lt hol)
      have hps := HPT.out k
      have HK := hide (And.intro hkl (And.intro hmn hkn))
      clear hkl hk hm hmn hkn
      go_upto_region 7 with fail
      clear hps c1
      have hcd : Chg Non wr wr.drew := (Chg.refl Non wr).drew
      have hpt := RdPt.lit wr.drew 133 #[.pointer (some ⟨B, k * 4, none⟩), .pointer (some ⟨B, k * 4 + 3, none⟩)] [⟨B, k * 4, none⟩, ⟨B, k * 4 + 3, none⟩] 2 rfl rfl (by simp [maxLen])
      have hcM := (Chg.refl Non wr.drew).alloc (.cells #[.pointer (some ⟨B, k * 4, none⟩), .pointer (some ⟨B, k * 4 + 3, none⟩)] 133)
      have hcx := hcd.trans0 hcM
      have hWA := HW.out.c0 hcx
      have hXA := HXr.out.c0 hcx
      have hXl := HXr.out.lt
      have hFp : ∀ k, k = wr.drew.heap.size → k ≠ g ∧ k ≠ B := fun k e => by have := HW.out.rd.lt; have : wr.drew.heap.size = wr.heap.size := rfl; omega
      have hos : ∀ j ∈ [k * 4, k * 4 + 3], ∃ z, (arO xs os (m + 1))[j]? = some (.int .i64 z) := fun j hj => by
        rcases List.mem_cons.1 hj with rfl | hj
        · exact ⟨0, arO_at HL.out HK.out.2.2 (i := 0) (by omega)⟩
        · rw [List.mem_singleton] at hj
          subst hj
          exact ⟨0, arO_at HL.out HK.out.2.2 (i := 3) (by omega)⟩
      have HC := hide (rvWhole (os := [k * 4, k * 4 + 3]) hWA hpt hFp hXA hfB hos)
      clear hos hFp hpt hWA hXA
      refine wp_region_T (fun _ => True) 99 (by kernel_rfl) ?_
      have HS := hide True.intro
      refine AnyT.take (i := 0) (v := ?_) rfl (by kernel_rfl) (by kernel_rfl) (fun _ _ _ h => h) (by kernel_rfl) (by kernel_rfl) (Or.inl ⟨by rfl, ?_⟩) HS.out ?_
      rotate_left
      · (intro w9 h9; go_simp; try with_reducible rfl)
      try simp only [getElem_toArray, getElem_cons_succ, getElem_cons_zero, Act.put, setIfInBounds_toArray, set_cons_zero, set_cons_succ]
      refine AnyT.take (i := 1) (v := ?_) rfl (by kernel_rfl) (by kernel_rfl) (fun _ _ _ h => h) (by kernel_rfl) (by kernel_rfl) (Or.inl ⟨by rfl, ?_⟩) HS.out ?_
      rotate_left
      · (intro w9 h9; go_simp; try with_reducible rfl)
      try simp only [getElem_toArray, getElem_cons_succ, getElem_cons_zero, Act.put, setIfInBounds_toArray, set_cons_zero, set_cons_succ]
      refine AnyT.take (i := 2) (v := ?_) rfl (by kernel_rfl) (by kernel_rfl) (fun _ _ _ h => h) (by kernel_rfl) (by kernel_rfl) (Or.inl ⟨by rfl, ?_⟩) HS.out ?_
      rotate_left
      · (intro w9 h9; go_simp; try with_reducible rfl)
      try simp only [getElem_toArray, getElem_cons_succ, getElem_cons_zero, Act.put, setIfInBounds_toArray, set_cons_zero, set_cons_succ]
      refine AnyT.take (i := 3) (v := ?_) rfl (by kernel_rfl) (by kernel_rfl) (fun _ _ _ h => h) (by kernel_rfl) (by kernel_rfl) (Or.inl ⟨by rfl, ?_⟩) HS.out ?_
      rotate_left
      · (intro w9 h9; go_simp; try with_reducible rfl)
      try simp only [getElem_toArray, getElem_cons_succ, getElem_cons_zero, Act.put, setIfInBounds_toArray, set_cons_zero, set_cons_succ]
      refine AnyT.take (i := 4) (v := ?_) rfl (by kernel_rfl) (by kernel_rfl) (fun _ _ _ h => h) (by kernel_rfl) (by kernel_rfl) (Or.inl ⟨by rfl, ?_⟩) HS.out ?_
      rotate_left
      · (intro w9 h9; go_simp; try with_reducible rfl)
      try simp only [getElem_toArray, getElem_cons_succ, getElem_cons_zero, Act.put, setIfInBounds_toArray, set_cons_zero, set_cons_succ]
      refine AnyT.take (i := 5) (v := ?_) rfl (by kernel_rfl) (by kernel_rfl) (fun _ _ _ h => h) (by kernel_rfl) (by kernel_rfl) (Or.inl ⟨by rfl, ?_⟩) HS.out ?_
      rotate_left
      · (intro w9 h9; go_simp; try with_reducible rfl)
      try simp only [getElem_toArray, getElem_cons_succ, getElem_cons_zero, Act.put, setIfInBounds_toArray, set_cons_zero, set_cons_succ]
      refine AnyT.take (i := 6) (v := ?_) rfl (by kernel_rfl) (by kernel_rfl) (fun _ _ _ h => h) (by kernel_rfl) (by kernel_rfl) (Or.inl ⟨by rfl, ?_⟩) HS.out ?_
      rotate_left
      · (intro w9 h9; go_simp; try with_reducible rfl)
      try simp only [getElem_toArray, getElem_cons_succ, getElem_cons_zero, Act.put, setIfInBounds_toArray, set_cons_zero, set_cons_succ]
      refine AnyT.one (i := 7) (by kernel_rfl) rfl (fun K hK => ?_)
      go_simp
      refine hK.out _ _ (fun _ => trivial) ?_
      clear hK K
      try simp only [getElem_toArray, getElem_cons_succ, getElem_cons_zero, Act.put, setIfInBounds_toArray, set_cons_zero, set_cons_succ]
      refine AnyT.one (i := 8) (by kernel_rfl) rfl (fun K hK => ?_)
      go_simp
      go_wp2_with (go_at_call 52; refine HC.out.mono ?_; rintro e w3 ⟨rfl, zs, a2, e2, hW3, hn3, hu3, hX3, hc3, hT3⟩)
      refine hK.out _ _ (fun _ => trivial) ?_
      clear hK K
      try simp only [getElem_toArray, getElem_cons_succ, getElem_cons_zero, Act.put, setIfInBounds_toArray, set_cons_zero, set_cons_succ]
      refine AnyT.nil (by kernel_rfl) ?_
      clear HS
      obtain ⟨z1, z2, rfl⟩ : ∃ z1 z2, zs = [z1, z2] := by
        match zs, hn3 with
        | [z1, z2], _ => exact ⟨z1, z2, rfl⟩
      have hcy := (chgX (S := fun k => k = g ∨ k = B) hcx).trans hc3 fun _ _ h => h
      have HW3 := hide hW3
      have HX3 := hide hX3
      have HT3 := hide hT3
      have HB3 := hide (HBr.out.chg hcy (fun h => by rcases h with h | h; exact hf.2.2 h; exact hBb h.symm))
      have hQ0 := HQ.out.chg hcy (fun k h1 h2 h3 => by have := HAD.out; have := hc2.size; omega)
      have HQ3 := hide hQ0
      have hcw3 := hcw.trans hcy (fun k hk h => by have := HAD.out; omega)
      have hcv3 := hcv.trans hcy (fun k hk h => h)
      clear hW3 hn3 hu3 hX3 hc3 hT3 hcx hcM hcd HC hcy HBr HXr HQ HW hXl hQ0 hcw hcv
      go_upto_region 8 with fail
      have hcd : Chg Non w3 w3.drew := (Chg.refl Non w3).drew
      have hpt := RdPt.lit w3.drew 149 #[.pointer (some ⟨B, k * 4 + 1, none⟩), .pointer (some ⟨B, k * 4 + 2, none⟩)] [⟨B, k * 4 + 1, none⟩, ⟨B, k * 4 + 2, none⟩] 2 rfl rfl (by simp [maxLen])
      have hcM := (Chg.refl Non w3.drew).alloc (.cells #[.pointer (some ⟨B, k * 4 + 1, none⟩), .pointer (some ⟨B, k * 4 + 2, none⟩)] 149)
      have hcx := hcd.trans0 hcM
      have hWA := HW3.out.c0 hcx
      have hXA := HX3.out.c0 hcx
      have hXl := HX3.out.lt
      have hFp : ∀ k, k = w3.drew.heap.size → k ≠ g ∧ k ≠ B := fun k e => by have := HW3.out.rd.lt; have : w3.drew.heap.size = w3.heap.size := rfl; omega
      have hos : ∀ j ∈ [k * 4 + 1, k * 4 + 2], j < (putL (arO xs os (m + 1)) [k * 4, k * 4 + 3] ([z1, z2].map iv)).size := fun j hj => by
        rw [putL_size, size_arO HL.out, ← HK.out.2.2]
        simp at hj
        omega
      have HC := hide (rvData (os := [k * 4 + 1, k * 4 + 2]) hWA hpt hFp hXA hfB hos)
      clear hos hFp hpt hWA hXA
      refine wp_region_T (fun _ => True) 99 (by kernel_rfl) ?_
      have HS := hide True.intro
      refine AnyT.take (i := 0) (v := ?_) rfl (by kernel_rfl) (by kernel_rfl) (fun _ _ _ h => h) (by kernel_rfl) (by kernel_rfl) (Or.inl ⟨by rfl, ?_⟩) HS.out ?_
      rotate_left
      · (intro w9 h9; go_simp; try with_reducible rfl)
      try simp only [getElem_toArray, getElem_cons_succ, getElem_cons_zero, Act.put, setIfInBounds_toArray, set_cons_zero, set_cons_succ]
      refine AnyT.take (i := 1) (v := ?_) rfl (by kernel_rfl) (by kernel_rfl) (fun _ _ _ h => h) (by kernel_rfl) (by kernel_rfl) (Or.inl ⟨by rfl, ?_⟩) HS.out ?_
      rotate_left
      · (intro w9 h9; go_simp; try with_reducible rfl)
      try simp only [getElem_toArray, getElem_cons_succ, getElem_cons_zero, Act.put, setIfInBounds_toArray, set_cons_zero, set_cons_succ]
      refine AnyT.take (i := 2) (v := ?_) rfl (by kernel_rfl) (by kernel_rfl) (fun _ _ _ h => h) (by kernel_rfl) (by kernel_rfl) (Or.inl ⟨by rfl, ?_⟩) HS.out ?_
      rotate_left
      · (intro w9 h9; go_simp; try with_reducible rfl)
      try simp only [getElem_toArray, getElem_cons_succ, getElem_cons_zero, Act.put, setIfInBounds_toArray, set_cons_zero, set_cons_succ]
      refine AnyT.take (i := 3) (v := ?_) rfl (by kernel_rfl) (by kernel_rfl) (fun _ _ _ h => h) (by kernel_rfl) (by kernel_rfl) (Or.inl ⟨by rfl, ?_⟩) HS.out ?_
      rotate_left
      · (intro w9 h9; go_simp; try with_reducible rfl)
      try simp only [getElem_toArray, getElem_cons_succ, getElem_cons_zero, Act.put, setIfInBounds_toArray, set_cons_zero, set_cons_succ]
      refine AnyT.take (i := 4) (v := ?_) rfl (by kernel_rfl) (by kernel_rfl) (fun _ _ _ h => h) (by kernel_rfl) (by kernel_rfl) (Or.inl ⟨by rfl, ?_⟩) HS.out ?_
      rotate_left
      · (intro w9 h9; go_simp; try with_reducible rfl)
      try simp only [getElem_toArray, getElem_cons_succ, getElem_cons_zero, Act.put, setIfInBounds_toArray, set_cons_zero, set_cons_succ]
      refine AnyT.take (i := 5) (v := ?_) rfl (by kernel_rfl) (by kernel_rfl) (fun _ _ _ h => h) (by kernel_rfl) (by kernel_rfl) (Or.inl ⟨by rfl, ?_⟩) HS.out ?_
      rotate_left
      · (intro w9 h9; go_simp; try with_reducible rfl)
      try simp only [getElem_toArray, getElem_cons_succ, getElem_cons_zero, Act.put, setIfInBounds_toArray, set_cons_zero, set_cons_succ]
      refine AnyT.take (i := 6) (v := ?_) rfl (by kernel_rfl) (by kernel_rfl) (fun _ _ _ h => h) (by kernel_rfl) (by kernel_rfl) (Or.inl ⟨by rfl, ?_⟩) HS.out ?_
      rotate_left
      · (intro w9 h9; go_simp; try with_reducible rfl)
      try simp only [getElem_toArray, getElem_cons_succ, getElem_cons_zero, Act.put, setIfInBounds_toArray, set_cons_zero, set_cons_succ]
      refine AnyT.one (i := 7) (by kernel_rfl) rfl (fun K hK => ?_)
      go_simp
      refine hK.out _ _ (fun _ => trivial) ?_
      clear hK K
      try simp only [getElem_toArray, getElem_cons_succ, getElem_cons_zero, Act.put, setIfInBounds_toArray, set_cons_zero, set_cons_succ]
      refine AnyT.one (i := 8) (by kernel_rfl) rfl (fun K hK => ?_)
      go_simp
      go_wp2_with (go_at_call 60; refine HC.out.mono ?_; rintro e w4 ⟨rfl, ps, a3, e3, hW4, hn4, hu4, hX4, hc4, hT4⟩)
      refine hK.out _ _ (fun _ => trivial) ?_
      clear hK K
      try simp only [getElem_toArray, getElem_cons_succ, getElem_cons_zero, Act.put, setIfInBounds_toArray, set_cons_zero, set_cons_succ]
      refine AnyT.nil (by kernel_rfl) ?_
      clear HS
      obtain ⟨⟨u1, t1⟩, ⟨u2, t2⟩, rfl⟩ : ∃ p1 p2, ps = [p1, p2] := by
        match ps, hn4 with
        | [p1, p2], _ => exact ⟨p1, p2, rfl⟩
      have hcy := (chgX (S := fun k => k = g ∨ k = B) hcx).trans hc4 fun _ _ h => h
      have HW4 := hide hW4
      have HX4 := hide (show Blk w4 B 85 (arO (xs ++ [(u1, u2)]) (os ++ [⟨z1, t1, t2, z2⟩]) (n - (k + 1))) by rw [HK.out.2.1, ← arO_step HL.out z1 z2 u1 u2 t1 t2 HK.out.2.2]; exact hX4)
      have HB4 := hide (HB3.out.chg hcy (fun h => by rcases h with h | h; exact hf.2.2 h; exact hBb h.symm))
      have hQ0 := HQ3.out.more hcy (fun k h1 h2 h3 => by have := HAD.out; have := hc2.size; omega) hu4 hcx.size hcv3.size
      rw [show [((u1, t1) : Value × List UInt8), (u2, t2)] = [(((u1, u2) : Value × Value).1, (⟨z1, t1, t2, z2⟩ : OpS).key), (((u1, u2) : Value × Value).2, (⟨z1, t1, t2, z2⟩ : OpS).val)] from rfl, ← pcO_snoc HL.out] at hQ0
      have HQ4 := hide hQ0
      have hcw4 := hcw3.trans hcy (fun k hk h => by have := HAD.out; omega)
      have hcv4 := hcv3.trans hcy (fun k hk h => h)
      have HT4 := hide (hT.snoc (op_took HT3.out hT4))
      clear hW4 hn4 hu4 hX4 hc4 hT4 hcx hcM hcd HC hcy HB3 HX3 HQ3 HW3 hXl hQ0 hcw3 hcv3 hT HT3
      go_wp2_with fail
      go_roundw
      case rel => exact ⟨os ++ [⟨z1, t1, t2, z2⟩], xs ++ [(u1, u2)], a3, e3, by rw [List.length_append, ← HK.out.2.2]; go_num, by have := HK.out.1; rw [List.length_append, ← HK.out.2.2]; exact this, hide (by rw [List.length_append, List.length_append, HL.out]; rfl), HW4, HB4, by rw [List.length_append, ← HK.out.2.2]; exact HX4, HQ4, hcw4, hcv4, by rw [List.length_append]; exact HT4.out⟩
      case measure => (have h := HK.out.1; simp [intOf]; omega)
    · have hge : ¬ ((k : Int) < (n : Int)) := by omega
      have HKE := hide (show k = n by omega)
      have HKN := hide hkn
      clear hk hkl hkn
      go_wp2_with fail
      have hX5 := HXr.out
      have hkn := HKN.out
      rw [HKE.out, Nat.sub_self] at hX5
      have hke := HKE.out
      have hAD := HAD.out
      have hc2s := hc2.size
      refine bodyPost_end (results_none rfl _ _ _) rfl (.inl ⟨rfl, os, xs, .slice (some ad) n n, ac, ec, HW.out, ⟨HL.out, ?_, HQ.out.low hc2s, ?_⟩, HBr.out, hcw, hC.took ?_⟩)
      · rw [show os.length = n by omega, hAD.1, ← hAD.2.2.2]
        refine row_of ?_ hAD.2.2.1 (by rw [flO_len _ _ HL.out]; omega) (by simp only [maxLen]; omega)
        rw [arO, List.replicate_zero, List.flatten_nil, List.append_nil] at hX5
        exact hX5
      · intro p hp j hj e
        have h1 := ((HQ.out.1 p hp).lt j e).1
        rw [hAD.1] at hj
        injection hj with hj
        have h2 : w1.heap.size = j := hj
        omega
      · rw [show n = os.length by omega]
        exact hT
end Go.Proofs.Ytncchbcoldgpbaa

namespace Go.Proofs.Ytncchbcoldgpbaa
open Go.RowKit
set_option linter.unusedVariables false
set_option linter.unusedSimpArgs false

theorem info_pair : (Try.prog.info? 88).map (fun i => (i.zero, i.size, i.bytes)) = some (some (.agg #[.slice none 0 0, .slice none 0 0]), 2, 48) := by kernel_rfl
theorem info_row : (Try.prog.info? 89).map (fun i => (i.zero, i.size, i.bytes)) = some (some (.slice none 0 0), 1, 24) := by kernel_rfl
theorem run_mkRow (n : Nat) (h : n ≤ 1000000000) : ∀ w : World, (Instr.makeSlice 89 (.int .i64 (n : Int)) (.int .i64 (n : Int))).run Try.prog w = .ok (.slice (some ⟨w.heap.size, 0, none⟩) n n) (w.alloc (.cells (List.replicate n [Value.slice none 0 0, .slice none 0 0]).flatten.toArray 88)) := fun w => by
  obtain ⟨i, hi, hz, h1, h2⟩ := info_parts info_pair
  have h := run_make (P := Try.prog) w 89 88 i _ Try.underlying89 hi hz .i64 .i64 n n (by omega) (by omega) (by rw [h2]; omega) (by omega)
  rw [h1, Int.toNat_natCast] at h
  rw [h, ← made_rep [Value.slice none 0 0, .slice none 0 0] (by simp) n]
  rfl
theorem run_mkRows (n : Nat) (h : n ≤ 1000000000) : ∀ w : World, (Instr.makeSlice 29 (.int .i64 (n : Int)) (.int .i64 (n : Int))).run Try.prog w = .ok (.slice (some ⟨w.heap.size, 0, none⟩) n n) (w.alloc (.cells (List.replicate n [Value.slice none 0 0]).flatten.toArray 89)) := fun w => by
  obtain ⟨i, hi, hz, h1, h2⟩ := info_parts info_row
  have h := run_make (P := Try.prog) w 29 89 i _ Try.underlying29 hi hz .i64 .i64 n n (by omega) (by omega) (by rw [h2]; omega) (by omega)
  rw [h1, Int.toNat_natCast] at h
  rw [h, ← made_rep [Value.slice none 0 0] (by simp) n]
  rfl
def DPr (p : PairL) : Prop := T64 p.1 ∧ T64 p.2
def DRw (r : List PairL) : Prop := r.length < 9223372036854775808 ∧ ∀ p ∈ r, DPr p
def ERw (r : List PairL) : List UInt8 := numB r.length ++ r.flatMap pairB
def DRws (rs : List (List PairL)) : Prop := rs.length < 9223372036854775808 ∧ ∀ r ∈ rs, DRw r
def ERws (rs : List (List PairL)) : List UInt8 := numB rs.length ++ rs.flatMap ERw
theorem numB_pos (n : Nat) : 1 ≤ (numB n).length := by unfold numB; split <;> simp
theorem pairB_pos (p : PairL) : 1 ≤ (pairB p).length := by
  simp only [pairB, flatB, List.flatMap_cons, List.length_append, partB]
  have := numB_pos p.1.length
  omega
theorem ERw_pos (r : List PairL) : 1 ≤ (ERw r).length := by
  rw [ERw, List.length_append]
  have := numB_pos r.length
  omega
theorem pair_took {l : List UInt8} {a a1 : Nat} {e e1 : Int} {s t : List UInt8} (h : Took (fun ts : List (List UInt8) => ts.length = 2 ∧ ∀ t ∈ ts, T64 t) (fun ts => ts.flatMap partB) l a e [s, t] a1 e1) : Took DPr pairB l a e (s, t) a1 e1 := by
  refine h.iso (fun p : List (List UInt8) => ((p.getD 0 [], p.getD 1 []) : PairL)) (fun p : PairL => [p.1, p.2]) (fun p _ => rfl) (fun p hp => ?_) (fun p hp => ?_) (fun p _ => ?_) (fun p hp => ?_)
  · exact ⟨rfl, fun t ht => by simp at ht; rcases ht with rfl | rfl; exact hp.1; exact hp.2⟩
  · match p, hp with
    | [t1, t2], ⟨_, h2⟩ => exact ⟨h2 t1 (by simp), h2 t2 (by simp)⟩
  · simp [pairB, flatB]
  · match p, hp with
    | [t1, t2], ⟨_, h2⟩ => simp [pairB, flatB]
/-- the cells of a row -/
def flR (xs : List (Value × Value)) : List Value := xs.flatMap fun p => [p.1, p.2]
theorem flR_len : ∀ xs : List (Value × Value), (flR xs).length = xs.length * 2
  | [] => rfl
  | x :: xs => by
    show ([x.1, x.2] ++ flR xs).length = _
    rw [List.length_append, flR_len xs, List.length_cons]
    simp; omega
def arR (xs : List (Value × Value)) (m : Nat) : Array Value := (flR xs ++ (List.replicate m [Value.slice none 0 0, .slice none 0 0]).flatten).toArray
theorem size_arR {xs : List (Value × Value)} {m : Nat} : (arR xs m).size = xs.length * 2 + m * 2 := by
  simp [arR, flR_len]
theorem arR_step {xs : List (Value × Value)} {m : Nat} (p q : Value) {k : Nat} (hk : k = xs.length) : putL (arR xs (m + 1)) [k * 2, k * 2 + 1] [p, q] = arR (xs ++ [(p, q)]) m := by
  have hl := flR_len xs
  unfold arR
  rw [putL_next (flR xs) _ m [0, 1] _ (by simp) _ (by simp [hl, hk])]
  rw [show flR (xs ++ [(p, q)]) = flR xs ++ [p, q] by unfold flR; rw [List.flatMap_append]; rfl, List.append_assoc]
  rfl
/-- the row of rows -/
def arS1 (us : List Value) (m : Nat) : Array Value := (us ++ (List.replicate m [Value.slice none 0 0]).flatten).toArray
theorem size_arS1 {us : List Value} {m : Nat} : (arS1 us m).size = us.length + m := by
  simp [arS1]
theorem arS1_step {us : List Value} {m : Nat} (p : Value) {k : Nat} (hk : k = us.length) : (arS1 us (m + 1)).setIfInBounds k p = arS1 (us ++ [p]) m := by
  have := putL_next us [Value.slice none 0 0] m [0] [p] (by simp) [k] (by simp [hk])
  unfold arS1
  simp only [putL] at this
  rw [this, List.append_assoc]
  rfl
theorem arS1_at {us : List Value} {m : Nat} {k : Nat} (hk : k = us.length) : (arS1 us (m + 1))[k]? = some (.slice none 0 0) := by
  unfold arS1
  rw [List.getElem?_toArray, List.getElem?_append_right (by omega), List.replicate_succ, List.flatten_cons, List.getElem?_append_left (by simp; omega)]
  rw [show k - us.length = 0 by omega]
  rfl
/-- a row that was read -/
theorem row_rd {w : World} {b2 g : Nat} {xs : List (Value × Value)} {r : List PairL} (hl : xs.length = r.length) (hm : r.length ≤ maxLen) (hB : Blk w g 88 (arR xs 0))
    (hQ : OwnQs w b2 ((xs.zip r).flatMap fun p => [(p.1.1, p.2.1), (p.1.2, p.2.2)])) (hg : b2 ≤ g) : RdRow w (fun k => b2 ≤ k ∧ k < w.heap.size) (.slice (some ⟨g, 0, none⟩) r.length r.length) r := by
  refine ⟨xs, hl, ⟨?_, _, _, rfl, Nat.le_refl _, hm, fun _ => ⟨_, rfl, ⟨hg, hB.lt⟩, fun j u hu => ?_⟩⟩, fun i x y hx hy => ?_⟩
  · have := flR_len xs; unfold flR at this; rw [this, hl]
  · rw [add_none, Nat.zero_add, hB.cell, arR, List.replicate_zero, List.flatten_nil, List.append_nil, List.getElem?_toArray]
    exact hu
  · have hz : (xs.zip r)[i]? = some (x, y) := List.getElem?_zip_eq_some.2 ⟨hx, hy⟩
    have hmem := List.mem_of_getElem? hz
    exact ⟨(hQ.1 (x.1, y.1) (List.mem_flatMap.2 ⟨_, hmem, by simp⟩)).rdB, (hQ.1 (x.2, y.2) (List.mem_flatMap.2 ⟨_, hmem, by simp⟩)).rdB⟩
def pcR (xs : List (Value × Value)) (r : List PairL) : List (Value × List UInt8) := (xs.zip r).flatMap fun p => [(p.1.1, p.2.1), (p.1.2, p.2.2)]
theorem pcR_snoc {xs : List (Value × Value)} {l : List PairL} (h : xs.length = l.length) (x : Value × Value) (o : PairL) : pcR (xs ++ [x]) (l ++ [o]) = pcR xs l ++ [(x.1, o.1), (x.2, o.2)] := by
  rw [pcR, List.zip_append h, List.flatMap_append]; rfl

theorem RdRow.mono {w : World} {F F' : Nat → Prop} {v : Value} {r : List PairL} (h : RdRow w F v r) (hF : ∀ k, F k → F' k) : RdRow w F' v r := by
  obtain ⟨xs, h1, h2, h3⟩ := h
  exact ⟨xs, h1, h2.mono hF, fun i x y hx hy => ⟨(h3 i x y hx hy).1.mono hF, (h3 i x y hx hy).2.mono hF⟩⟩
end Go.Proofs.Ytncchbcoldgpbaa

namespace Go.Proofs.Ytncchbcoldgpbaa
open Go.RowKit
set_option linter.unusedVariables false
set_option linter.unusedSimpArgs false

set_option maxHeartbeats 16000000 in
set_option maxRecDepth 100000 in
theorem rvRows {x g a b o : Nat} {er : Int} {l : List UInt8} {F : Nat → Prop} {vs : Array Value} {ty : TypeId} {A0 : Option Addr} {n0 c0 : Nat} {w : World} (h : WRd w F x g l a er) (hB : Blk w b ty vs) (hf : Free F x g b) (ho : vs[o]? = some (.slice A0 n0 c0)) :
    Calls Try.prog 92 #[.pointer (some ⟨x, 0, none⟩), .pointer (some ⟨b, o, none⟩)] w fun e w' =>
      (e = .returned (.tuple #[]) ∧ ∃ (rs : List (List PairL)) (v : Value) (a' : Nat) (e' : Int), WRd w' F x g l a' e' ∧ rs.length ≤ 1000000000 ∧ (∀ r ∈ rs, r.length ≤ 1000000000) ∧ RdRows w' (fun k => w.heap.size ≤ k ∧ k < w'.heap.size) v rs ∧
        Blk w' b ty (vs.setIfInBounds o v) ∧ Chg (fun k => k = g ∨ k = b) w w' ∧ Took DRws ERws l a er rs a' e') ∨
      (∃ er' : Int, er' ≠ 0 ∧ e = .panicked [{ v := .iface 39 (.int .i64 er'), recovered := false }] ∧ Fell DRws ERws l a er ∧ (∃ q, Blk w' b ty q ∧ q.size = vs.size) ∧ Chg (fun k => k = g ∨ k = b) w w') := by
  have ca := (hB.cell o).trans ho
  have hgl := h.rd.lt
  have hbl := hB.lt
  have hol : o < vs.size := (Array.getElem?_eq_some_iff.1 ho).1
  go_enter Try.func92, Try.ntmps92
  go_upto_region 1 with (go_at_call 78; refine (rvCount h).mono ?_; rintro e w1 (⟨n, a1, rfl, hW1, hC, hc1⟩ | ⟨er1, he1, rfl, hno, hc1⟩))
  rotate_left
  · exact ⟨rfl, .inr ⟨er1, he1, rfl, hno.fell ERw_pos, ⟨_, hB.chg hc1 hf.2.2, rfl⟩, hc1.mono fun _ _ h => .inl h⟩⟩
  have k1 := hW1.k1
  have hB1 := hB.chg hc1 hf.2.2
  have c1 := (hB1.cell o).trans ho
  have f1 := hB1.frozen o
  have hn : n ≤ 1000000000 := by have := hC.le; have := hW1.lim; omega
  have hmk := run_mkRows n hn
  obtain ⟨ar0, har0⟩ : ∃ ar : Array Value, ar = (List.replicate n [Value.slice none 0 0]).flatten.toArray := ⟨_, rfl⟩
  simp only [← har0] at hmk
  have HAR0 := hide har0
  clear har0
  have hc1s := hc1.size
  clear ca ho hB
  have hcA := (Chg.refl Non w1).alloc (.cells ar0 89)
  have c1A := hcA.cell c1 (fun h => h)
  have f1A := hcA.frz c1 (fun h => h) f1
  go_upto_region 3 with fail
  clear hmk k1 c1 f1 c1A f1A
  obtain ⟨B, hBk⟩ : ∃ B, B = w1.heap.size := ⟨_, rfl⟩
  have hX := Blk.new w1 89 ar0
  obtain ⟨ad, had⟩ : ∃ ad : Addr, ad = ⟨w1.heap.size, 0, none⟩ := ⟨_, rfl⟩
  rw [← hBk] at hX
  rw [← had]
  have hWA := hW1.c0 hcA
  have hBA := hB1.c0 hcA
  have hXs := hX.lt
  generalize World.alloc _ _ = wA at hX hcA hWA hBA hXs ⊢
  have hBb : B ≠ b := by omega
  have hW2 := hWA.set (i := o) hf (.slice (some ad) n n)
  have hB2 := hBA.set_ o (.slice (some ad) n n)
  have hX2 := hX.far (p := ⟨b, o, none⟩) hBb (.slice (some ad) n n)
  have hc2 : Chg (fun k => k = g ∨ k = b) w (wA.setCell ⟨b, o, none⟩ (.slice (some ad) n n)) := chg_gb (hc1.trans0 hcA) _
  have hsz : (wA.setCell ⟨b, o, none⟩ (.slice (some ad) n n)).heap.size = wA.heap.size := by simp [World.setCell]
  generalize World.setCell _ _ _ = w2 at hW2 hB2 hX2 hc2 hsz ⊢
  have hB2s : B < w2.heap.size := by omega
  have hBw : w.heap.size ≤ B := by omega
  have HAD := hide (And.intro had (And.intro hB2s (And.intro hBw hBk)))
  have hpt : ∀ k : Nat, ad.add k = ⟨B, k, none⟩ := fun k => by rw [had, ← hBk, add_none, Nat.zero_add]
  have HPT := hide hpt
  have hfB : Free F x g B := hW1.free (by omega)
  have hBg : B ≠ g := hfB.2.2
  clear hWA hBA hX hcA hXs had hBk hpt hsz hB2s hBw hB1 hW1
  have c1 := (hB2.cell o).trans (Array.getElem?_setIfInBounds_self_of_lt hol)
  have HW2 := hide hW2
  have HB2 := hide hB2
  rw [HAR0.out] at hX2
  have HX2 := hide hX2
  clear hW2 hB2 hX2
  go_wp2_with fail
  clear c1
  go_loopw [25] (fun jv wr => ∃ (rs : List (List PairL)) (us : List Value) (ac : Nat) (ec : Int), jv = .int .i64 (rs.length : Int) ∧ rs.length ≤ n ∧ Hid (us.length = rs.length) ∧ Hid (WRd wr F x g l ac ec) ∧ Hid (Blk wr b ty (vs.setIfInBounds o (.slice (some ad) n n))) ∧ Hid (Blk wr B 89 (arS1 us (n - rs.length))) ∧
    Hid (∀ (i : Nat) (u : Value) (r : List PairL), us[i]? = some u → rs[i]? = some r → RdRow wr (fun k => w2.heap.size ≤ k ∧ k < wr.heap.size) u r) ∧ Hid (∀ r ∈ rs, r.length ≤ 1000000000) ∧ Chg (fun k => k = g ∨ k = b) w wr ∧ Chg (fun k => k = g ∨ k = B) w2 wr ∧
    Took (fun rs' : List (List PairL) => rs'.length = rs.length ∧ ∀ z ∈ rs', DRw z) (fun rs => rs.flatMap ERw) l a1 0 rs ac ec) (fun jv _ => n - (intOf jv).toNat)
  case atStart => exact ⟨[], [], a1, 0, rfl, Nat.zero_le _, hide rfl, HW2, HB2, HX2, hide (fun i u r h => by simp at h), hide (fun r h => by simp at h), hc2, Chg.refl _ _, Took.nil_⟩
  case round =>
    obtain ⟨rs, us, ac, ec, rfl, hk, HL, HW, HBr, HXr, HR, HRL, hcw, hcv, hT⟩ := hrel
    obtain ⟨k, hkn⟩ : ∃ k, k = rs.length := ⟨_, rfl⟩
    rw [← hkn] at hk HXr ⊢
    by_cases hkl : k < n
    · have hki : (k : Int) < (n : Int) := by omega
      have h0i : (0 : Int) ≤ (k : Int) := by omega
      obtain ⟨m0, hm⟩ : ∃ m, n - k = m + 1 := ⟨n - k - 1, by omega⟩
      have hmn : n - (k + 1) = m0 := by omega
      rw [hm] at HXr
      have c1 := (HBr.out.cell o).trans (Array.getElem?_setIfInBounds_self_of_lt hol)
      have hps := HPT.out k
      have HK := hide (And.intro hkl (And.intro hmn (And.intro hkn (show k = us.length by have := HL.out; omega))))
      have HT := hide hT
      clear hkl hk hm hmn hkn hT
      go_upto_region 7 with fail
      clear hps c1
      have cr := (HXr.out.cell k).trans (arS1_at HK.out.2.2.2)
      go_upto_region 8 with (go_at_call 78; refine (rvCount HW.out).mono ?_; rintro e w3 (⟨m, a3, rfl, hW3, hC3, hc3⟩ | ⟨er1, he1, rfl, hno, hc3⟩))
      rotate_left
      · exact ⟨rfl, .inr ⟨er1, he1, rfl, hC.fell (Fell.snoc HT.out (hno.fell pairB_pos) (by have := HK.out; omega)), ⟨_, HBr.out.chg hc3 hf.2.2, Array.size_setIfInBounds⟩, hcw.trans hc3 fun _ _ h => .inl h⟩⟩
      have k3 := hW3.k1
      have hX3 := HXr.out.chg hc3 hBg
      have c3 := (hX3.cell k).trans (arS1_at HK.out.2.2.2)
      have f3 := hX3.frozen k
      have hm : m ≤ 1000000000 := by have := hC3.le; have := hW3.lim; omega
      have hmk := run_mkRow m hm
      obtain ⟨ar1, har1⟩ : ∃ ar : Array Value, ar = (List.replicate m [Value.slice none 0 0, .slice none 0 0]).flatten.toArray := ⟨_, rfl⟩
      simp only [← har1] at hmk
      have HAR1 := hide har1
      clear har1
      have hcD := (Chg.refl Non w3).alloc (.cells ar1 88)
      have c3A := hcD.cell c3 (fun h => h)
      have f3A := hcD.frz c3 (fun h => h) f3
      clear cr
      go_upto_region 10 with fail
      clear hmk k3 c3 f3 c3A f3A
      obtain ⟨D, hDk⟩ : ∃ D, D = w3.heap.size := ⟨_, rfl⟩
      have hY := Blk.new w3 88 ar1
      obtain ⟨ae, hae⟩ : ∃ ad : Addr, ad = ⟨w3.heap.size, 0, none⟩ := ⟨_, rfl⟩
      rw [← hDk] at hY
      rw [← hae]
      have hB3 := HBr.out.chg hc3 hf.2.2
      have hcwB := hcw.trans hc3 (fun _ _ h => .inl h)
      have hcvB := hcv.trans hc3 (fun _ _ h => .inl h)
      have hBlt : B < w3.heap.size := hX3.lt
      have hblt : b < w3.heap.size := hB3.lt
      have hWD := hW3.c0 hcD
      have hXD := hX3.c0 hcD
      have hBD := hB3.c0 hcD
      have hYs := hY.lt
      have hR3 : ∀ (i : Nat) (u : Value) (r : List PairL), us[i]? = some u → rs[i]? = some r → RdRow w3 (fun k => w2.heap.size ≤ k ∧ k < w3.heap.size) u r := fun i u r h1 h2 =>
        ((HR.out i u r h1 h2).chg hc3 (fun k hk e => by have := HAD.out; have := hc2.size; omega)).mono fun k hk => ⟨hk.1, by have := hc3.size; omega⟩
      generalize World.alloc _ _ = wD at hY hcD hWD hXD hBD hYs ⊢
      have hDB : D ≠ B := by omega
      have hfD : Free F x g D := hW3.free (by omega)
      have hW4 := hWD.set (i := k) hfB (.slice (some ae) m m)
      have hX4 : Blk (wD.setCell ⟨B, k, none⟩ (.slice (some ae) m m)) B 89 (arS1 (us ++ [.slice (some ae) m m]) (n - (k + 1))) := by
        rw [HK.out.2.1, ← arS1_step _ HK.out.2.2.2]; exact hXD.set_ k _
      have hB4 := hBD.far (p := ⟨B, k, none⟩) (fun e => hBb e.symm) (.slice (some ae) m m)
      have hY4 := hY.far (p := ⟨B, k, none⟩) hDB (.slice (some ae) m m)
      have hcs : Chg (fun k => k = B) w3 (wD.setCell ⟨B, k, none⟩ (.slice (some ae) m m)) := Chg.setCell (S := fun k => k = B) (chgX hcD) (p := ⟨B, k, none⟩) (fun _ => rfl) _
      have hsz : (wD.setCell ⟨B, k, none⟩ (.slice (some ae) m m)).heap.size = wD.heap.size := by simp [World.setCell]
      generalize World.setCell _ _ _ = w4 at hW4 hX4 hB4 hY4 hcs hsz ⊢
      have hcw4 := hcwB.trans hcs (fun k hk e => by have := HAD.out; omega)
      have hcv4 := hcvB.trans hcs (fun k hk e => .inr e)
      have hR4 : ∀ (i : Nat) (u : Value) (r : List PairL), us[i]? = some u → rs[i]? = some r → RdRow w4 (fun k => w2.heap.size ≤ k ∧ k < w3.heap.size) u r := fun i u r h1 h2 =>
        (hR3 i u r h1 h2).chg hcs (fun k hk e => by have := HAD.out; omega)
      have hD4s : D < w4.heap.size := by omega
      have hDw : w2.heap.size ≤ D := by have := hcvB.size; omega
      have HAE := hide (And.intro hae (And.intro hD4s (And.intro hDw hDk)))
      have hptD : ∀ k : Nat, ae.add (k * 2) = ⟨D, k * 2, none⟩ := fun k => by rw [hae, ← hDk, add_none, Nat.zero_add]
      have HPD := hide hptD
      have HR4 := hide hR4
      have hDb : D ≠ b := by omega
      have hDg : D ≠ g := hfD.2.2
      have HMM := hide (And.intro hm hC3)
      have HW4 := hide hW4
      have HX4 := hide hX4
      have HB4 := hide hB4
      rw [HAR1.out] at hY4
      have HY4 := hide hY4
      have HCW := hide hcw4
      have HCV := hide hcv4
      clear hWD hXD hBD hY hcD hYs hae hDk hptD hsz hD4s hDw hB3 hW3 hX3 hR3 hR4 hcs hcwB hcvB hcw4 hcv4 hW4 hX4 hB4 hY4 hBlt hblt hm hC3 HW HBr HXr HR hcw hcv
      go_wp2_with fail
      go_loopw [49] (fun jv wq => ∃ (r : List PairL) (ys : List (Value × Value)) (aq : Nat) (eq : Int), jv = .int .i64 (r.length : Int) ∧ r.length ≤ m ∧ Hid (ys.length = r.length) ∧ Hid (WRd wq F x g l aq eq) ∧ Hid (Blk wq D 88 (arR ys (m - r.length))) ∧
        Hid (OwnQs wq w4.heap.size (pcR ys r)) ∧ Chg (fun k => k = g ∨ k = D) w4 wq ∧ Took (fun r' : List PairL => r'.length = r.length ∧ ∀ z ∈ r', DPr z) (fun r => r.flatMap pairB) l a3 0 r aq eq) (fun jv _ => m - (intOf jv).toNat)
      case atStart => exact ⟨[], [], a3, 0, rfl, Nat.zero_le _, hide rfl, HW4, HY4, hide (OwnQs.nil_ _ _), Chg.refl _ _, Took.nil_⟩
      case round =>
        obtain ⟨r, ys, aq, eq, rfl, hj, HLq, HWq, HYq, HQq, hcq, hTq⟩ := hrel
        have hm9 := HMM.out.1
        obtain ⟨j, hjn⟩ : ∃ j, j = r.length := ⟨_, rfl⟩
        rw [← hjn] at hj HYq ⊢
        have HTq := hide hTq
        clear hTq
        by_cases hjl : j < m
        · have hji : (j : Int) < (m : Int) := by omega
          have h0j : (0 : Int) ≤ (j : Int) := by omega
          obtain ⟨p0, hp⟩ : ∃ p, m - j = p + 1 := ⟨m - j - 1, by omega⟩
          have hpn : m - (j + 1) = p0 := by omega
          rw [hp] at HYq
          have c1 := ((HX4.out.chg hcq (fun h => by rcases h with h | h; exact hBg h; exact hDB h.symm)).cell k).trans (show _ = some (Value.slice (some ae) m m) by rw [HK.out.2.2.2, arS1, List.getElem?_toArray, List.append_assoc, List.getElem?_append_right (Nat.le_refl _), Nat.sub_self]; rfl)
          have hps := HPD.out j
          have HJ := hide (And.intro hjl (And.intro hpn (And.intro hjn (show j = ys.length by have := HLq.out; omega))))
          clear hjl hj hp hpn hjn
          go_upto_region 13 with fail
          have hcd : Chg Non wr wr.drew := (Chg.refl Non wr).drew
          have hpt := RdPt.lit wr.drew 149 #[.pointer (some ⟨D, j * 2, none⟩), .pointer (some ⟨D, j * 2 + 1, none⟩)] [⟨D, j * 2, none⟩, ⟨D, j * 2 + 1, none⟩] 2 rfl rfl (by simp [maxLen])
          have hcM := (Chg.refl Non wr.drew).alloc (.cells #[.pointer (some ⟨D, j * 2, none⟩), .pointer (some ⟨D, j * 2 + 1, none⟩)] 149)
          have hcx := hcd.trans0 hcM
          have hWA := HWq.out.c0 hcx
          have hXA := HYq.out.c0 hcx
          have hXl := HYq.out.lt
          have hFp : ∀ k, k = wr.drew.heap.size → k ≠ g ∧ k ≠ D := fun k e => by have := HWq.out.rd.lt; have : wr.drew.heap.size = wr.heap.size := rfl; omega
          have hos : ∀ i ∈ [j * 2, j * 2 + 1], i < (arR ys (p0 + 1)).size := fun i hi => by
            rw [size_arR, ← HJ.out.2.2.2]
            simp at hi
            omega
          have HC := hide (rvData (os := [j * 2, j * 2 + 1]) hWA hpt hFp hXA hfD hos)
          obtain ⟨S, hSd⟩ : ∃ S : World → Prop, ∀ w', S w' ↔ w'.cell? ⟨B, k, none⟩ = some (.slice (some ae) m m) := ⟨_, fun _ => Iff.rfl⟩
          have HSd := hide hSd
          have HS := hide ((hSd wr.drew).2 (hcd.cell c1 (fun h => h)))
          have HSA := hide ((hSd _).2 (hcx.cell c1 (fun h => h)))
          have HSB := hide (hcx.cell c1 (fun h => h))
          clear hos hFp hpt hWA hXA hSd c1
          refine wp_region_T S 99 (by kernel_rfl) ?_
          refine AnyT.take (i := 0) (v := ?_) rfl (by kernel_rfl) (by kernel_rfl) (fun _ _ _ h => h) (by kernel_rfl) (by kernel_rfl) (Or.inl ⟨by rfl, ?_⟩) HS.out ?_
          rotate_left
          · (intro w9 h9; first | (go_simp; with_reducible rfl) | (have y0 := (HSd.out _).1 h9; go_simp; try with_reducible rfl))
          try simp only [getElem_toArray, getElem_cons_succ, getElem_cons_zero, Act.put, setIfInBounds_toArray, set_cons_zero, set_cons_succ]
          refine AnyT.take (i := 1) (v := ?_) rfl (by kernel_rfl) (by kernel_rfl) (fun _ _ _ h => h) (by kernel_rfl) (by kernel_rfl) (Or.inl ⟨by rfl, ?_⟩) HS.out ?_
          rotate_left
          · (intro w9 h9; first | (go_simp; with_reducible rfl) | (have y0 := (HSd.out _).1 h9; go_simp; try with_reducible rfl))
          try simp only [getElem_toArray, getElem_cons_succ, getElem_cons_zero, Act.put, setIfInBounds_toArray, set_cons_zero, set_cons_succ]
          refine AnyT.take (i := 2) (v := ?_) rfl (by kernel_rfl) (by kernel_rfl) (fun _ _ _ h => h) (by kernel_rfl) (by kernel_rfl) (Or.inl ⟨by rfl, ?_⟩) HS.out ?_
          rotate_left
          · (intro w9 h9; first | (go_simp; with_reducible rfl) | (have y0 := (HSd.out _).1 h9; go_simp; try with_reducible rfl))
          try simp only [getElem_toArray, getElem_cons_succ, getElem_cons_zero, Act.put, setIfInBounds_toArray, set_cons_zero, set_cons_succ]
          refine AnyT.take (i := 3) (v := ?_) rfl (by kernel_rfl) (by kernel_rfl) (fun _ _ _ h => h) (by kernel_rfl) (by kernel_rfl) (Or.inl ⟨by rfl, ?_⟩) HS.out ?_
          rotate_left
          · (intro w9 h9; first | (go_simp; with_reducible rfl) | (have y0 := (HSd.out _).1 h9; go_simp; try with_reducible rfl))
          try simp only [getElem_toArray, getElem_cons_succ, getElem_cons_zero, Act.put, setIfInBounds_toArray, set_cons_zero, set_cons_succ]
          refine AnyT.take (i := 4) (v := ?_) rfl (by kernel_rfl) (by kernel_rfl) (fun _ _ _ h => h) (by kernel_rfl) (by kernel_rfl) (Or.inl ⟨by rfl, ?_⟩) HS.out ?_
          rotate_left
          · (intro w9 h9; first | (go_simp; with_reducible rfl) | (have y0 := (HSd.out _).1 h9; go_simp; try with_reducible rfl))
          try simp only [getElem_toArray, getElem_cons_succ, getElem_cons_zero, Act.put, setIfInBounds_toArray, set_cons_zero, set_cons_succ]
          refine AnyT.take (i := 5) (v := ?_) rfl (by kernel_rfl) (by kernel_rfl) (fun _ _ _ h => h) (by kernel_rfl) (by kernel_rfl) (Or.inl ⟨by rfl, ?_⟩) HS.out ?_
          rotate_left
          · (intro w9 h9; first | (go_simp; with_reducible rfl) | (have y0 := (HSd.out _).1 h9; go_simp; try with_reducible rfl))
          try simp only [getElem_toArray, getElem_cons_succ, getElem_cons_zero, Act.put, setIfInBounds_toArray, set_cons_zero, set_cons_succ]
          refine AnyT.take (i := 6) (v := ?_) rfl (by kernel_rfl) (by kernel_rfl) (fun _ _ _ h => h) (by kernel_rfl) (by kernel_rfl) (Or.inl ⟨by rfl, ?_⟩) HS.out ?_
          rotate_left
          · (intro w9 h9; first | (go_simp; with_reducible rfl) | (have y0 := (HSd.out _).1 h9; go_simp; try with_reducible rfl))
          try simp only [getElem_toArray, getElem_cons_succ, getElem_cons_zero, Act.put, setIfInBounds_toArray, set_cons_zero, set_cons_succ]
          refine AnyT.take (i := 7) (v := ?_) rfl (by kernel_rfl) (by kernel_rfl) (fun _ _ _ h => h) (by kernel_rfl) (by kernel_rfl) (Or.inl ⟨by rfl, ?_⟩) HS.out ?_
          rotate_left
          · (intro w9 h9; first | (go_simp; with_reducible rfl) | (have y0 := (HSd.out _).1 h9; go_simp; try with_reducible rfl))
          try simp only [getElem_toArray, getElem_cons_succ, getElem_cons_zero, Act.put, setIfInBounds_toArray, set_cons_zero, set_cons_succ]
          refine AnyT.take (i := 8) (v := ?_) rfl (by kernel_rfl) (by kernel_rfl) (fun _ _ _ h => h) (by kernel_rfl) (by kernel_rfl) (Or.inl ⟨by rfl, ?_⟩) HS.out ?_
          rotate_left
          · (intro w9 h9; first | (go_simp; with_reducible rfl) | (have y0 := (HSd.out _).1 h9; go_simp; try with_reducible rfl))
          try simp only [getElem_toArray, getElem_cons_succ, getElem_cons_zero, Act.put, setIfInBounds_toArray, set_cons_zero, set_cons_succ]
          refine AnyT.take (i := 9) (v := ?_) rfl (by kernel_rfl) (by kernel_rfl) (fun _ _ _ h => h) (by kernel_rfl) (by kernel_rfl) (Or.inl ⟨by rfl, ?_⟩) HS.out ?_
          rotate_left
          · (intro w9 h9; first | (go_simp; with_reducible rfl) | (have y0 := (HSd.out _).1 h9; go_simp; try with_reducible rfl))
          try simp only [getElem_toArray, getElem_cons_succ, getElem_cons_zero, Act.put, setIfInBounds_toArray, set_cons_zero, set_cons_succ]
          refine AnyT.take (i := 10) (v := ?_) rfl (by kernel_rfl) (by kernel_rfl) (fun _ _ _ h => h) (by kernel_rfl) (by kernel_rfl) (Or.inl ⟨by rfl, ?_⟩) HS.out ?_
          rotate_left
          · (intro w9 h9; first | (go_simp; with_reducible rfl) | (have y0 := (HSd.out _).1 h9; go_simp; try with_reducible rfl))
          try simp only [getElem_toArray, getElem_cons_succ, getElem_cons_zero, Act.put, setIfInBounds_toArray, set_cons_zero, set_cons_succ]
          refine AnyT.take (i := 11) (v := ?_) rfl (by kernel_rfl) (by kernel_rfl) (fun _ _ _ h => h) (by kernel_rfl) (by kernel_rfl) (Or.inl ⟨by rfl, ?_⟩) HS.out ?_
          rotate_left
          · (intro w9 h9; first | (go_simp; with_reducible rfl) | (have y0 := (HSd.out _).1 h9; go_simp; try with_reducible rfl))
          try simp only [getElem_toArray, getElem_cons_succ, getElem_cons_zero, Act.put, setIfInBounds_toArray, set_cons_zero, set_cons_succ]
          refine AnyT.take (i := 12) (v := ?_) rfl (by kernel_rfl) (by kernel_rfl) (fun _ _ _ h => h) (by kernel_rfl) (by kernel_rfl) (Or.inl ⟨by rfl, ?_⟩) HS.out ?_
          rotate_left
          · (intro w9 h9; first | (go_simp; with_reducible rfl) | (have y0 := (HSd.out _).1 h9; go_simp; try with_reducible rfl))
          try simp only [getElem_toArray, getElem_cons_succ, getElem_cons_zero, Act.put, setIfInBounds_toArray, set_cons_zero, set_cons_succ]
          refine AnyT.one (i := 13) (by kernel_rfl) rfl (fun K hK => ?_)
          go_simp
          refine hK.out _ _ (fun _ => HSA.out) ?_
          clear hK K
          try simp only [getElem_toArray, getElem_cons_succ, getElem_cons_zero, Act.put, setIfInBounds_toArray, set_cons_zero, set_cons_succ]
          refine AnyT.one (i := 14) (by kernel_rfl) rfl (fun K hK => ?_)
          go_simp
          go_wp2_with (go_at_call 60; refine HC.out.mono ?_; rintro e w5 ⟨rfl, ps, a5, e5, hW5, hn5, hu5, hX5, hc5, hT5⟩)
          refine hK.out _ _ (fun _ => (HSd.out _).2 (hc5.cell HSB.out (fun h => by rcases h with h | h; exact hBg h; exact hDB h.symm))) ?_
          clear hK K
          try simp only [getElem_toArray, getElem_cons_succ, getElem_cons_zero, Act.put, setIfInBounds_toArray, set_cons_zero, set_cons_succ]
          refine AnyT.nil (by kernel_rfl) ?_
          clear HS HSA
          obtain ⟨⟨u1, t1⟩, ⟨u2, t2⟩, rfl⟩ : ∃ p1 p2, ps = [p1, p2] := by
            match ps, hn5 with
            | [p1, p2], _ => exact ⟨p1, p2, rfl⟩
          have hcy := (chgX (S := fun k => k = g ∨ k = D) hcx).trans hc5 fun _ _ h => h
          have HW5 := hide hW5
          have HX5 := hide (show Blk w5 D 88 (arR (ys ++ [(u1, u2)]) (m - (j + 1))) by rw [HJ.out.2.1, ← arR_step u1 u2 HJ.out.2.2.2]; exact hX5)
          have hQ0 := HQq.out.more hcy (fun k h1 h2 h3 => by have := HAE.out; have := hfD; have := HW4.out.rd.lt; omega) hu5 hcx.size hcq.size
          rw [show [((u1, t1) : Value × List UInt8), (u2, t2)] = [(((u1, u2) : Value × Value).1, ((t1, t2) : PairL).1), (((u1, u2) : Value × Value).2, ((t1, t2) : PairL).2)] from rfl, ← pcR_snoc HLq.out] at hQ0
          have HQ5 := hide hQ0
          have hcq5 := hcq.trans hcy (fun k hk h => h)
          have HT5 := hide (HTq.out.snoc (pair_took hT5))
          clear hW5 hn5 hu5 hX5 hc5 hT5 hcx hcM hcd HC hcy HYq HQq HWq hXl hQ0 hcq HTq HSB HSd
          go_wp2_with fail
          go_roundw
          case rel => exact ⟨r ++ [(t1, t2)], ys ++ [(u1, u2)], a5, e5, by rw [List.length_append, ← HJ.out.2.2.1]; go_num, by have := HJ.out.1; rw [List.length_append, ← HJ.out.2.2.1]; exact this, hide (by rw [List.length_append, List.length_append, HLq.out]; rfl), HW5, by rw [List.length_append, ← HJ.out.2.2.1]; exact HX5, HQ5, hcq5, by rw [List.length_append]; exact HT5.out⟩
          case measure => (have h := HJ.out.1; simp [intOf]; omega)
        · have hge : ¬ ((j : Int) < (m : Int)) := by omega
          have HJE := hide (And.intro (show j = m by omega) hjn)
          clear hj hjl hjn
          have hB5 := HB4.out.chg hcq (fun h => by rcases h with h | h; exact hf.2.2 h; exact hDb h.symm)
          have hX5 := HX4.out.chg hcq (fun h => by rcases h with h | h; exact hBg h; exact hDB h.symm)
          have hcw5 := HCW.out.trans hcq (fun k hk h => by have := HAE.out; have := HCW.out.size; have := hc2.size; omega)
          have hcv5 := HCV.out.trans hcq (fun k hk h => by have := HAE.out; omega)
          have hrl : r.length ≤ 1000000000 := by have := HJE.out; have := HMM.out.1; omega
          have hY5 := HYq.out
          rw [HJE.out.1, Nat.sub_self] at hY5
          have hnew : RdRow wr (fun k => w2.heap.size ≤ k ∧ k < wr.heap.size) (.slice (some ae) m m) r := by
            have h1 := HAE.out
            rw [h1.1, ← h1.2.2.2, show m = r.length by have := HJE.out; omega]
            exact (row_rd (b2 := D) HLq.out (by simp only [maxLen]; omega) hY5 (HQq.out.low (by omega)) (Nat.le_refl _)).mono fun k hk => ⟨by omega, hk.2⟩
          have hR5 : ∀ (i : Nat) (u : Value) (r' : List PairL), (us ++ [Value.slice (some ae) m m])[i]? = some u → (rs ++ [r])[i]? = some r' → RdRow wr (fun k => w2.heap.size ≤ k ∧ k < wr.heap.size) u r' := by
            intro i u r' h1 h2
            rw [List.getElem?_append] at h1 h2
            by_cases hi : i < us.length
            · rw [if_pos hi] at h1
              rw [if_pos (by have := HL.out; omega)] at h2
              exact ((HR4.out i u r' h1 h2).chg hcq (fun k hk e => by have := HAE.out; have := hc2.size; omega)).mono fun k hk => ⟨hk.1, by have := hcq.size; have := HAE.out; omega⟩
            · rw [if_neg hi] at h1
              rw [if_neg (by have := HL.out; omega)] at h2
              obtain ⟨h3, h4⟩ := List.getElem?_eq_some_iff.1 h1
              obtain ⟨h5, h6⟩ := List.getElem?_eq_some_iff.1 h2
              simp at h4 h6
              rw [← h4, ← h6]
              exact hnew
          have HR5 := hide hR5
          have HB5 := hide hB5
          have HX5 := hide hX5
          have HT5 := hide (HT.out.snoc (HMM.out.2.took (by rw [show m = r.length by have := HJE.out; omega]; exact HTq.out)))
          have HRL5 := hide (show ∀ r' ∈ rs ++ [r], r'.length ≤ 1000000000 from fun r' h' => by
            rcases List.mem_append.1 h' with h' | h'
            · exact HRL.out r' h'
            · rw [List.mem_singleton] at h'; subst h'; exact hrl)
          clear hR5 hB5 hX5 hnew hY5 hrl hcq HQq HTq HYq
          go_wp2_with fail
          go_roundw
          case rel => exact ⟨rs ++ [r], us ++ [.slice (some ae) m m], aq, eq, by rw [List.length_append, ← HK.out.2.2.1]; go_num, by have := HK.out.1; rw [List.length_append, ← HK.out.2.2.1]; exact this, hide (by rw [List.length_append, List.length_append, HL.out]; rfl), HWq, HB5, by rw [List.length_append, ← HK.out.2.2.1]; exact HX5, HR5, HRL5, hcw5, hcv5, by rw [List.length_append]; exact HT5.out⟩
          case measure => (have h := HK.out.1; simp [intOf]; omega)
    · have hge : ¬ ((k : Int) < (n : Int)) := by omega
      have HKE := hide (show k = n by omega)
      have HKN := hide hkn
      clear hk hkl hkn
      go_wp2_with fail
      have hX5 := HXr.out
      have hkn := HKN.out
      rw [HKE.out, Nat.sub_self] at hX5
      have hke := HKE.out
      have hAD := HAD.out
      have hc2s := hc2.size
      refine bodyPost_end (results_none rfl _ _ _) rfl (.inl ⟨rfl, rs, .slice (some ad) n n, ac, ec, HW.out, by omega, HRL.out, ?_, HBr.out, hcw, hC.took ?_⟩)
      · rw [show n = rs.length by omega, hAD.1, ← hAD.2.2.2]
        refine ⟨us, HL.out, ⟨by rw [HL.out, Nat.mul_one], _, _, rfl, Nat.le_refl _, by simp only [maxLen]; omega, fun _ => ⟨_, rfl, ⟨hAD.2.2.1, hX5.lt⟩, fun j u hu => ?_⟩⟩, fun i u r h1 h2 => (HR.out i u r h1 h2).mono fun k hk => ⟨by omega, hk.2⟩⟩
        rw [add_none, Nat.zero_add, hX5.cell, arS1, List.replicate_zero, List.flatten_nil, List.append_nil, List.getElem?_toArray]
        exact hu
      · rw [show n = rs.length by omega]
        exact hT
end Go.Proofs.Ytncchbcoldgpbaa

namespace Go.Proofs.Ytncchbcoldgpbaa
open Go.RowKit
set_option linter.unusedVariables false
set_option linter.unusedSimpArgs false

theorem info_write : (Try.prog.info? 125).map (fun i => (i.zero, i.size, i.bytes)) = some (some (.agg #[.slice none 0 0, .slice none 0 0, .bool false]), 3, 56) := by kernel_rfl
theorem run_mkWr (n : Nat) (h : n ≤ 1000000000) : ∀ w : World, (Instr.makeSlice 30 (.int .i64 (n : Int)) (.int .i64 (n : Int))).run Try.prog w = .ok (.slice (some ⟨w.heap.size, 0, none⟩) n n) (w.alloc (.cells (List.replicate n [Value.slice none 0 0, .slice none 0 0, .bool false]).flatten.toArray 125)) := fun w => by
  obtain ⟨i, hi, hz, h1, h2⟩ := info_parts info_write
  have h := run_make (P := Try.prog) w 30 125 i _ Try.underlying30 hi hz .i64 .i64 n n (by omega) (by omega) (by rw [h2]; omega) (by omega)
  rw [h1, Int.toNat_natCast] at h
  rw [h, ← made_rep [Value.slice none 0 0, .slice none 0 0, .bool false] (by simp) n]
  rfl
def DWr (o : WrO) : Prop := T64 o.a ∧ T64 o.b
def DWrs (l : List WrO) : Prop := l.length < 9223372036854775808 ∧ ∀ x ∈ l, DWr x
def EWrs (l : List WrO) : List UInt8 := numB l.length ++ l.flatMap wrB
theorem wrB_pos (o : WrO) : 1 ≤ (wrB o).length := by
  simp only [wrB, flagB, List.length_append, List.length_singleton]
  omega
theorem wr_took {l : List UInt8} {a a1 a2 : Nat} {e e1 e2 : Int} {s t : List UInt8} {f : Bool} (h : Took (fun ts : List (List UInt8) => ts.length = 2 ∧ ∀ t ∈ ts, T64 t) (fun ts => ts.flatMap partB) l a e [s, t] a1 e1)
    (h' : Took (fun _ : Bool => True) flagB l a1 e1 f a2 e2) : Took DWr wrB l a e ⟨s, t, f⟩ a2 e2 := by
  refine (h.seq h').iso (fun p : List (List UInt8) × Bool => (⟨p.1.getD 0 [], p.1.getD 1 [], p.2⟩ : WrO)) (fun o : WrO => ([o.a, o.b], o.f)) (fun o _ => rfl) (fun o ho => ?_) (fun p hp => ?_) (fun o _ => ?_) (fun p hp => ?_)
  · exact ⟨⟨rfl, fun t ht => by simp at ht; rcases ht with rfl | rfl; exact ho.1; exact ho.2⟩, trivial⟩
  · match p, hp with
    | ([t1, t2], f), ⟨⟨_, h4⟩, _⟩ => exact ⟨h4 t1 (by simp), h4 t2 (by simp)⟩
  · simp [wrB, flatB]
  · match p, hp with
    | ([t1, t2], f), ⟨⟨_, h4⟩, _⟩ => simp [wrB, flatB]
def flWr (xs : List (Value × Value)) (l : List WrO) : List Value := (xs.zip l).flatMap fun p => [p.1.1, p.1.2, .bool p.2.f]
def pcWr (xs : List (Value × Value)) (l : List WrO) : List (Value × List UInt8) := (xs.zip l).flatMap fun p => [(p.1.1, p.2.a), (p.1.2, p.2.b)]
theorem flWr_len (xs : List (Value × Value)) (l : List WrO) (h : xs.length = l.length) : (flWr xs l).length = l.length * 3 := by
  have : ∀ (ps : List ((Value × Value) × WrO)), (ps.flatMap fun p => [p.1.1, p.1.2, Value.bool p.2.f]).length = ps.length * 3 := fun ps => by
    induction ps with
    | nil => rfl
    | cons p ps ih => rw [List.flatMap_cons, List.length_append, ih]; simp; omega
  rw [flWr, this, List.length_zip]
  omega
theorem flWr_snoc {xs : List (Value × Value)} {l : List WrO} (h : xs.length = l.length) (x : Value × Value) (o : WrO) : flWr (xs ++ [x]) (l ++ [o]) = flWr xs l ++ [x.1, x.2, .bool o.f] := by
  rw [flWr, List.zip_append h, List.flatMap_append]; rfl
theorem pcWr_snoc {xs : List (Value × Value)} {l : List WrO} (h : xs.length = l.length) (x : Value × Value) (o : WrO) : pcWr (xs ++ [x]) (l ++ [o]) = pcWr xs l ++ [(x.1, o.a), (x.2, o.b)] := by
  rw [pcWr, List.zip_append h, List.flatMap_append]; rfl
def arW (xs : List (Value × Value)) (l : List WrO) (m : Nat) : Array Value := (flWr xs l ++ (List.replicate m [Value.slice none 0 0, .slice none 0 0, .bool false]).flatten).toArray
theorem arW_step {xs : List (Value × Value)} {l : List WrO} {m : Nat} (h : xs.length = l.length) (f : Bool) (p q : Value) (s t : List UInt8) {k : Nat} (hk : k = l.length) :
    (putL (arW xs l (m + 1)) [k * 3, k * 3 + 1] [p, q]).setIfInBounds (k * 3 + 2) (.bool f) = arW (xs ++ [(p, q)]) (l ++ [⟨s, t, f⟩]) m := by
  have hl := flWr_len xs l h
  unfold arW
  rw [putL_next (flWr xs l) _ m [0, 1] _ (by simp) _ (by simp [hl, hk]), flWr_snoc h]
  have := putL_row (flWr xs l) (List.replicate m [Value.slice none 0 0, .slice none 0 0, .bool false]).flatten [2] [.bool f] (putL [Value.slice none 0 0, .slice none 0 0, .bool false].toArray [0, 1] [p, q]).toList (by simp [putL])
  rw [show [2].map ((flWr xs l).length + ·) = [k * 3 + 2] by simp [hl, hk]] at this
  simp only [putL] at this ⊢
  rw [this, List.append_assoc]
  rfl
theorem size_arW {xs : List (Value × Value)} {l : List WrO} {m : Nat} (h : xs.length = l.length) : (arW xs l m).size = l.length * 3 + m * 3 := by
  simp [arW, flWr_len xs l h]
/-- writes that were read -/
theorem wr_rd {w : World} {b2 g : Nat} {xs : List (Value × Value)} {r : List WrO} (hl : xs.length = r.length) (hm : r.length ≤ maxLen) (hB : Blk w g 125 (arW xs r 0))
    (hQ : OwnQs w b2 (pcWr xs r)) (hg : b2 ≤ g) : RdWr w (fun k => b2 ≤ k ∧ k < w.heap.size) (.slice (some ⟨g, 0, none⟩) r.length r.length) r := by
  refine ⟨xs, hl, ⟨flWr_len xs r hl, _, _, rfl, Nat.le_refl _, hm, fun _ => ⟨_, rfl, ⟨hg, hB.lt⟩, fun j u hu => ?_⟩⟩, fun i x y hx hy => ?_⟩
  · rw [add_none, Nat.zero_add, hB.cell, arW, List.replicate_zero, List.flatten_nil, List.append_nil, List.getElem?_toArray]
    exact hu
  · have hz : (xs.zip r)[i]? = some (x, y) := List.getElem?_zip_eq_some.2 ⟨hx, hy⟩
    have hmem := List.mem_of_getElem? hz
    exact ⟨(hQ.1 (x.1, y.a) (List.mem_flatMap.2 ⟨_, hmem, by simp⟩)).rdB, (hQ.1 (x.2, y.b) (List.mem_flatMap.2 ⟨_, hmem, by simp⟩)).rdB⟩
theorem RdWr.mono {w : World} {F F' : Nat → Prop} {v : Value} {r : List WrO} (h : RdWr w F v r) (hF : ∀ k, F k → F' k) : RdWr w F' v r := by
  obtain ⟨xs, h1, h2, h3⟩ := h
  exact ⟨xs, h1, h2.mono hF, fun i x y hx hy => ⟨(h3 i x y hx hy).1.mono hF, (h3 i x y hx hy).2.mono hF⟩⟩
theorem RdRows.mono {w : World} {F F' : Nat → Prop} {v : Value} {r : List (List PairL)} (h : RdRows w F v r) (hF : ∀ k, F k → F' k) : RdRows w F' v r := by
  obtain ⟨vs, h1, h2, h3⟩ := h
  exact ⟨vs, h1, h2.mono hF, fun i x y hx hy => (h3 i x y hx hy).mono hF⟩
def DOut (x : OutS) : Prop := I64 x.err ∧ (I64 x.at_ ∧ (DRws x.rows ∧ DWrs x.ws))
def outT (x : OutS) : Int × (Int × (List (List PairL) × List WrO)) := (x.err, x.at_, x.rows, x.ws)
def DOutT (p : Int × (Int × (List (List PairL) × List WrO))) : Prop := I64 p.1 ∧ (I64 p.2.1 ∧ (DRws p.2.2.1 ∧ DWrs p.2.2.2))
def EOutT (p : Int × (Int × (List (List PairL) × List WrO))) : List UInt8 := numB (wz p.1) ++ (numB (wz p.2.1) ++ (ERws p.2.2.1 ++ EWrs p.2.2.2))
theorem out_took {l : List UInt8} {a a' : Nat} {e e' : Int} {p : Int × (Int × (List (List PairL) × List WrO))} (h : Took DOutT EOutT l a e p a' e') : Took DOut outB l a e ⟨p.1, p.2.1, p.2.2.1, p.2.2.2⟩ a' e' :=
  h.iso (fun p => (⟨p.1, p.2.1, p.2.2.1, p.2.2.2⟩ : OutS)) outT (fun _ _ => rfl) (fun _ h => h) (fun _ h => h) (fun _ _ => rfl) (fun _ _ => rfl)
theorem out_fell {l : List UInt8} {a : Nat} {e : Int} (h : Fell DOutT EOutT l a e) : Fell DOut outB l a e := h.iso outT (fun _ h => h) (fun _ _ => rfl)
/-- an outcome's parts, read -/
structure OutV (w : World) (base : Nat) (y : OutS) (vr vw : Value) : Prop where
  rows : RdRows w (fun k => base ≤ k ∧ k < w.heap.size) vr y.rows
  ws : RdWr w (fun k => base ≤ k ∧ k < w.heap.size) vw y.ws
  rn : y.rows.length ≤ 1000000000
  rr : ∀ r ∈ y.rows, r.length ≤ 1000000000
  wn : y.ws.length ≤ 1000000000
theorem RdRows.sl {w : World} {F : Nat → Prop} {v : Value} {r : List (List PairL)} (h : RdRows w F v r) : ∃ A n c, v = .slice A n c := by
  obtain ⟨vs, h1, ⟨_, A, c, e, _⟩, h3⟩ := h
  exact ⟨A, _, c, e⟩
end Go.Proofs.Ytncchbcoldgpbaa
