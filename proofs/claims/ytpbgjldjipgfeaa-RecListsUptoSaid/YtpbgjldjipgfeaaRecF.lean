/- The walk of (rec.Rec).Bytes. -/
import Derived.Test.YtpbgjldjipgfeaaRecE
import Derived.Lib.OthersKept
namespace Go.Proofs.Ytpbgjldjipgfeaa
open Go.RowKit
set_option linter.unusedVariables false

theorem fldR_map (x : RcS) : fldR x = (fldS x.kind).data.toList.map fun b => fldP x (b.toNat : Int) := by
  unfold fldR fldS
  by_cases h1 : x.kind = 1
  · simp [h1, fldP]
  by_cases h2 : x.kind = 2 ∨ x.kind = 3 ∨ x.kind = 9
  · simp [h1, h2, fldP]
  by_cases h4 : x.kind = 4
  · simp [h4, fldP]
  by_cases h5 : x.kind = 5 ∨ x.kind = 7 ∨ x.kind = 8
  · rw [if_neg h1, if_neg h2, if_neg h4, if_pos h5, if_neg h1, if_neg h2, if_neg h4, if_pos h5]
    simp [fldP]
  by_cases h6 : x.kind = 6
  · simp [h6, fldP]
  · rw [if_neg h1, if_neg h2, if_neg h4, if_neg h5, if_neg h6, if_neg h1, if_neg h2, if_neg h4, if_neg h5, if_neg h6]
    simp
theorem fldS_small (k : Int) : (fldS k).size ≤ 4 ∧ ∀ (i : Nat) (h : i < (fldS k).size), ((fldS k)[i]'h).toNat < 128 := by
  have all : ∀ s : ByteArray, (s.size ≤ 4 ∧ ∀ (i : Nat) (h : i < s.size), (s[i]'h).toNat < 128) → (s.size ≤ 4 ∧ ∀ (i : Nat) (h : i < s.size), (s[i]'h).toNat < 128) := fun _ h => h
  unfold fldS
  have q1 : (⟨#[84, 87, 82]⟩ : ByteArray).size ≤ 4 ∧ ∀ (i : Nat) (h : i < (⟨#[84, 87, 82]⟩ : ByteArray).size), ((⟨#[84, 87, 82]⟩ : ByteArray)[i]'h).toNat < 128 := by decide
  have q2 : (⟨#[84]⟩ : ByteArray).size ≤ 4 ∧ ∀ (i : Nat) (h : i < (⟨#[84]⟩ : ByteArray).size), ((⟨#[84]⟩ : ByteArray)[i]'h).toNat < 128 := by decide
  have q3 : (⟨#[84, 87, 65]⟩ : ByteArray).size ≤ 4 ∧ ∀ (i : Nat) (h : i < (⟨#[84, 87, 65]⟩ : ByteArray).size), ((⟨#[84, 87, 65]⟩ : ByteArray)[i]'h).toNat < 128 := by decide
  have q4 : (⟨#[73, 78]⟩ : ByteArray).size ≤ 4 ∧ ∀ (i : Nat) (h : i < (⟨#[73, 78]⟩ : ByteArray).size), ((⟨#[73, 78]⟩ : ByteArray)[i]'h).toNat < 128 := by decide
  have q5 : (⟨#[84, 67, 83, 65]⟩ : ByteArray).size ≤ 4 ∧ ∀ (i : Nat) (h : i < (⟨#[84, 67, 83, 65]⟩ : ByteArray).size), ((⟨#[84, 67, 83, 65]⟩ : ByteArray)[i]'h).toNat < 128 := by decide
  have q6 : (⟨#[]⟩ : ByteArray).size ≤ 4 ∧ ∀ (i : Nat) (h : i < (⟨#[]⟩ : ByteArray).size), ((⟨#[]⟩ : ByteArray)[i]'h).toNat < 128 := by decide
  split
  · exact q1
  split
  · exact q2
  split
  · exact q3
  split
  · exact q4
  split
  · exact q5
  · exact q6
theorem cell_iterAt {w : World} {g : Nat} {s : ByteArray} {pos pos' : Nat} {p : Addr} {v : Value} (hk : w.heap[g]? = some (.stringIter s pos)) (h : w.cell? p = some v) : (w.iterAt g s pos').cell? p = some v := by
  refine (World.cell?_of_block (Lib.iterAt_other w g p.block s pos' fun e => ?_)).trans h
  subst e
  simp [World.cell?, hk] at h
theorem chg_iterAt (w : World) (g : Nat) (s : ByteArray) (pos : Nat) : Chg (fun j => j = g) w (w.iterAt g s pos) :=
  ⟨rfl, rfl, rfl, by rw [Lib.iterAt_size]; exact Nat.le_refl _, fun j _ hn => Lib.iterAt_other w g j s pos hn⟩
theorem RdB.iterAt {w : World} {F : Nat → Prop} {v : Value} {l : List UInt8} {g : Nat} {s : ByteArray} {pos : Nat} (h : RdB w F v l) (hk : w.heap[g]? = some (.stringIter s pos)) (pos' : Nat) : RdB (w.iterAt g s pos') F v l := by
  obtain ⟨h1, A, c, hv, hc, hm, h2⟩ := h
  refine ⟨h1, A, c, hv, hc, hm, fun hn => ?_⟩
  obtain ⟨ad, e, hf, hcell⟩ := h2 hn
  exact ⟨ad, e, hf, fun j u hu => cell_iterAt hk (hcell j u hu)⟩
theorem OwnT.iterAt {w : World} {base : Nat} {v : Value} {ll : List (List UInt8)} {g : Nat} {s : ByteArray} {pos : Nat} (h : OwnT w base v ll) (hk : w.heap[g]? = some (.stringIter s pos)) (pos' : Nat) : OwnT (w.iterAt g s pos') base v ll := by
  obtain ⟨vs, h1, h2, h3⟩ := h
  refine ⟨vs, h1, ⟨h2.1, ?_⟩, fun k x l hx hl => ?_⟩
  · rcases h2.2 with hn | ⟨g', cap, cur, rfl, hb, hg, rest⟩
    · exact .inl hn
    · refine .inr ⟨g', cap, cur, rfl, hb, ?_, rest⟩
      rw [Lib.iterAt_other _ _ _ _ _ (fun e => by subst e; rw [hk] at hg; cases hg)]
      exact hg
  · exact ((h3 k x l hx hl).iterAt hk pos').mono fun b hb => ⟨trivial, by rw [Lib.iterAt_size]; exact hb.2.1, hb.2.2⟩
theorem OwnT.noIter {w : World} {base : Nat} {v : Value} {ll : List (List UInt8)} {g : Nat} {s : ByteArray} {pos : Nat} (h : OwnT w base v ll) (hk : w.heap[g]? = some (.stringIter s pos)) : v.ownBlock ≠ some g := by
  obtain ⟨vs, h1, h2, h3⟩ := h
  intro e
  rcases h2.2 with ⟨rfl, _⟩ | ⟨g', cap, cur, rfl, hb, hg, rest⟩
  · simp [Value.ownBlock] at e
  · simp only [Value.ownBlock, Option.some.injEq] at e
    subst e
    rw [hk] at hg
    cases hg
theorem RecR.lt {w : World} {F : Nat → Prop} {x : RcS} {wv rv sv pv : Value} (h : RecR w F x wv rv sv pv) : RecR w (fun k => F k ∧ k < w.heap.size) x wv rv sv pv :=
  ⟨h.ws.lt, h.rs.lt, RdV.lt h.sh (by omega), h.rep.lt, h.u1, h.u2, h.u3, h.u4, h.ki⟩
theorem kiB_int (k : Int) : IntKind.u8.wrap k = ((kiB k).toNat : Int) := by
  rw [kiB, UInt8.toNat_ofNat', IntKind.wrap_u8]
  omega
theorem joinB_len (ll : List (List UInt8)) : (joinB ll).length ≤ 9 + 9 * (ll.map fun l => l.length + 1).sum := by
  have h1 := numB_length ll.length
  have h2 := flatB_length ll
  rw [joinB, List.length_append]; omega
theorem recY_len (x : RcS) (hs : RcSm x) : (recY x).length ≤ 2000000000 := by
  have h := joinB_len ([kiB x.kind] :: fldR x)
  obtain ⟨h1, h2, h3, h4, h5, h6, h7⟩ := hs
  have a1 := txB_len x
  have a2 := triB_len x.ws
  have a3 := triB_len x.rs
  have a4 := flB_len x.commit
  have a5 := shB_len x.shards
  have a6 := numB_length x.id
  have a7 : (nmB x.name).length = x.name.size := Array.length_toList
  unfold recY
  refine Nat.le_trans h ?_
  unfold fldR
  split
  · simp only [List.map_cons, List.map_nil, List.sum_cons, List.sum_nil, List.length_cons, List.length_nil]; omega
  split
  · simp only [List.map_cons, List.map_nil, List.sum_cons, List.sum_nil, List.length_cons, List.length_nil]; omega
  split
  · simp only [List.map_cons, List.map_nil, List.sum_cons, List.sum_nil, List.length_cons, List.length_nil]; omega
  split
  · simp only [List.map_cons, List.map_nil, List.sum_cons, List.sum_nil, List.length_cons, List.length_nil]; omega
  split
  · simp only [List.map_cons, List.map_nil, List.sum_cons, List.sum_nil, List.length_cons, List.length_nil]; omega
  · simp only [List.map_cons, List.map_nil, List.sum_cons, List.sum_nil, List.length_cons, List.length_nil]; omega

set_option maxHeartbeats 4000000 in
set_option maxRecDepth 100000 in
theorem recBytes {x : RcS} {wv rv sv pv : Value} {F : Nat → Prop} {w : World} (hr : RecR w F x wv rv sv pv) (hs : RcSm x) :
    Calls Try.prog 9 #[.agg (recC x wv rv sv pv)] w fun e w' => ∃ u, e = .returned u ∧ OwnB w' w.heap.size u (recY x) ∧ Chg Non w w' := by
  have hk0 : Chg Non w (w.alloc (.cells (recC x wv rv sv pv) 32)) := (Chg.refl Non w).alloc _
  have hb0 := Blk.new w 32 (recC x wv rv sv pv)
  have hr0 := hr.lt.c0 hk0
  obtain ⟨hsl, hsa⟩ := fldS_small x.kind
  have HM := hide (fldR_map x)
  have HY := hide (recY_len x hs)
  have hki := kiB_int x.kind
  clear hr
  unfold recC at hk0 hb0 hr0 ⊢
  go_enter Try.func9, Try.ntmps9
  go_upto_region 1 with fail
  generalize World.alloc _ _ = w0 at hb0 hk0 hr0 ⊢
  have hsz := hk0.size
  obtain ⟨c0, c1, c2, c3, c4, c5, c6, c7, c8, c9, c10⟩ := rblk hb0
  obtain ⟨s, hsl, hsa, HM, HF⟩ : ∃ s : ByteArray, s.size ≤ 4 ∧ (∀ (i : Nat) (h : i < s.size), (s[i]'h).toNat < 128) ∧ Hid (fldR x = s.data.toList.map fun b => fldP x (b.toNat : Int)) ∧
      Hid (∀ w', Calls Try.prog 23 #[.int .i64 x.kind] w' fun e w2 => e = .returned (.string s) ∧ w2 = w') :=
    ⟨fldS x.kind, hsl, hsa, HM, hide fun w' => recFields⟩
  have hlast : Blk w0 w.heap.size 32 (recC x wv rv sv pv) := hb0
  have hr1 := hr0
  clear hb0 hr0
  go_upto_region 2 with fail
  have k1 : Chg Non w0 ((w0.alloc (.cells #[.int .u8 ((kiB x.kind).toNat : Int)] 5)).alloc (.cells #[.slice (some ⟨w0.heap.size, 0, none⟩) 1 1] 28)) := ((Chg.refl Non w0).alloc _).alloc _
  have hO : OwnT ((w0.alloc (.cells #[.int .u8 ((kiB x.kind).toNat : Int)] 5)).alloc (.cells #[.slice (some ⟨w0.heap.size, 0, none⟩) 1 1] 28)) (w0.alloc (.cells #[.int .u8 ((kiB x.kind).toNat : Int)] 5)).heap.size (.slice (some ⟨(w0.alloc (.cells #[.int .u8 ((kiB x.kind).toNat : Int)] 5)).heap.size, 0, none⟩) 1 1) [[kiB x.kind]] :=
    OwnT.lit (us := [.slice (some ⟨w0.heap.size, 0, none⟩) 1 1]) (RdsB.cons (own_one w0 (kiB x.kind) _ rfl).rd (fun b hb => by simp [Value.ownBlock]) (RdsB.nil_ _ _)) 1 rfl (by simp [maxLen]) rfl
  have hO := hO.low (show w0.heap.size ≤ _ by simp)
  rw [show (w0.alloc (.cells #[.int .u8 ((kiB x.kind).toNat : Int)] 5)).heap.size = w0.heap.size + 1 from by simp] at hO
  have hc0 := cell_al (o := .cells #[.slice (some ⟨w0.heap.size, 0, none⟩) 1 1] 28) (cell_al (o := .cells #[.int .u8 ((kiB x.kind).toNat : Int)] 5) c0)
  have hs1 := k1.size
  clear c0 c1 c2 c3 c4 c5 c6 c7 c8 c9 c10 hki
  generalize World.alloc _ _ = w1 at k1 hO hc0 hs1 ⊢
  generalize Value.slice (some ⟨w0.heap.size + 1, 0, none⟩) 1 1 = p0 at hO ⊢
  go_wp2_with fail
  refine (HF.out _).mono ?_
  rintro e w2 ⟨rfl, rfl⟩
  have hit : (w2.iter s 0).heap[w2.heap.size]? = some (.stringIter s 0) := heap_alloc_new w2 _
  have k2 : Chg Non w0 (w2.iter s 0) := k1.alloc _
  have hO2 : OwnT (w2.iter s 0) w0.heap.size p0 [[kiB x.kind]] := hO.al (.stringIter s 0)
  obtain ⟨g, hg⟩ : ∃ g, g = w2.heap.size := ⟨_, rfl⟩
  have hg0 : w0.heap.size ≤ g := by omega
  rw [← hg] at hit
  clear hc0 hO k1
  go_upto_region 3 with fail
  rw [← hg]
  generalize World.iter _ _ _ = w3 at hit k2 hO2 ⊢
  clear hg hs1 HF
  go_loopw [3] (fun pv wr => ∃ k, k ≤ s.size ∧ wr.heap[g]? = some (.stringIter s k) ∧ OwnT wr w0.heap.size pv ([kiB x.kind] :: (fldR x).take k) ∧ Chg Non w0 wr) (fun _ wr => s.size - wr.iterPos g)
  case atStart => exact ⟨0, Nat.zero_le _, hit, hO2, k2⟩
  case round =>
    clear hit hO2 k2
    obtain ⟨k, hk, hit, hO, hcw⟩ := hrel
    have hb := hlast.c0 hcw
    have hr2 := hr1.c0 hcw
    unfold recC at hb
    by_cases h1 : k < s.size
    · have hnx : ∀ ty, (Instr.next (.pointer (some ⟨g, 0, none⟩)) true ty).run Try.prog wr = _ := fun ty => Lib.run_next_ascii_at wr g s k ty hit h1 (hsa k h1)
      have hit1 := Lib.iterAt_heap wr g s k (k + 1) hit
      have kk := chg_iterAt wr g s (k + 1)
      have hcw1 : Chg Non w0 (wr.iterAt g s (k + 1)) := hcw.trans kk fun j hj e => by omega
      have hO1 := hO.iterAt hit (k + 1)
      have hb1 := hlast.c0 hcw1
      have hr3 := hr1.c0 hcw1
      unfold recC at hb1
      have HT := hide (show (fldR x).take (k + 1) = (fldR x).take k ++ [fldP x (((s[k]'h1).toNat : Nat) : Int)] from by
        rw [HM.out]
        rw [List.take_succ_eq_append_getElem (by rw [List.length_map, Array.length_toList]; exact h1), List.getElem_map]
        rfl)
      have hlen : ((fldR x).take k).length ≤ k := by rw [List.length_take]; omega
      have hdl : ([kiB x.kind] :: (fldR x).take k).length + 1 ≤ 1000000000000 := by rw [List.length_cons]; omega
      clear hb hr2 hO
      go_upto_region 5 with fail
      generalize World.iterAt _ _ _ _ = w4 at hit1 hcw1 hO1 hb1 hr3 ⊢
      have HIT := hide hit
      clear kk hnx hit hcw
      obtain ⟨c, hc⟩ : ∃ c : Int, c = (((s[k]'h1).toNat : Nat) : Int) := ⟨_, rfl⟩
      rw [← hc] at HT ⊢
      clear hc
      obtain ⟨c0, c1, c2, c3, c4, c5, c6, c7, c8, c9, c10⟩ := rblk hb1
      have hcall := recPart (c := c) hr3 hs
      unfold recC at hcall
      have HC := hide hcall
      have hs4 := hcw1.size
      have hnot : ∀ b, ((F b ∧ b < w.heap.size) ∨ w4.heap.size ≤ b) → u3.ownBlock ≠ some b := fun b hb e => by
        have := hO1.lt b e
        rcases hb with hb | hb <;> omega
      have hni := hO1.noIter hit1
      clear hcall hb1
      go_wp2_with (first
        | (go_at_call 24; refine HC.out.mono ?_; rintro e w5 ⟨u5, rfl, hu5, hc5⟩; obtain ⟨A5, n5, k5, rfl⟩ := hu5.sl; have hs5 := hc5.size)
        | (at_builtin; refine append_T rfl _ _ rfl ((hO1.c0 hc5).al _) rfl (RdsB.cons (hu5.al _) hnot (RdsB.nil_ _ _)) (Blk.new _ _ _) rfl rfl rfl hdl (Nat.le_trans hs4 (Nat.le_trans hs5 (szAl _ _))) ?_; intro v6 w6 hO6 hg6 hat6))
      have k6 := Chg.appT ((hcw1.trans0 hc5).alloc _) hg6 ((hO1.c0 hc5).al _) (Nat.le_refl _)
      have k56 := ((Chg.refl Non w4).trans0 hc5).alloc (.cells #[.slice A5 n5 k5] 28)
      have hit6 : w6.heap[g]? = some (.stringIter s (k + 1)) := by
        exact (Chg.of_grown hg6).heap (k56.heap hit1 fun h => h) fun e => hni e.symm
      go_roundw
      case rel => exact ⟨k + 1, by omega, hit6, by rw [HT.out]; exact hO6, k6⟩
      case measure => simp only [World.iterPos, hit6, HIT.out]; omega
    · have hnx : ∀ ty, (Instr.next (.pointer (some ⟨g, 0, none⟩)) true ty).run Try.prog wr = _ := fun ty => Lib.run_next_end_at wr g s k ty hit h1
      have HK := hide (show (fldR x).take k = fldR x from List.take_of_length_le (by rw [HM.out, List.length_map]; show s.size ≤ k; omega))
      rw [HK.out] at hO
      have hj := packJoin hO.rd (by have := HY.out; unfold recY at this; omega)
      go_wp2_with fail
      refine hj.mono ?_
      rintro e w5 ⟨u5, rfl, hu5, hc5⟩
      go_wp2_with fail
      go_ret
      exact ⟨_, rfl, hu5.low (Nat.le_trans hsz hcw.size), (hk0.trans0 hcw).trans0 hc5⟩
end Go.Proofs.Ytpbgjldjipgfeaa
